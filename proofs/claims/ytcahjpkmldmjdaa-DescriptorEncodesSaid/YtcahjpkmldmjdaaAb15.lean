/-
  Abstract values for walks without memory: code, and calls.
-/
import Derived.Test.YtcahjpkmldmjdaaAb14
import Derived.Deep.LoopGhost
namespace Go.Proofs.Ytcahjpkmldmjdaa.Ab
open Go

/-! ### calls: what a walk must show of one -/

def Calls1 (P : Program) (f : Nat) : Prop := ∀ (args : Array Value) (w : World), (callFunc f args).run P w = .ok (.enter f args) w

/-- A call, from a state: whatever world reads as the state, the call comes back, and a state of which K holds reads as the world behind it. -/
def CallA (P : Program) (f : Nat) (args : List PV) (S : St) (d : Option Nat) (K : St → Prop) : Prop :=
  Calls1 P f ∧ ∀ (F : Fr) (om : Id → Option Nat) (a : Act) (w : World), SRel P F om a w S → (∀ t, d = some t → t < F.n) → ∀ vs : List Value, args.length = vs.length →
    (∀ (j : Nat) (y : PV) (v : Value), args[j]? = some y → vs[j]? = some v → VR P F.I0 F.base om w y v) →
    Calls P f vs.toArray w fun e w' => ∃ v om' S', e = .returned v ∧ SRel P F om' (a.put d v) w' S' ∧ K S'

def stepA (P : Program) (tab : Tab) (r k : Nat) (o : Oper) (S : St) (K : St → Prop) : Prop :=
  match ev tab r k o S with
  | .go c f => c ∧ K (ap o.dst S f)
  | .br b f g => (b = true → K (ap o.dst S f)) ∧ (b = false → K (ap o.dst S g))
  | .nd c v => ∀ b, c b → K (S.put o.dst (v b))
  | .call f args => CallA P f args S o.dst K
  | .stuck => False

def guardA (ops : Array Oper) (j : Nat) (S : St) : Option Bool := match (ops[j]?).bind (·.dst) with
  | some t => match S.env t with
    | .bool b => some b
    | _ => none
  | none => none

def wpo (P : Program) (tab : Tab) (r : Nat) (ops : Array Oper) : Nat → List Oper → (St → Prop) → St → Prop
  | _, [], K, S => K S
  | k, o :: rest, K, S => match o.guard with
    | none => stepA P tab r k o S (wpo P tab r ops (k + 1) rest K)
    | some (j, want) => match guardA ops j S with
      | some b => (b = want → stepA P tab r k o S (wpo P tab r ops (k + 1) rest K)) ∧ (b = (!want) → wpo P tab r ops (k + 1) rest K (S.put o.dst .dead))
      | none => False

inductive AE where
  | normal
  | exit (id : Nat)
  | ret

def AE.to : AE → Exit
  | .normal => .normal
  | .exit id => .exit id
  | .ret => .ret

/-- A post of code, told of the machine. -/
def lift (P : Program) (F : Fr) (Q : AE → St → Prop) : Exit → Act → World → Prop := fun e a w => ∃ e' om S, e = e'.to ∧ SRel P F om a w S ∧ Q e' S

def opOK (n : Nat) (o : Oper) : Bool := (match o.dst with
  | some d => decide (d < n)
  | none => true) && (match o.op with
  | .call c => c.args.size == c.argTypes.size
  | _ => true)

def opsOK (n : Nat) (ops : List Oper) : Bool := ops.all (opOK n)

/-- A region that draws its order. -/
def wpD (P : Program) (ops : Array Oper) (K : St → Prop) (S : St) : Prop :=
  ∀ (F : Fr) (om : Id → Option Nat) (a : Act) (w : World), opsOK F.n ops.toList = true → SRel P F om a w S →
    wpAny P .any ops (lift P F fun e S' => match e with
      | .normal => K S'
      | _ => False) ops.size (Array.replicate ops.size false) a w

def wpC (P : Program) (tab : Tab) : Code → (AE → St → Prop) → St → Prop
  | .skip, Q, S => Q .normal S
  | .seq x y, Q, S => wpC P tab x (fun e S' => match e with
    | .normal => wpC P tab y Q S'
    | .exit id => Q (.exit id) S'
    | .ret => Q .ret S') S
  | .cond c x y, Q, S => match opnd S c with
    | .bool t => (t = true → wpC P tab x Q S) ∧ (t = false → wpC P tab y Q S)
    | _ => False
  | .block id c, Q, S => wpC P tab c (fun e S' => match e with
    | .normal => Q .normal S'
    | .exit id' => if id' = id then Q .normal S' else Q (.exit id') S'
    | .ret => Q .ret S') S
  | .loop c, Q, S => ∃ (I : Nat → St → Prop) (n : Nat), I n S ∧ ∀ n S', I n S' → wpC P tab c (fun e S'' => match e with
    | .normal => ∃ m, m < n ∧ I m S''
    | .exit id => Q (.exit id) S''
    | .ret => Q .ret S'') S'
  | .exit id, Q, S => Q (.exit id) S
  | .ret, Q, S => Q .ret S
  | .region r ops draws, Q, S => if draws = true then wpD P ops (Q .normal) S else wpo P tab r ops 0 ops.toList (Q .normal) S
  | _, _, _ => False

def codeOK (n : Nat) : Code → Bool
  | .seq x y => codeOK n x && codeOK n y
  | .cond _ x y => codeOK n x && codeOK n y
  | .block _ c => codeOK n c
  | .loop c => codeOK n c
  | .region _ ops _ => opsOK n ops.toList
  | _ => true

def Ev.isGo : Ev → Bool
  | .go _ _ => true
  | .stuck => true
  | _ => false

theorem evOp_isGo (tab : Tab) (t : Nat) (op : BinOp) (x y : PV) : (evOp tab t op x y).isGo = true := by
  unfold evOp
  (repeat' split) <;> first | rfl | (unfold evInt; split <;> rfl) | (unfold evStr; split <;> rfl) | (unfold evBool; split <;> rfl) | (unfold evAppendTo; (repeat' split) <;> rfl) | (unfold evBin; (repeat' split) <;> first | rfl | (unfold evInt; split <;> rfl) | (unfold evStr; split <;> rfl))

theorem evConv_isGo (tab : Tab) (s d : Nat) (x : PV) : (evConv tab s d x).isGo = true := by
  unfold evConv
  (repeat' split) <;> first | rfl | (unfold evInt; split <;> rfl) | (unfold evStr; split <;> rfl) | (unfold evBool; split <;> rfl) | (unfold evAppendTo; (repeat' split) <;> rfl) | (unfold evBin; (repeat' split) <;> first | rfl | (unfold evInt; split <;> rfl) | (unfold evStr; split <;> rfl))

theorem evSame_isGo (tab : Tab) (s : Nat) (x : PV) : (evSame tab s x).isGo = true := by
  unfold evSame
  (repeat' split) <;> rfl

theorem evSlice_isGo (tab : Tab) (t : Nat) (S : St) (x : PV) (lo hi mx : Option Operand) : (evSlice tab t S x lo hi mx).isGo = true := by
  unfold evSlice
  (repeat' split) <;> first | rfl | (unfold evInt; split <;> rfl) | (unfold evStr; split <;> rfl) | (unfold evBool; split <;> rfl) | (unfold evAppendTo; (repeat' split) <;> rfl) | (unfold evBin; (repeat' split) <;> first | rfl | (unfold evInt; split <;> rfl) | (unfold evStr; split <;> rfl))

theorem evAppend_isGo (tab : Tab) (r k : Nat) (S : St) (c : Call) : (evAppend tab r k S c).isGo = true := by
  unfold evAppend
  (repeat' split) <;> first | rfl | (unfold evInt; split <;> rfl) | (unfold evStr; split <;> rfl) | (unfold evBool; split <;> rfl) | (unfold evAppendTo; (repeat' split) <;> rfl) | (unfold evBin; (repeat' split) <;> first | rfl | (unfold evInt; split <;> rfl) | (unfold evStr; split <;> rfl))

theorem evLen_isGo (tab : Tab) (S : St) (c : Call) : (evLen tab S c).isGo = true := by
  unfold evLen
  (repeat' split) <;> first | rfl | (unfold evInt; split <;> rfl) | (unfold evStr; split <;> rfl) | (unfold evBool; split <;> rfl) | (unfold evAppendTo; (repeat' split) <;> rfl) | (unfold evBin; (repeat' split) <;> first | rfl | (unfold evInt; split <;> rfl) | (unfold evStr; split <;> rfl))

theorem evMinMax_isGo (mx : Bool) (S : St) (c : Call) : (evMinMax mx S c).isGo = true := by
  unfold evMinMax
  (repeat' split) <;> first | rfl | (unfold evInt; split <;> rfl) | (unfold evStr; split <;> rfl) | (unfold evBool; split <;> rfl) | (unfold evAppendTo; (repeat' split) <;> rfl) | (unfold evBin; (repeat' split) <;> first | rfl | (unfold evInt; split <;> rfl) | (unfold evStr; split <;> rfl))

theorem evBuildSlice_isGo (tab : Tab) (r k t n : Nat) (S : St) (parts : Array (Nat × Operand)) : (evBuildSlice tab r k t n S parts).isGo = true := by
  unfold evBuildSlice
  (repeat' split) <;> first | rfl | (unfold evInt; split <;> rfl) | (unfold evStr; split <;> rfl) | (unfold evBool; split <;> rfl) | (unfold evAppendTo; (repeat' split) <;> rfl) | (unfold evBin; (repeat' split) <;> first | rfl | (unfold evInt; split <;> rfl) | (unfold evStr; split <;> rfl))

theorem evMake_isGo (tab : Tab) (r k t : Nat) (l c : PV) : (evMake tab r k t l c).isGo = true := by
  unfold evMake
  (repeat' split) <;> first | rfl | (unfold evInt; split <;> rfl) | (unfold evStr; split <;> rfl) | (unfold evBool; split <;> rfl) | (unfold evAppendTo; (repeat' split) <;> rfl) | (unfold evBin; (repeat' split) <;> first | rfl | (unfold evInt; split <;> rfl) | (unfold evStr; split <;> rfl))

theorem evFieldAddr_isGo (tab : Tab) (s f : Nat) (x : PV) : (evFieldAddr tab s f x).isGo = true := by
  unfold evFieldAddr
  (repeat' split) <;> first | rfl | (unfold evInt; split <;> rfl) | (unfold evStr; split <;> rfl) | (unfold evBool; split <;> rfl) | (unfold evAppendTo; (repeat' split) <;> rfl) | (unfold evBin; (repeat' split) <;> first | rfl | (unfold evInt; split <;> rfl) | (unfold evStr; split <;> rfl))

theorem evField_isGo (tab : Tab) (s f : Nat) (x : PV) : (evField tab s f x).isGo = true := by
  unfold evField
  (repeat' split) <;> first | rfl | (unfold evInt; split <;> rfl) | (unfold evStr; split <;> rfl) | (unfold evBool; split <;> rfl) | (unfold evAppendTo; (repeat' split) <;> rfl) | (unfold evBin; (repeat' split) <;> first | rfl | (unfold evInt; split <;> rfl) | (unfold evStr; split <;> rfl))

theorem evIndexAddr_isGo (tab : Tab) (t : Nat) (x ix : PV) : (evIndexAddr tab t x ix).isGo = true := by
  unfold evIndexAddr
  (repeat' split) <;> first | rfl | (unfold evInt; split <;> rfl) | (unfold evStr; split <;> rfl) | (unfold evBool; split <;> rfl) | (unfold evAppendTo; (repeat' split) <;> rfl) | (unfold evBin; (repeat' split) <;> first | rfl | (unfold evInt; split <;> rfl) | (unfold evStr; split <;> rfl))

theorem evIndex_isGo (tab : Tab) (t : Nat) (x ix : PV) : (evIndex tab t x ix).isGo = true := by
  unfold evIndex
  (repeat' split) <;> first | rfl | (unfold evInt; split <;> rfl) | (unfold evStr; split <;> rfl) | (unfold evBool; split <;> rfl) | (unfold evAppendTo; (repeat' split) <;> rfl) | (unfold evBin; (repeat' split) <;> first | rfl | (unfold evInt; split <;> rfl) | (unfold evStr; split <;> rfl))

theorem evLoad_isGo (tab : Tab) (t : Nat) (S : St) (x : PV) : (evLoad tab t S x).isGo = true := by
  unfold evLoad
  (repeat' split) <;> first | rfl | (unfold evInt; split <;> rfl) | (unfold evStr; split <;> rfl) | (unfold evBool; split <;> rfl) | (unfold evAppendTo; (repeat' split) <;> rfl) | (unfold evBin; (repeat' split) <;> first | rfl | (unfold evInt; split <;> rfl) | (unfold evStr; split <;> rfl))

theorem evStore_isGo (tab : Tab) (t : Nat) (S : St) (x y : PV) : (evStore tab t S x y).isGo = true := by
  unfold evStore
  (repeat' split) <;> first | rfl | (unfold evInt; split <;> rfl) | (unfold evStr; split <;> rfl) | (unfold evBool; split <;> rfl) | (unfold evAppendTo; (repeat' split) <;> rfl) | (unfold evBin; (repeat' split) <;> first | rfl | (unfold evInt; split <;> rfl) | (unfold evStr; split <;> rfl))

theorem evBuild_isGo (tab : Tab) (t : Nat) (S : St) (parts : Array (Nat × Operand)) : (evBuild tab t S parts).isGo = true := by
  unfold evBuild
  (repeat' split) <;> first | rfl | (unfold evInt; split <;> rfl) | (unfold evStr; split <;> rfl) | (unfold evBool; split <;> rfl) | (unfold evAppendTo; (repeat' split) <;> rfl) | (unfold evBin; (repeat' split) <;> first | rfl | (unfold evInt; split <;> rfl) | (unfold evStr; split <;> rfl))

/-- What is no plain step. -/
theorem ev_other {tab : Tab} {r k : Nat} {o : Oper} {S : St} (h : (ev tab r k o S).isGo = false) :
    (∃ c x y q, o.op = .pick c x y ∧ opnd S c = .bool q ∧ ev tab r k o S = .br q (.val (opnd S x)) (.val (opnd S y))) ∨
    (∃ op t x y yt, o.op = .binOp op t x y yt ∧ isNilSl y = true ∧ ev tab r k o S = evNil tab t op (opnd S x)) ∨
    (∃ c fo g caps, o.op = .call c ∧ c.callee = .value fo ∧ opnd S fo = .fn g caps ∧ ev tab r k o S = .call g (((c.args.toList.zip c.argTypes.toList).map fun p => opndT tab p.2 S p.1) ++ caps)) := by
  have hsame : ev tab r k o S = ev tab r k o S := rfl
  revert h
  conv => lhs; rw [ev]
  intro h
  split at h
  case h_3 c x y ho =>
    split at h
    · rename_i q hop
      exact .inl ⟨c, x, y, q, ho, hop, by rw [ev]; simp only [ho, hop]⟩
    · cases h
  case h_11 op t x y yt ho =>
    split at h
    · rename_i hn
      exact .inr (.inl ⟨op, t, x, y, yt, ho, hn, by rw [ev]; simp only [ho, hn, if_true]⟩)
    · rw [evOp_isGo] at h; cases h
  case h_22 c ho =>
    split at h
    · rw [evLen_isGo] at h; cases h
    · rw [evAppend_isGo] at h; cases h
    · rw [evMinMax_isGo] at h; cases h
    · rw [evMinMax_isGo] at h; cases h
    · rename_i fo hc
      split at h
      · rename_i g caps hop
        exact .inr (.inr ⟨c, fo, g, caps, ho, hc, hop, by rw [ev]; simp only [ho, hc, hop]⟩)
      · cases h
    · cases h
  all_goals first
    | cases h
    | (split at h <;> first | (rw [evConv_isGo] at h; cases h) | (rw [evSame_isGo] at h; cases h))
    | (rw [evSlice_isGo] at h; cases h)
    | (rw [evBuildSlice_isGo] at h; cases h)
    | (rw [evMake_isGo] at h; cases h)
    | (rw [evFieldAddr_isGo] at h; cases h)
    | (rw [evField_isGo] at h; cases h)
    | (rw [evIndexAddr_isGo] at h; cases h)
    | (rw [evIndex_isGo] at h; cases h)
    | (rw [evLoad_isGo] at h; cases h)
    | (rw [evStore_isGo] at h; cases h)
    | (rw [evBuild_isGo] at h; cases h)
    | (split at h <;> cases h; done)
    | ((repeat' split at h) <;> cases h)

section
variable {P : Program} {tab : Tab} {F : Fr} {om : Id → Option Nat} {a : Act} {w : World} {S : St}

theorem St.put_none (S : St) (v : PV) : S.put none v = S := rfl

/-- An operation, told of the machine. -/
theorem step_upon {o : Oper} {S' : St} (h : StepOK P F o a w S') {next : Act → World → Prop} {Q : Exit → Act → World → Prop} (hn : ∀ om' a' w', SRel P F om' a' w' S' → next a' w') : o.wp P a w next Q := by
  obtain ⟨om', v, w', hrun, hrel⟩ := h
  unfold Oper.wp
  rcases hrun with hrun | ⟨hrun, rfl⟩
  · rw [hrun]; exact hn om' _ w' hrel
  · rw [hrun]; exact hn om' _ w' hrel

theorem call_run {o : Oper} (h : SRel P F om a w S) {c : Call} (ho : o.op = .call c) {fo : Operand} (hc : c.callee = .value fo) {g : Nat} {caps : List PV} (hf : opnd S fo = .fn g caps) (h1 : Calls1 P g)
    (hlen : c.args.size = c.argTypes.size) :
    ∃ vs : List Value, (execOp a.eval o).run P w = .ok (.enter g vs.toArray) w ∧ ((((c.args.toList.zip c.argTypes.toList).map fun p => opndT tab p.2 S p.1) ++ caps).length = vs.length) ∧
      ∀ (j : Nat) (y : PV) (v : Value), (((c.args.toList.zip c.argTypes.toList).map fun p => opndT tab p.2 S p.1) ++ caps)[j]? = some y → vs[j]? = some v → VR P F.I0 F.base om w y v := by
  have hfv := opnd_VR h fo
  rw [hf] at hfv
  obtain ⟨us, hv, hn, hrel⟩ := hfv.fn_inv
  have hl1 : ((c.args.toList.zip c.argTypes.toList).map fun p => opndT tab p.2 S p.1).length = (c.args.toList.map a.eval).length := by simp [hlen]
  refine ⟨c.args.toList.map a.eval ++ us.toList, ?_, by simp [hlen, hn], ?_⟩
  · obtain ⟨callee, args, argTypes⟩ := c
    simp only at hc
    subst hc
    have := h1 (args.map a.eval ++ us) w
    have e1 : (args.toList.map a.eval ++ us.toList).toArray = args.map a.eval ++ us := by
      apply Array.ext'
      simp
    rw [e1]
    simp [execOp, ho, resolve, hv, Deferred.ofValue, invoke, this]
  · intro j y v hy hvj
    by_cases hj : j < (c.args.toList.map a.eval).length
    · rw [List.getElem?_append_left (by omega)] at hy
      rw [List.getElem?_append_left hj] at hvj
      rw [List.getElem?_map] at hy hvj
      cases hp : (c.args.toList.zip c.argTypes.toList)[j]? with
      | none => simp [hp] at hy
      | some p =>
        simp only [hp, Option.map_some, Option.some.injEq] at hy
        obtain ⟨h2, h3⟩ := List.getElem?_zip_eq_some.1 hp
        rw [h2] at hvj
        simp only [Option.map_some, Option.some.injEq] at hvj
        subst hy
        subst hvj
        exact opndT_VR h p.2 p.1
    · rw [List.getElem?_append_right (by omega), hl1] at hy
      rw [List.getElem?_append_right (by omega)] at hvj
      exact hrel _ y v hy (by simpa using hvj)

theorem opOK_dst {n : Nat} {o : Oper} (h : opOK n o = true) : ∀ t, o.dst = some t → t < n := by
  intro t ht
  unfold opOK at h
  rw [ht] at h
  simp only [Bool.and_eq_true, decide_eq_true_eq] at h
  exact h.1

theorem opOK_call {n : Nat} {o : Oper} (h : opOK n o = true) : ∀ c, o.op = .call c → c.args.size = c.argTypes.size := by
  intro c hc
  unfold opOK at h
  rw [hc] at h
  simp only [Bool.and_eq_true, beq_iff_eq] at h
  exact h.2

theorem stepA_sound (hT : TabOK P tab) (h : SRel P F om a w S) {o : Oper} (hd : ∀ t, o.dst = some t → t < F.n) (hcl : ∀ c, o.op = .call c → c.args.size = c.argTypes.size) {r k : Nat} {K : St → Prop} (hs : stepA P tab r k o S K)
    {next : Act → World → Prop} {Q : Exit → Act → World → Prop} (hn : ∀ om' a' w' S', SRel P F om' a' w' S' → K S' → next a' w') : o.wp P a w next Q := by
  unfold stepA at hs
  split at hs
  · rename_i c f he
    exact step_upon (ev_sound hT h hd he hs.1) fun om' a' w' hr => hn om' a' w' _ hr hs.2
  · rename_i b f g he
    rcases ev_other (tab := tab) (r := r) (k := k) (o := o) (S := S) (by rw [he]; rfl) with ⟨c, x, y, q, ho, hop, he'⟩ | ⟨op, t, x, y, yt, ho, hn', he'⟩ | ⟨c, fo, g', caps, ho, hc, hop, he'⟩
    · rw [he] at he'
      obtain ⟨rfl, rfl, rfl⟩ := Ev.br.inj he'
      have hc := opnd_VR h c
      rw [hop] at hc
      have hcv := hc.bool_inv
      cases b with
      | true => exact step_upon (step_val h hd (by simp [execOp, ho, hcv, asBool]) (opnd_VR h x)) fun om' a' w' hr => hn om' a' w' _ hr (hs.1 rfl)
      | false => exact step_upon (step_val h hd (by simp [execOp, ho, hcv, asBool]) (opnd_VR h y)) fun om' a' w' hr => hn om' a' w' _ hr (hs.2 rfl)
    · rw [he] at he'
      unfold evNil at he'
      (repeat' split at he') <;> cases he'
    · rw [he] at he'; cases he'
  · rename_i c v he
    rcases ev_other (tab := tab) (r := r) (k := k) (o := o) (S := S) (by rw [he]; rfl) with ⟨c', x, y, q, ho, hop, he'⟩ | ⟨op, t, x, y, yt, ho, hn', he'⟩ | ⟨c', fo, g', caps, ho, hc, hop, he'⟩
    · rw [he] at he'; cases he'
    · rw [he] at he'
      obtain ⟨b, hb, hstep⟩ := nil_sound hT h hd ho hn' he'.symm
      exact step_upon hstep fun om' a' w' hr => hn om' a' w' _ hr (hs b hb)
    · rw [he] at he'; cases he'
  · rename_i f args he
    rcases ev_other (tab := tab) (r := r) (k := k) (o := o) (S := S) (by rw [he]; rfl) with ⟨c', x, y, q, ho, hop, he'⟩ | ⟨op, t, x, y, yt, ho, hn', he'⟩ | ⟨c', fo, g', caps, ho, hc, hop, he'⟩
    · rw [he] at he'; cases he'
    · rw [he] at he'
      unfold evNil at he'
      (repeat' split at he') <;> cases he'
    · rw [he] at he'
      obtain ⟨rfl, rfl⟩ := Ev.call.inj he'
      obtain ⟨h1, hcall⟩ := hs
      obtain ⟨vs, hrun, hlen, hrel⟩ := call_run (tab := tab) h ho hc hop h1 (hcl c' ho)
      unfold Oper.wp
      rw [hrun]
      refine Calls.mono (hcall F om a w h hd vs hlen hrel) ?_
      rintro e w' ⟨v, om', S', rfl, hr, hK⟩
      exact hn om' _ w' S' hr hK
  · exact hs.elim


theorem guard_yield (h : SRel P F om a w S) {ops : Array Oper} {j : Nat} {b : Bool} (hg : guardA ops j S = some b) : yielded ops a.tmps j = some b := by
  unfold guardA at hg
  split at hg
  case h_2 => cases hg
  rename_i t ht
  split at hg
  case h_2 => cases hg
  rename_i b' hb
  cases hg
  have hv := h.env t
  rw [hb] at hv
  have hvv := hv.bool_inv
  unfold yielded
  rw [ht]
  simp only [Option.bind_some]
  cases hx : a.tmps[t]? with
  | none =>
    rw [Array.getD_eq_getD_getElem?, hx] at hvv
    simp [undef] at hvv
  | some v =>
    rw [Array.getD_eq_getD_getElem?, hx] at hvv
    simp at hvv
    subst hvv
    rfl

theorem wpo_sound (hT : TabOK P tab) {r : Nat} {ops : Array Oper} {K : St → Prop} {Q : Exit → Act → World → Prop} (hQ : ∀ om' a' w' S', SRel P F om' a' w' S' → K S' → Q .normal a' w') :
    ∀ (l : List Oper) (k : Nat) (om : Id → Option Nat) (a : Act) (w : World) (S : St), opsOK F.n l = true → SRel P F om a w S → wpo P tab r ops k l K S → wpList P ops Q l a w
  | [], k, om, a, w, S, _, h, hw => hQ om a w S h hw
  | o :: rest, k, om, a, w, S, hok, h, hw => by
    simp only [opsOK, List.all_cons, Bool.and_eq_true] at hok
    have hd := opOK_dst hok.1
    have hcl := opOK_call hok.1
    have next : ∀ om' a' w' S', SRel P F om' a' w' S' → wpo P tab r ops (k + 1) rest K S' → wpList P ops Q rest a' w' := fun om' a' w' S' hr hK => wpo_sound hT hQ rest (k + 1) om' a' w' S' hok.2 hr hK
    unfold wpo at hw
    unfold wpList
    split at hw
    · rename_i hg
      rw [if_pos (by simp [Region.wanted, hg])]
      exact .inl (stepA_sound hT h hd hcl hw next)
    · rename_i j want hg
      split at hw
      case h_2 => exact hw.elim
      rename_i b hb
      have hy := guard_yield h hb
      by_cases hbw : b = want
      · rw [if_pos (by simp [Region.wanted, hg, hy, hbw])]
        exact .inl (stepA_sound hT h hd hcl (hw.1 hbw) next)
      · rw [if_neg (by simp [Region.wanted, hg, hy, hbw])]
        have hbn : b = !want := by cases b <;> cases want <;> simp_all
        exact next om _ w _ (h.val _ hd _ _ (.dead _)) (hw.2 hbn)

theorem wpOp_post {ops : Array Oper} {i : Nat} {K : Act → World → Prop} {Q Q' : Exit → Act → World → Prop} {a : Act} {w : World} (hq : ∀ e a w, Q e a w → Q' e a w) (h : wpOp P ops Q i K a w) : wpOp P ops Q' i K a w := by
  unfold wpOp at *
  split
  · rename_i hn; simpa [hn] using h
  · rename_i o ho
    simp only [ho] at h
    split
    · rename_i hwn
      rw [if_pos hwn] at h
      rcases h with h | ⟨h1, a0, w0, h2⟩
      · left
        unfold Oper.wp at *
        generalize (execOp a.eval o).run P w = res at *
        cases res with
        | ok n w' =>
          cases n <;> simp only [Oper.upon] at h ⊢ <;> first
            | exact h
            | exact Calls.mono h (fun e w'' he => by
                cases e with
                | returned v => exact he
                | panicked c => exact hq _ _ _ he
                | outgrown => obtain ⟨a0, w0, h0⟩ := he; exact ⟨a0, w0, hq _ _ _ h0⟩)
        | halt x w' =>
          cases x <;> simp only [Oper.upon] at h ⊢ <;> first
            | exact h
            | exact hq _ _ _ h
      · exact .inr ⟨h1, a0, w0, hq _ _ _ h2⟩
    · rename_i hwn
      rw [if_neg hwn] at h
      exact h

theorem wpAny_post {ops : Array Oper} {md : Region.Mode} {Q Q' : Exit → Act → World → Prop} : ∀ {fuel : Nat} {listed : Array Bool} {a : Act} {w : World}, wpAny P md ops Q fuel listed a w → (∀ e a w, Q e a w → Q' e a w) → wpAny P md ops Q' fuel listed a w
  | 0, _, _, _, h, hq => ⟨h.1, hq _ _ _ h.2⟩
  | _ + 1, _, _, _, h, hq => ⟨fun h0 => hq _ _ _ (h.1 h0), fun i hi => wpOp_post hq (wpOp_mono (fun _ _ h' => wpAny_post h' hq) (h.2 i hi))⟩

theorem lift_mono {Q Q' : AE → St → Prop} (hq : ∀ e S, Q e S → Q' e S) : ∀ e a w, lift P F Q e a w → lift P F Q' e a w :=
  fun _ _ _ ⟨e', om, S, h1, h2, h3⟩ => ⟨e', om, S, h1, h2, hq _ _ h3⟩

theorem wpC_sound (hT : TabOK P tab) (hmix : P.follows .mixedOrders = true) : ∀ (c : Code) (Q : AE → St → Prop) (om : Id → Option Nat) (a : Act) (w : World) (S : St), codeOK F.n c = true → SRel P F om a w S → wpC P tab c Q S → c.wp P (lift P F Q) a w := by
  intro c
  induction c with
  | skip => exact fun Q om a w S _ h hw => wp_skip ⟨.normal, om, S, rfl, h, hw⟩
  | seq x y ihx ihy =>
    intro Q om a w S hok h hw
    simp only [codeOK, Bool.and_eq_true] at hok
    refine wp_seq (wp_mono (ihx _ om a w S hok.1 h hw) ?_)
    rintro e a' w' ⟨e', om', S', rfl, hr, hq⟩
    cases e' with
    | normal => exact ihy Q om' a' w' S' hok.2 hr hq
    | exit id => exact ⟨.exit id, om', S', rfl, hr, hq⟩
    | ret => exact ⟨.ret, om', S', rfl, hr, hq⟩
  | cond c x y ihx ihy =>
    intro Q om a w S hok h hw
    simp only [codeOK, Bool.and_eq_true] at hok
    simp only [wpC] at hw
    split at hw
    case h_2 => exact hw.elim
    rename_i t ht
    have hv := opnd_VR h c
    rw [ht] at hv
    refine wp_cond_split (t := t) hv.bool_inv (fun he => ihx Q om a w S hok.1 h (hw.1 he)) (fun he => ihy Q om a w S hok.2 h (hw.2 he))
  | block id c ih =>
    intro Q om a w S hok h hw
    simp only [codeOK] at hok
    refine wp_block (wp_mono (ih _ om a w S hok h hw) ?_)
    rintro e a' w' ⟨e', om', S', rfl, hr, hq⟩
    cases e' with
    | normal => exact ⟨.normal, om', S', rfl, hr, hq⟩
    | exit id' =>
      simp only [AE.to, Exit.inBlock] at hq ⊢
      split at hq
      · rw [if_pos ‹_›]; exact ⟨.normal, om', S', rfl, hr, hq⟩
      · rw [if_neg ‹_›]; exact ⟨.exit id', om', S', rfl, hr, hq⟩
    | ret => exact ⟨.ret, om', S', rfl, hr, hq⟩
  | loop c ih =>
    intro Q om a w S hok h hw
    simp only [codeOK] at hok
    obtain ⟨I, n, h0, hround⟩ := hw
    refine wp_loop_ghost (fun n a w => ∃ om S, SRel P F om a w S ∧ I n S) n ⟨om, S, h, h0⟩ ?_
    rintro n a w ⟨om, S, h, hI⟩
    refine wp_mono (ih _ om a w S hok h (hround n S hI)) ?_
    rintro e a' w' ⟨e', om', S', rfl, hr, hq⟩
    cases e' with
    | normal => obtain ⟨m, hm, hI'⟩ := hq; exact ⟨m, hm, om', S', hr, hI'⟩
    | exit id => exact ⟨.exit id, om', S', rfl, hr, hq⟩
    | ret => exact ⟨.ret, om', S', rfl, hr, hq⟩
  | exit id => exact fun Q om a w S _ h hw => wp_exit ⟨.exit id, om, S, rfl, h, hw⟩
  | ret => exact fun Q om a w S _ h hw => wp_ret ⟨.ret, om, S, rfl, h, hw⟩
  | region r ops draws =>
    intro Q om a w S hok h hw
    simp only [codeOK] at hok
    simp only [wpC] at hw
    cases draws with
    | false =>
      simp only [Bool.false_eq_true, if_false] at hw
      exact wp_region_list (wpo_sound hT (fun om' a' w' S' hr hK => ⟨.normal, om', S', rfl, hr, hK⟩) ops.toList 0 om a w S hok h hw)
    | true =>
      simp only [if_true] at hw
      have hdraw : SRel P F om a { w with drawn := w.drawn + 1 } S := by
        have := h.grow (w' := { w with drawn := w.drawn + 1 }) (Nat.le_refl _) (fun _ _ => rfl) ⟨rfl, rfl, rfl⟩ none (fun t h => by cases h) .dead undef (.dead _)
        exact this
      refine wp_region_any hmix ?_
      refine wpAny_post (hw F om a _ hok hdraw) ?_
      rintro e a' w' ⟨e', om', S', rfl, hr, hq⟩
      cases e' with
      | normal => exact ⟨.normal, om', S', rfl, hr, hq⟩
      | exit id => exact hq.elim
      | ret => exact hq.elim
  | _ => intro Q om a w S _ _ hw; exact hw.elim

end
end Go.Proofs.Ytcahjpkmldmjdaa.Ab
