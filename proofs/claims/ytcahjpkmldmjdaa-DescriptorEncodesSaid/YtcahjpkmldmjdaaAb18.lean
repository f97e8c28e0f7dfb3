/-
  Abstract values for walks without memory: a call by its contract.
-/
import Derived.Test.YtcahjpkmldmjdaaAb17
namespace Go.Proofs.Ytcahjpkmldmjdaa.Ab
open Go

/-- How a caller names what a contract names. -/
def backName (pass : List Id) (rid bid : Option Id) : Id → Id := fun i => match i with
  | .par k => pass.getD k (.par k)
  | .rrow 0 => rid.getD (.rrow 0)
  | .ret 0 => bid.getD (.ret 0)
  | i => i

def callSub (frozen : List Id) (rid bid : Option Id) : Id → Sub := fun i =>
  if rid = some i then .frz else if bid = some i then .kill else if i ∈ frozen then .frz else .keep

def toPar (pass : List Id) : Id → Id := fun i => .par (pass.idxOf i)

def afterH (S : St) (frozen pass : List Id) (rid bid : Option Id) (Hq : Id → Option (List PV)) : Id → Option (List PV) := fun i =>
  if bid = some i then (Hq (.ret 0)).map (PV.rens (backName pass rid bid))
  else if i ∈ pass then (Hq (.par (pass.idxOf i))).map (PV.rens (backName pass rid bid))
  else (S.H i).map (PV.subs (callSub frozen rid bid))

/-- The state behind a call. -/
def afterCall (S : St) (d : Option Nat) (frozen pass : List Id) (rid bid : Option Id) (res : PV) (Hq : Id → Option (List PV)) : St :=
  (⟨fun t => (S.env t).sub (callSub frozen rid bid), afterH S frozen pass rid bid Hq⟩ : St).put d (res.ren (backName pass rid bid))

/-- Names that a contract's result may bear. -/
def okName (pass : List Id) (rid bid : Option Id) : Id → Prop := fun i => (∃ k, i = .par k ∧ k < pass.length) ∨ (i = .rrow 0 ∧ rid.isSome = true) ∨ (i = .ret 0 ∧ bid.isSome = true)

section
variable {P : Program} {F : Fr} {om : Id → Option Nat} {a : Act} {w : World} {S : St}

theorem callSub_keep {frozen : List Id} {rid bid : Option Id} {i : Id} (h : callSub frozen rid bid i = .keep) : rid ≠ some i ∧ bid ≠ some i ∧ i ∉ frozen := by
  unfold callSub at h
  split at h
  · cases h
  · split at h
    · cases h
    · split at h
      · cases h
      · exact ⟨by assumption, by assumption, by assumption⟩

def omCall (om om2 : Id → Option Nat) (frozen : List Id) (rid bid : Option Id) : Id → Option Nat := fun i =>
  if rid = some i then om2 (.rrow 0) else if bid = some i then om2 (.ret 0) else if i ∈ frozen then none else om i

theorem omCall_some {om2 : Id → Option Nat} {frozen : List Id} {rid bid : Option Id} {i : Id} {b : Nat} (h : omCall om om2 frozen rid bid i = some b) :
    (rid = some i ∧ om2 (.rrow 0) = some b) ∨ (bid = some i ∧ om2 (.ret 0) = some b) ∨ (rid ≠ some i ∧ bid ≠ some i ∧ i ∉ frozen ∧ om i = some b) := by
  unfold omCall at h
  split at h
  · exact .inl ⟨by assumption, h⟩
  · split at h
    · exact .inr (.inl ⟨by assumption, h⟩)
    · split at h
      · cases h
      · exact .inr (.inr ⟨by assumption, by assumption, by assumption, h⟩)

/-- A CALL BY ITS CONTRACT. -/
theorem CallA.of_can {f : Nat} {args : List PV} {d : Option Nat} {K : St → Prop} (frozen pass : List Id) (rid bid : Option Id) {Hp : Id → Option (List PV)} {res : PV} {Hq : Id → Option (List PV)}
    (hC : Can P f (args.map fun y => (y.sub (frzAll frozen)).ren (toPar pass)) Hp res Hq)
    (hfro : ∀ i ∈ frozen, i.isRow = true) (hpass : ∀ i ∈ pass, i.isRow = false) (hnd : pass.Nodup) (hrid : ∀ i, rid = some i → i.isRow = true) (hbid : ∀ i, bid = some i → i.isRow = false ∧ i ∉ pass ∧ ∀ k, i ≠ .par k)
    (hids : ∀ y ∈ args, ∀ i ∈ (y.sub (frzAll frozen)).ids, i ∈ pass)
    (hHp : ∀ id cs, Hp id = some cs → ∃ k p cs0, id = .par k ∧ pass[k]? = some p ∧ S.H p = some cs0 ∧ cs = PV.rens (toPar pass) (PV.subs (frzAll frozen) cs0) ∧ ∀ i ∈ PV.idss (PV.subs (frzAll frozen) cs0), i ∈ pass)
    (hres : ∀ i ∈ res.ids, okName pass rid bid i) (hHq : ∀ id cs, Hq id = some cs → ∀ i ∈ PV.idss cs, okName pass rid bid i)
    (hK : K (afterCall S d frozen pass rid bid res Hq)) : CallA P f args S d K := by
  refine ⟨hC.1, ?_⟩
  intro F om a w h hd vs hlen hrel
  -- what is shared before the call
  have hfr : ∀ i, i.isRow = false → i ∉ frozen := fun i hi hm => by rw [hfro i hm] at hi; cases hi
  have E1 : Ext P F.I0 F.base om w (fun i => if i ∈ frozen then none else om i) w (frzAll frozen) := by
    have hs : ∀ i b, (if i ∈ frozen then none else om i) = some b → i ∉ frozen ∧ om i = some b := by
      intro i b hi
      split at hi
      · cases hi
      · exact ⟨by assumption, hi⟩
    refine ⟨fun b hb => ⟨⟨hb.1, fun i hi => hb.2 i (hs i b hi).2⟩, rfl⟩, ?_, ?_, ?_, ?_⟩
    · intro id hr _ b hb
      rw [if_neg (hfr id hr)]
      exact hb
    · intro id hr hk b hb
      refine ⟨?_, rfl⟩
      unfold frzAll at hk
      split at hk
      · cases hk
      · rw [if_neg ‹_›]; exact hb
    · intro id hr hf b hb
      refine ⟨⟨.inr ⟨?_, h.lt id b hb⟩, ?_⟩, rfl⟩
      · rcases h.loc id b hb with h1 | ⟨k, rfl⟩
        · exact h1
        · cases hr
      · intro i hi
        obtain ⟨h1, h2⟩ := hs i b hi
        have := h.inj i id b h2 hb
        subst this
        unfold frzAll at hf
        rw [if_neg h1] at hf
        cases hf
    · intro id i x hr hu
      unfold frzAll at hu
      split at hu <;> cases hu
  -- the callee's names
  have homp : ∀ p ∈ pass, (if p ∈ frozen then none else om p) = om p := fun p hp => if_neg (hfr p (hpass p hp))
  have hidx : ∀ i ∈ pass, pass[pass.idxOf i]? = some i := by
    intro i hi
    have hlt := List.idxOf_lt_length_of_mem hi
    rw [List.getElem?_eq_getElem hlt]
    exact congrArg some (List.getElem_idxOf hlt)
  let omC : Id → Option Nat := fun i => match i with
    | .par k => (pass[k]?).bind om
    | _ => none
  have homC : ∀ i b, omC i = some b → ∃ k p, i = .par k ∧ pass[k]? = some p ∧ om p = some b := by
    intro i b hi
    cases i with
    | par k =>
      change (pass[k]?).bind om = some b at hi
      cases hp : pass[k]? with
      | none => rw [hp] at hi; cases hi
      | some p => rw [hp] at hi; exact ⟨k, p, rfl, hp, hi⟩
    | _ => cases hi
  let F2 : Fr := ⟨Im F.I0 F.base (fun i => if i ∈ frozen then none else om i) w, fun b => w.heap.size ≤ b, fun k => (pass[k]?).bind om, w, 0⟩
  have him2 : ∀ b, Im F.I0 F.base (fun i => if i ∈ frozen then none else om i) w b → Im F2.I0 F2.base omC w b ∧ w.heap[b]? = w.heap[b]? := by
    intro b hb
    refine ⟨⟨.inl hb, fun i hi => ?_⟩, rfl⟩
    obtain ⟨k, p, rfl, hp, hob⟩ := homC i b hi
    refine hb.2 p ?_
    simp only [homp p (List.mem_of_getElem? hp)]
    exact hob
  have hren2 : ∀ i ∈ pass, (toPar pass i).isRow = i.isRow ∧ ∀ b, (if i ∈ frozen then none else om i) = some b → omC (toPar pass i) = some b ∧ w.heap[b]? = w.heap[b]? := by
    intro i hi
    refine ⟨by rw [hpass i hi]; rfl, fun b hb => ⟨?_, rfl⟩⟩
    rw [homp i hi] at hb
    show (pass[pass.idxOf i]?).bind om = some b
    rw [hidx i hi]
    exact hb
  have hW : WRel P F2 omC w Hp := by
    refine ⟨?_, ?_, ?_, ?_, fun _ => rfl, fun b hb => ?_, fun b hb => hb, fun b hb hn => rfl, .refl w⟩
    · intro id cs hcs
      obtain ⟨k, p, cs0, rfl, hp, hS, rfl, hci⟩ := hHp id cs hcs
      obtain ⟨hr, b, cur, T, hb, hh, hn, hrel'⟩ := h.box p cs0 hS
      refine ⟨rfl, b, cur, T, ?_, hh, by rw [PV.rens_map, List.length_map, PV.subs_length]; exact hn, ?_⟩
      · show (pass[k]?).bind om = some b
        rw [hp]; exact hb
      · intro j y c hj hc
        obtain ⟨x, hx, rfl⟩ := PV.rens_get hj
        obtain ⟨x0, hx0, rfl⟩ := PV.subs_get hx
        obtain ⟨r1, r2, r3⟩ := hrel' j x0 c hx0 hc
        exact ⟨PV.isCell_ren (PV.isCell_sub r1), r2, VR.ren him2 (VR.sub E1 r3) fun id hid => hren2 id (hci id (PV.idss_mem hx hid))⟩
    · intro i j b hi hj
      obtain ⟨k, p, rfl, hp, h1⟩ := homC i b hi
      obtain ⟨k', p', rfl, hp', h2⟩ := homC j b hj
      have := h.inj p p' b h1 h2
      subst this
      obtain ⟨hk, hk1⟩ := List.getElem?_eq_some_iff.1 hp
      obtain ⟨hk', hk1'⟩ := List.getElem?_eq_some_iff.1 hp'
      have := (List.getElem_inj hnd (h₀ := hk) (h₁ := hk')).1 (hk1.trans hk1'.symm)
      rw [this]
    · intro i b hi
      obtain ⟨k, p, rfl, hp, h1⟩ := homC i b hi
      exact h.lt p b h1
    · intro i b hi
      obtain ⟨k, p, rfl, hp, h1⟩ := homC i b hi
      exact .inr ⟨k, rfl⟩
    · rcases hb.1 with h1 | h1
      · exact Nat.not_le.2 (h.baseLt (h.i0 b h1))
      · exact Nat.not_le.2 h1.2
  refine Calls.mono (hC.2 F2 omC w vs rfl rfl hW (fun i b hi => by obtain ⟨k, p, rfl, _⟩ := homC i b hi; exact ⟨k, rfl⟩) (by simpa using hlen) ?_) ?_
  · intro j y v hy hv
    rw [List.getElem?_map] at hy
    cases hx : args[j]? with
    | none => simp [hx] at hy
    | some x =>
      simp [hx] at hy
      subst hy
      exact VR.ren him2 (VR.sub E1 (hrel j x v hx hv)) fun id hid => hren2 id (hids x (List.mem_of_getElem? hx) id hid)
  · rintro e w' ⟨v, om2, rfl, hW2, hv⟩
    have hsz : w.heap.size ≤ w'.heap.size := hW2.base_le _ (Nat.le_refl _)
    have hpar2 : ∀ k, om2 (.par k) = (pass[k]?).bind om := hW2.par
    have hnew : ∀ i b, om2 i = some b → (∀ k, i ≠ .par k) → w.heap.size ≤ b := by
      intro i b hi hn
      rcases hW2.loc i b hi with h1 | ⟨k, hk⟩
      · exact h1
      · exact absurd hk (hn k)
    have hsame : ∀ b, b < w.heap.size → (∀ p ∈ pass, om p ≠ some b) → w'.heap[b]? = w.heap[b]? := by
      intro b hb hn
      refine hW2.frame b (Nat.not_le.2 hb) fun k hk => ?_
      change (pass[k]?).bind om = some b at hk
      cases hp : pass[k]? with
      | none => rw [hp] at hk; cases hk
      | some p => rw [hp] at hk; exact hn p (List.mem_of_getElem? hp) hk
    have hrow : ∀ id b, id.isRow = true → om id = some b → ∀ p ∈ pass, om p ≠ some b := by
      intro id b hr hb p hp hpb
      have := h.inj p id b hpb hb
      subst this
      rw [hpass p hp] at hr
      cases hr
    -- the step as a whole
    have E : Ext P F.I0 F.base om w (omCall om om2 frozen rid bid) w' (callSub frozen rid bid) := by
      refine ⟨?_, ?_, ?_, ?_, ?_⟩
      · intro b hb
        have hbl := h.imLt hb
        refine ⟨⟨?_, ?_⟩, hsame b hbl fun p _ => hb.2 p⟩
        · rcases hb.1 with h1 | h1
          · exact .inl h1
          · exact .inr ⟨h1.1, Nat.lt_of_lt_of_le h1.2 hsz⟩
        · intro i hi
          rcases omCall_some hi with ⟨_, h1⟩ | ⟨_, h1⟩ | ⟨_, _, _, h1⟩
          · have := hnew _ b h1 (fun k h => by cases h); omega
          · have := hnew _ b h1 (fun k h => by cases h); omega
          · exact hb.2 i h1
      · intro id hr hk b hb
        have h1 : rid ≠ some id := fun e => by rw [hrid id e] at hr; cases hr
        have h2 : bid ≠ some id := fun e => hk (by simp [callSub, h1, e])
        simp only [omCall, if_neg h1, if_neg h2, if_neg (hfr id hr)]
        exact hb
      · intro id hr hk b hb
        obtain ⟨h1, h2, h3⟩ := callSub_keep hk
        simp only [omCall, if_neg h1, if_neg h2, if_neg h3]
        exact ⟨hb, hsame b (h.lt id b hb) (hrow id b hr hb)⟩
      · intro id hr hf b hb
        refine ⟨⟨.inr ⟨?_, Nat.lt_of_lt_of_le (h.lt id b hb) hsz⟩, ?_⟩, hsame b (h.lt id b hb) (hrow id b hr hb)⟩
        · rcases h.loc id b hb with h1 | ⟨k, rfl⟩
          · exact h1
          · cases hr
        · have hbl := h.lt id b hb
          intro i hi
          rcases omCall_some hi with ⟨_, h1⟩ | ⟨_, h1⟩ | ⟨h2, h3, h4, h1⟩
          · have := hnew _ b h1 (fun k h => by cases h); omega
          · have := hnew _ b h1 (fun k h => by cases h); omega
          · have := h.inj i id b h1 hb
            subst this
            simp only [callSub, if_neg h2, if_neg h3, if_neg h4] at hf
            cases hf
      · intro id i x hr hu
        unfold callSub at hu
        (repeat' split at hu) <;> cases hu
    have hpo : ∀ p ∈ pass, omCall om om2 frozen rid bid p = om p := by
      intro p hp
      have h1 : rid ≠ some p := fun e => by have := hrid p e; rw [hpass p hp] at this; cases this
      have h2 : bid ≠ some p := fun e => (hbid p e).2.1 hp
      simp only [omCall, if_neg h1, if_neg h2, if_neg (hfr p (hpass p hp))]
    have him3 : ∀ b, Im F2.I0 F2.base om2 w' b → Im F.I0 F.base (omCall om om2 frozen rid bid) w' b ∧ w'.heap[b]? = w'.heap[b]? := by
      intro b hb
      refine ⟨⟨?_, ?_⟩, rfl⟩
      · rcases hb.1 with h1 | h1
        · rcases h1.1 with h2 | h2
          · exact .inl h2
          · exact .inr ⟨h2.1, Nat.lt_of_lt_of_le h2.2 hsz⟩
        · exact .inr ⟨h.base_le b h1.1, h1.2⟩
      · intro i hi
        rcases omCall_some hi with ⟨_, h1⟩ | ⟨_, h1⟩ | ⟨_, _, h4, h1⟩
        · exact hb.2 _ h1
        · exact hb.2 _ h1
        · rcases hb.1 with h2 | h2
          · refine h2.2 i ?_
            simp only [if_neg h4]
            exact h1
          · have h3 := h.lt i b h1
            have h5 : w.heap.size ≤ b := h2.1
            omega
    have hren3 : ∀ i, okName pass rid bid i → (backName pass rid bid i).isRow = i.isRow ∧ ∀ b, om2 i = some b → omCall om om2 frozen rid bid (backName pass rid bid i) = some b ∧ w'.heap[b]? = w'.heap[b]? := by
      intro i hi
      rcases hi with ⟨k, rfl, hk⟩ | ⟨rfl, hs⟩ | ⟨rfl, hs⟩
      · have hb : backName pass rid bid (.par k) = pass[k] := by simp [backName, hk]
        rw [hb]
        refine ⟨by rw [hpass _ (List.getElem_mem hk)]; rfl, fun b hb => ⟨?_, rfl⟩⟩
        rw [hpar2, List.getElem?_eq_getElem hk] at hb
        rw [hpo _ (List.getElem_mem hk)]
        exact hb
      · obtain ⟨r, rfl⟩ := Option.isSome_iff_exists.1 hs
        refine ⟨by simp only [backName, Option.getD_some]; rw [hrid r rfl]; rfl, fun b hb => ⟨?_, rfl⟩⟩
        simp only [backName, Option.getD_some, omCall, if_true]
        exact hb
      · obtain ⟨r, rfl⟩ := Option.isSome_iff_exists.1 hs
        have hrr := (hbid r rfl).1
        refine ⟨by simp only [backName, Option.getD_some]; rw [hrr]; rfl, fun b hb => ⟨?_, rfl⟩⟩
        have h1 : rid ≠ some r := fun e => by rw [hrid r e] at hrr; cases hrr
        simp only [backName, Option.getD_some, omCall, if_neg h1, if_true]
        exact hb
    have hvv := VR.ren him3 hv fun id hid => hren3 id (hres id hid)
    have boxOf : ∀ (id : Id) (cs : List PV), okName pass rid bid id → Hq id = some cs → BoxR P F.I0 F.base (omCall om om2 frozen rid bid) w' (backName pass rid bid id) (PV.rens (backName pass rid bid) cs) := by
      intro id cs hok hcs
      obtain ⟨hr, b, cur, T, hb, hh, hn, hrel'⟩ := hW2.box id cs hcs
      refine ⟨(hren3 id hok).1.trans hr, b, cur, T, ((hren3 id hok).2 b hb).1, hh, by rw [PV.rens_map, List.length_map]; exact hn, ?_⟩
      intro j y c hj hc
      obtain ⟨x, hx, rfl⟩ := PV.rens_get hj
      obtain ⟨r1, r2, r3⟩ := hrel' j x c hx hc
      exact ⟨PV.isCell_ren r1, r2, VR.ren him3 r3 fun i hi => hren3 i (hHq id cs hcs i (PV.idss_mem hx hi))⟩
    refine ⟨v, omCall om om2 frozen rid bid, _, rfl, ?_, hK⟩
    have hS : SRel P F (omCall om om2 frozen rid bid) a w' ⟨fun t => (S.env t).sub (callSub frozen rid bid), afterH S frozen pass rid bid Hq⟩ := by
      refine ⟨h.size, h.defers, fun t => VR.sub E (h.env t), ?_, ?_, ?_, ?_, ?_, h.i0, fun b hb => h.base_le b (Nat.le_trans hsz hb), ?_, h.outer.trans hW2.outer⟩
      · intro i cs hcs
        change afterH S frozen pass rid bid Hq i = some cs at hcs
        unfold afterH at hcs
        split at hcs
        · rename_i hb
          subst hb
          cases hq : Hq (.ret 0) with
          | none => rw [hq] at hcs; cases hcs
          | some cs0 =>
            rw [hq] at hcs
            cases hcs
            exact boxOf (.ret 0) cs0 (.inr (.inr ⟨rfl, rfl⟩)) hq
        · rename_i hb
          split at hcs
          · rename_i hp
            cases hq : Hq (.par (pass.idxOf i)) with
            | none => rw [hq] at hcs; cases hcs
            | some cs0 =>
              rw [hq] at hcs
              cases hcs
              have hlt := List.idxOf_lt_length_of_mem hp
              have := boxOf (.par (pass.idxOf i)) cs0 (.inl ⟨_, rfl, hlt⟩) hq
              have hbn : backName pass rid bid (.par (pass.idxOf i)) = i := by
                simp only [backName, List.getD, hidx i hp, Option.getD_some]
              rw [hbn] at this
              exact this
          · rename_i hp
            cases hS : S.H i with
            | none => rw [hS] at hcs; cases hcs
            | some cs0 =>
              rw [hS] at hcs
              cases hcs
              obtain ⟨hr, b, cur, T, hbb, hh, hn, hrel'⟩ := h.box i cs0 hS
              have hnk : callSub frozen rid bid i ≠ .kill := by
                have h1 : rid ≠ some i := fun e => by rw [hrid i e] at hr; cases hr
                simp [callSub, h1, hb, hfr i hr]
              refine ⟨hr, b, cur, T, E.ptr i hr hnk b hbb, ?_, by rw [PV.subs_length]; exact hn, ?_⟩
              · rw [hsame b (h.lt i b hbb) fun p hpp hpb => hp (by have := h.inj p i b hpb hbb; rw [← this]; exact hpp)]
                exact hh
              · intro j y c hj hc
                obtain ⟨x, hx, rfl⟩ := PV.subs_get hj
                obtain ⟨r1, r2, r3⟩ := hrel' j x c hx hc
                exact ⟨PV.isCell_sub r1, r2, VR.sub E r3⟩
      · intro i j b hi hj
        rcases omCall_some hi with ⟨h1, h2⟩ | ⟨h1, h2⟩ | ⟨h1, h2, h3, h4⟩ <;> rcases omCall_some hj with ⟨g1, g2⟩ | ⟨g1, g2⟩ | ⟨g1, g2, g3, g4⟩
        · rw [h1] at g1; cases g1; rfl
        · have := hW2.inj _ _ b h2 g2; cases this
        · have h5 := hnew _ b h2 (fun k h => by cases h)
          have h6 := h.lt j b g4; omega
        · have := hW2.inj _ _ b h2 g2; cases this
        · rw [h1] at g1; cases g1; rfl
        · have h5 := hnew _ b h2 (fun k h => by cases h)
          have h6 := h.lt j b g4; omega
        · have h5 := hnew _ b g2 (fun k h => by cases h)
          have h6 := h.lt i b h4; omega
        · have h5 := hnew _ b g2 (fun k h => by cases h)
          have h6 := h.lt i b h4; omega
        · exact h.inj i j b h4 g4
      · intro i b hi
        rcases omCall_some hi with ⟨h1, h2⟩ | ⟨h1, h2⟩ | ⟨h1, h2, h3, h4⟩
        · exact hW2.lt _ b h2
        · exact hW2.lt _ b h2
        · exact Nat.lt_of_lt_of_le (h.lt i b h4) hsz
      · intro i b hi
        rcases omCall_some hi with ⟨h1, h2⟩ | ⟨h1, h2⟩ | ⟨h1, h2, h3, h4⟩
        · exact .inl (h.base_le _ (hnew _ b h2 (fun k h => by cases h)))
        · exact .inl (h.base_le _ (hnew _ b h2 (fun k h => by cases h)))
        · exact h.loc i b h4
      · intro k
        have h1 : rid ≠ some (.par k) := fun e => by have := hrid _ e; cases this
        have h2 : bid ≠ some (.par k) := fun e => (hbid _ e).2.2 k rfl
        simp only [omCall, if_neg h1, if_neg h2, if_neg (hfr (.par k) rfl)]
        exact h.par k
      · intro b hb hn
        refine (hsame b ((h.baseLt hb)) fun p hp hpb => ?_).trans (h.frame b hb hn)
        rcases h.loc p b hpb with h1 | ⟨k, rfl⟩
        · exact absurd h1 hb
        · exact hn k ((h.par k).symm.trans hpb)
    exact hS.val d hd _ _ hvv

theorem PV.ren_noids (ρ : Id → Id) : ∀ (p : PV), p.ids = [] → p.ren ρ = p := by
  intro p
  refine PV.rec (motive_1 := fun p => p.ids = [] → p.ren ρ = p) (motive_2 := fun l => PV.idss l = [] → PV.rens ρ l = l) ?_ ?_ ?_ ?_ ?_ ?_ ?_ ?_ ?_ ?_ ?_ ?_ ?_ ?_ ?_ ?_ p
  · intros; rfl
  · intros; rfl
  · intros; rfl
  · intros; rfl
  · intros; rfl
  · intros; rfl
  · intros; rfl
  · intro e t xs _ h; cases t <;> first | rfl | (simp [PV.ids] at h)
  · intro e t xs i j _ h; cases t <;> first | rfl | (simp [PV.ids] at h)
  · intro id off h; simp [PV.ids] at h
  · intros; rfl
  · intro cs ih h; simp only [PV.ren]; rw [ih (by simpa [PV.ids] using h)]
  · intro cs ih h; simp only [PV.ren]; rw [ih (by simpa [PV.ids] using h)]
  · intro f cs ih h; simp only [PV.ren]; rw [ih (by simpa [PV.ids] using h)]
  · intros; rfl
  · intro c cs h1 h2 h
    simp only [PV.idss, List.append_eq_nil_iff] at h
    simp only [PV.rens, h1 h.1, h2 h.2]

theorem frzAll_nil : frzAll [] = fun _ => .keep := by
  funext i
  simp [frzAll]

/-- Rows that are handed over are shared from then on; the result is plain. -/
theorem CallA.frz {f : Nat} {args : List PV} {d : Option Nat} {K : St → Prop} (frozen : List Id) {res : PV} (hC : Can P f (args.map fun y => y.sub (frzAll frozen)) H0 res H0) (hfro : ∀ i ∈ frozen, i.isRow = true)
    (hargs : ∀ y ∈ args, (y.sub (frzAll frozen)).ids = []) (hres : res.ids = []) (hK : K ((S.sub (frzAll frozen)).put d res)) : CallA P f args S d K := by
  have e1 : (args.map fun y => (y.sub (frzAll frozen)).ren (toPar [])) = args.map fun y => y.sub (frzAll frozen) := by
    apply List.map_congr_left
    intro y hy
    exact PV.ren_noids _ _ (hargs y hy)
  have e2 : callSub frozen none none = frzAll frozen := by
    funext i
    simp [callSub, frzAll]
  refine CallA.of_can frozen [] none none (Hp := H0) (res := res) (Hq := H0) (by rw [e1]; exact hC) hfro (by simp) List.nodup_nil (by simp) (by simp) (fun y hy i hi => by rw [hargs y hy] at hi; cases hi) (fun id cs h => by cases h)
    (fun i hi => by rw [hres] at hi; cases hi) (fun id cs h => by cases h) ?_
  unfold afterCall
  rw [PV.ren_noids _ _ hres, e2]
  have e3 : afterH S frozen [] none none H0 = fun i => (S.H i).map (PV.subs (frzAll frozen)) := by
    funext i
    simp [afterH, e2]
  rw [e3]
  exact hK

/-- A call of plain values, with a plain result. -/
theorem CallA.pure {f : Nat} {args : List PV} {d : Option Nat} {K : St → Prop} {res : PV} (hC : Can P f args H0 res H0) (hargs : ∀ y ∈ args, y.ids = []) (hres : res.ids = []) (hK : K (S.put d res)) : CallA P f args S d K := by
  refine CallA.frz [] (res := res) ?_ (by simp) ?_ hres ?_
  · have : (args.map fun y => y.sub (frzAll [])) = args := by
      rw [frzAll_nil]
      simp [PV.sub_keep]
    rw [this]
    exact hC
  · intro y hy
    rw [frzAll_nil, PV.sub_keep]
    exact hargs y hy
  · rw [frzAll_nil, St.sub_keep]
    exact hK

/-- The result is a row of the caller's own (alone, or among others). -/
theorem CallA.own {f : Nat} {args : List PV} {d : Option Nat} {K : St → Prop} (frozen : List Id) (rid : Id) {res : PV} (hC : Can P f (args.map fun y => y.sub (frzAll frozen)) H0 res H0) (hfro : ∀ i ∈ frozen, i.isRow = true) (hrid : rid.isRow = true)
    (hargs : ∀ y ∈ args, (y.sub (frzAll frozen)).ids = []) (hres : ∀ i ∈ res.ids, i = .rrow 0) (hK : K ((S.sub (frzKill frozen rid)).put d (res.ren fun _ => rid))) : CallA P f args S d K := by
  have e1 : (args.map fun y => (y.sub (frzAll frozen)).ren (toPar [])) = args.map fun y => y.sub (frzAll frozen) := by
    apply List.map_congr_left
    intro y hy
    exact PV.ren_noids _ _ (hargs y hy)
  have e2 : callSub frozen (some rid) none = frzKill frozen rid := by
    funext i
    unfold callSub frzKill
    by_cases h : i = rid
    · subst h; simp
    · have h' : ¬ (some rid = some i) := fun e => h (by cases e; rfl)
      rw [if_neg h', if_neg h, if_neg (by simp)]
  have e4 : ∀ (p : PV), (∀ i ∈ p.ids, i = .rrow 0) → p.ren (backName [] (some rid) none) = p.ren fun _ => rid := by
    intro p
    refine PV.rec (motive_1 := fun p => (∀ i ∈ p.ids, i = .rrow 0) → p.ren (backName [] (some rid) none) = p.ren fun _ => rid) (motive_2 := fun l => (∀ i ∈ PV.idss l, i = .rrow 0) → PV.rens (backName [] (some rid) none) l = PV.rens (fun _ => rid) l) ?_ ?_ ?_ ?_ ?_ ?_ ?_ ?_ ?_ ?_ ?_ ?_ ?_ ?_ ?_ ?_ p
    · intros; rfl
    · intros; rfl
    · intros; rfl
    · intros; rfl
    · intros; rfl
    · intros; rfl
    · intros; rfl
    · intro e t xs _ h
      cases t with
      | own id =>
        have := h id (by simp [PV.ids])
        subst this
        rfl
      | _ => rfl
    · intro e t xs i j _ h
      cases t with
      | own id =>
        have := h id (by simp [PV.ids])
        subst this
        rfl
      | _ => rfl
    · intro id off h
      have := h id (by simp [PV.ids])
      subst this
      rfl
    · intros; rfl
    · intro cs ih h; simp only [PV.ren]; rw [ih (by simpa [PV.ids] using h)]
    · intro cs ih h; simp only [PV.ren]; rw [ih (by simpa [PV.ids] using h)]
    · intro f cs ih h; simp only [PV.ren]; rw [ih (by simpa [PV.ids] using h)]
    · intros; rfl
    · intro c cs h1 h2 h
      simp only [PV.idss, List.mem_append] at h
      simp only [PV.rens, h1 (fun i hi => h i (.inl hi)), h2 (fun i hi => h i (.inr hi))]
  refine CallA.of_can frozen [] (some rid) none (Hp := H0) (res := res) (Hq := H0) (by rw [e1]; exact hC) hfro (by simp) List.nodup_nil (by simpa using hrid) (by simp) (fun y hy i hi => by rw [hargs y hy] at hi; cases hi) (fun id cs h => by cases h)
    (fun i hi => .inr (.inl ⟨hres i hi, rfl⟩)) (fun id cs h => by cases h) ?_
  unfold afterCall
  rw [e4 res hres, e2]
  have e3 : afterH S frozen [] (some rid) none H0 = fun i => (S.H i).map (PV.subs (frzKill frozen rid)) := by
    funext i
    simp [afterH, e2]
  rw [e3]
  exact hK

end
end Go.Proofs.Ytcahjpkmldmjdaa.Ab
