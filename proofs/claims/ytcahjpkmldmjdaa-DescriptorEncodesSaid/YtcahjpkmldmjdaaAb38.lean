/-
  Abstract values for walks without memory: a row of the caller's own is handed on, for good.
-/
import Derived.Test.YtcahjpkmldmjdaaAb32
namespace Go.Proofs.Ytcahjpkmldmjdaa.Ab
open Go

/-- A CONTRACT that takes a row: at these arguments, of which one is a row that the caller gives away (its name is .rrow 0), the function comes back with this result. -/
def CanO (P : Program) (f : Nat) (args : List PV) (res : PV) : Prop :=
  Calls1 P f ∧ ∀ (F : Fr) (om : Id → Option Nat) (w : World) (vs : List Value), F.w0 = w → WRel P F om w H0 → args.length = vs.length →
    (∀ (j : Nat) (y : PV) (v : Value), args[j]? = some y → vs[j]? = some v → VR P F.I0 F.base om w y v) →
    Calls P f vs.toArray w fun e w' => ∃ v om', e = .returned v ∧ WRel P F om' w' H0 ∧ VR P F.I0 F.base om' w' res v

section
variable {P : Program} {tab : Tab}

theorem canO_of_body (hT : TabOK P tab) {f : Nat} {fn : Func} {c : Code} {args : List PV} {res : PV}
    (h1 : Calls1 P f) (hf : P.funcs[f]? = some fn) (hb : fn.body = some c) (hn : args.length ≤ fn.ntmps)
    (hw : ∀ (F : Fr) (om : Id → Option Nat) (a : Act) (w : World), F.n = fn.ntmps → SRel P F om a w ⟨fun t => args.getD t .dead, H0⟩ → c.wp P (lift P F fun e S' => (∀ id, e ≠ .exit id) ∧ Fin tab fn.results.toList res H0 S') a w) : CanO P f args res := by
  refine ⟨h1, ?_⟩
  intro F om w vs hw0 hW hlen hrel
  have hS : SRel P { F with n := fn.ntmps } om { tmps := vs.toArray ++ Array.replicate (fn.ntmps - vs.toArray.size) undef, defers := [] } w ⟨fun t => args.getD t .dead, H0⟩ := by
    refine ⟨by simp; omega, rfl, ?_, hW.box, hW.inj, hW.lt, hW.loc, hW.par, hW.i0, hW.base_le, hW.frame, hW.outer⟩
    intro t
    show VR P F.I0 F.base om w (args.getD t .dead) _
    by_cases ht : t < args.length
    · have e1 : args.getD t .dead = args[t] := by simp [List.getD, List.getElem?_eq_getElem ht]
      have htv : t < vs.length := by omega
      have e2 : (vs.toArray ++ Array.replicate (fn.ntmps - vs.toArray.size) undef).getD t undef = vs[t] := by
        simp [Array.getD_eq_getD_getElem?, Array.getElem?_append, htv]
      rw [e1, e2]
      exact hrel t _ _ (List.getElem?_eq_getElem ht) (List.getElem?_eq_getElem htv)
    · have e1 : args.getD t .dead = .dead := by simp [List.getD, List.getElem?_eq_none (Nat.le_of_not_lt ht)]
      rw [e1]
      exact .dead _
  refine calls_of_wp hf hb (wp_mono (hw _ om _ w rfl hS) ?_)
  rintro e a' w' ⟨e', om', S', rfl, hr, hne, hfin⟩
  obtain ⟨v, om'', hrun, hW', hv⟩ := fin_wrel (fn := fn) hr hT rfl hfin
  cases e' with
  | normal => exact ⟨hr.defers, v, hrun, v, om'', rfl, ⟨hW'.box, hW'.inj, hW'.lt, hW'.loc, hW'.par, hW'.i0, hW'.base_le, hW'.frame, hW'.outer⟩, hv⟩
  | exit id => exact absurd rfl (hne id)
  | ret => exact ⟨hr.defers, v, hrun, v, om'', rfl, ⟨hW'.box, hW'.inj, hW'.lt, hW'.loc, hW'.par, hW'.i0, hW'.base_le, hW'.frame, hW'.outer⟩, hv⟩

theorem canO_of {f : Nat} {fn : Func} {c : Code} {args : List PV} {res : PV}
    (hT : TabOK P tab) (hmix : P.follows .mixedOrders = true) (h1 : Calls1 P f) (hf : P.funcs[f]? = some fn) (hb : fn.body = some c) (hok : codeOK fn.ntmps c = true) (hn : args.length ≤ fn.ntmps)
    (hw : Wp P tab fn.ntmps c (Fin tab fn.results.toList res H0) (fun _ _ => False) (Fin tab fn.results.toList res H0) ⟨fun t => args.getD t .dead, H0⟩) : CanO P f args res := by
  refine canO_of_body hT h1 hf hb hn fun F om a w hFn hr => ?_
  refine wp_mono (hw.run hT hmix hok F om a w hFn hr) (lift_mono ?_)
  intro e S' hq
  cases e with
  | normal => exact ⟨fun _ => nofun, hq⟩
  | exit id => exact hq.elim
  | ret => exact ⟨fun _ => nofun, hq⟩

def toRow (id : Id) : Id → Id := fun i => if i = id then .rrow 0 else i

variable {S : St}

/-- A call that is given a row. -/
theorem CallA.ofO (id : Id) {f : Nat} {args : List PV} {d : Option Nat} {K : St → Prop} {res : PV} (hC : CanO P f (PV.rens (toRow id) args) res) (hid : id.isRow = true) (hids : ∀ i ∈ PV.idss args, i = id) (hr : res.ids = [])
    (hK : K ((S.sub (oneSub id .kill)).put d res)) : CallA P f args S d K := by
  refine ⟨hC.1, ?_⟩
  intro F om a w h hd vs hlen hrel
  let omC : Id → Option Nat := fun i => if i = .rrow 0 then om id else none
  have homC : ∀ i b, omC i = some b → i = .rrow 0 ∧ om id = some b := by
    intro i b hi
    show i = .rrow 0 ∧ om id = some b
    by_cases e : i = .rrow 0
    · exact ⟨e, by simpa [omC, e] using hi⟩
    · simp [omC, e] at hi
  let F2 : Fr := ⟨Im F.I0 F.base om w, fun b => w.heap.size ≤ b ∨ om id = some b, fun _ => none, w, 0⟩
  have hbase : ∀ b, om id = some b → F.base b := by
    intro b hb
    rcases h.loc id b hb with h1 | ⟨k, rfl⟩
    · exact h1
    · cases hid
  have him2 : ∀ b, Im F.I0 F.base om w b → Im F2.I0 F2.base omC w b ∧ w.heap[b]? = w.heap[b]? := fun b hb => ⟨⟨.inl hb, fun i hi => hb.2 id (homC i b hi).2⟩, rfl⟩
  have hW : WRel P F2 omC w H0 := by
    refine ⟨nofun, ?_, ?_, ?_, fun k => ?_, fun b hb => ?_, fun b hb => .inl hb, fun b hb hn => rfl, .refl w⟩
    · intro i j b hi hj
      rw [(homC i b hi).1, (homC j b hj).1]
    · intro i b hi
      exact h.lt id b (homC i b hi).2
    · intro i b hi
      exact .inl (.inr (homC i b hi).2)
    · show (if Id.par k = .rrow 0 then om id else none) = none
      rw [if_neg (by simp)]
    · show ¬ (w.heap.size ≤ b ∨ om id = some b)
      rintro (h1 | h1)
      · have := h.imLt hb; omega
      · exact hb.2 id h1
  refine Calls.mono (hC.2 F2 omC w vs rfl hW (by rw [PV.rens_map, List.length_map]; exact hlen) ?_) ?_
  · intro j y v hy hv
    obtain ⟨x, hx, rfl⟩ := PV.rens_get hy
    refine VR.ren him2 (hrel j x v hx hv) fun i hi => ?_
    have e := hids i (PV.idss_mem hx hi)
    subst e
    refine ⟨by rw [hid, toRow, if_pos rfl]; rfl, fun b hb => ⟨?_, rfl⟩⟩
    show (if toRow i i = .rrow 0 then om i else none) = some b
    rw [if_pos (by simp [toRow]), hb]
  · rintro e w' ⟨v, om2, rfl, hW2, hv⟩
    have hsame : ∀ b, b < w.heap.size → om id ≠ some b → w'.heap[b]? = w.heap[b]? := by
      intro b hb hn
      refine hW2.frame b ?_ (fun k hk => by cases hk)
      rintro (h1 | h1)
      · omega
      · exact hn h1
    have hlt' : ∀ b, b < w.heap.size → om id ≠ some b → b < w'.heap.size := by
      intro b hb hn
      have := hsame b hb hn
      rw [Array.getElem?_eq_getElem hb] at this
      exact (Array.getElem?_eq_some_iff.1 this).1
    let om' : Id → Option Nat := fun i => if i = id then none else om i
    have hom : ∀ i b, om' i = some b → om i = some b ∧ i ≠ id := by
      intro i b hi
      by_cases e : i = id
      · simp [om', e] at hi
      · exact ⟨by simpa [om', e] using hi, e⟩
    have hne : ∀ i b, i ≠ id → om i = some b → om id ≠ some b := fun i b hi hb hb0 => hi (h.inj i id b hb hb0)
    have E : Ext P F.I0 F.base om w om' w' (oneSub id .kill) := by
      refine ⟨fun b hb => ?_, fun i hrw hk b hb => ?_, fun i hrw hk b hb => ?_, fun i hrw hf => ?_, fun i q x hrw hu => ?_⟩
      · have hl := h.imLt hb
        refine ⟨⟨?_, fun i hi => hb.2 i (hom i b hi).1⟩, hsame b hl (hb.2 id)⟩
        rcases hb.1 with h1 | h1
        · exact .inl h1
        · exact .inr ⟨h1.1, hlt' b hl (hb.2 id)⟩
      · have : i ≠ id := fun e => hk (by simp [oneSub, e])
        show (if i = id then none else om i) = some b
        rw [if_neg this]
        exact hb
      · have hi : i ≠ id := fun e => by simp [oneSub, e] at hk
        refine ⟨?_, hsame b (h.lt i b hb) (hne i b hi hb)⟩
        show (if i = id then none else om i) = some b
        rw [if_neg hi]
        exact hb
      · unfold oneSub at hf
        split at hf <;> cases hf
      · unfold oneSub at hu
        split at hu <;> cases hu
    have him3 : ∀ b, Im F2.I0 F2.base om2 w' b → Im F.I0 F.base om' w' b ∧ w'.heap[b]? = w'.heap[b]? := by
      intro b hb
      refine ⟨?_, rfl⟩
      rcases hb.1 with h1 | ⟨h1 | h1, h2⟩
      · have hl := h.imLt h1
        refine ⟨?_, fun i hi => h1.2 i (hom i b hi).1⟩
        rcases h1.1 with h3 | h3
        · exact .inl h3
        · exact .inr ⟨h3.1, hlt' b hl (h1.2 id)⟩
      · refine ⟨.inr ⟨h.base_le b h1, h2⟩, fun i hi => ?_⟩
        have := h.lt i b (hom i b hi).1
        omega
      · refine ⟨.inr ⟨hbase b h1, h2⟩, fun i hi => ?_⟩
        obtain ⟨g1, g2⟩ := hom i b hi
        exact g2 (h.inj i id b g1 h1)
    have hvv : VR P F.I0 F.base om' w' res v := by
      have := VR.ren (ρ := fun i => i) him3 hv fun i hi => by rw [hr] at hi; cases hi
      rwa [PV.ren_noids _ _ hr] at this
    refine ⟨v, om', _, rfl, ?_, hK⟩
    have hS : SRel P F om' a w' (S.sub (oneSub id .kill)) := by
      refine ⟨h.size, h.defers, fun t => VR.sub E (h.env t), ?_, ?_, ?_, ?_, ?_, h.i0, ?_, ?_, h.outer.trans hW2.outer⟩
      · intro i cs hcs
        change (S.H i).map (PV.subs (oneSub id .kill)) = some cs at hcs
        cases hc : S.H i with
        | none => rw [hc] at hcs; cases hcs
        | some cs0 =>
          rw [hc] at hcs
          cases hcs
          obtain ⟨g1, b, cur, T, g2, g3, g4, g5⟩ := h.box i cs0 hc
          have hi : i ≠ id := fun e => by rw [e, hid] at g1; cases g1
          refine ⟨g1, b, cur, T, ?_, (hsame b (h.lt i b g2) (hne i b hi g2)).trans g3, by rw [PV.subs_length]; exact g4, fun j y c hj hcj => ?_⟩
          · show (if i = id then none else om i) = some b
            rw [if_neg hi]
            exact g2
          · obtain ⟨x, hx, rfl⟩ := PV.subs_get hj
            obtain ⟨r1, r2, r3⟩ := g5 j x c hx hcj
            exact ⟨PV.isCell_sub r1, r2, VR.sub E r3⟩
      · intro i j b hi hj
        exact h.inj i j b (hom i b hi).1 (hom j b hj).1
      · intro i b hi
        obtain ⟨g1, g2⟩ := hom i b hi
        exact hlt' b (h.lt i b g1) (hne i b g2 g1)
      · intro i b hi
        exact h.loc i b (hom i b hi).1
      · intro k
        show (if Id.par k = id then none else om (.par k)) = _
        rw [if_neg (fun e => by rw [← e] at hid; cases hid)]
        exact h.par k
      · intro b hb
        by_cases hl : w.heap.size ≤ b
        · exact h.base_le b hl
        · by_cases h0 : om id = some b
          · exact hbase b h0
          · have := hlt' b (by omega) h0
            omega
      · intro b hb hn
        exact (hsame b (h.baseLt hb) (fun h0 => hb (hbase b h0))).trans (h.frame b hb hn)
    exact hS.val d hd _ _ hvv

variable {n r k : Nat} {ops : Array Oper} {K : St → Prop} {l : List Oper}
variable {d : Nat} {op : Op} {ty : TypeId} {pos : String} {after : Array Edge} {g : Option (Nat × Bool)}

/-- A call that is given a row, with a plain result. -/
theorem Wr.cR (id : Id) {f : Nat} {args args' : List PV} {res : PV} (hC : CanO P f args' res) (h : Wr P tab n r ops (k + 1) l K ((S.sub (oneSub id .kill)).set d res)) (hg : runs ops S g = some true := by rfl) (he : ev tab r k ⟨some d, op, ty, pos, after, g⟩ S = .call f args := by rfl)
    (ha : PV.rens (toRow id) args = args' := by rfl) (hid : id.isRow = true := by rfl) (hids : ((PV.idss args).all fun i => decide (i = id)) = true := by rfl) (hr : res.ids = [] := by rfl) : Wr P tab n r ops k (⟨some d, op, ty, pos, after, g⟩ :: l) K S := by
  subst ha
  exact .call hg he (CallA.ofO id hC hid (by simpa using hids) hr h)

end
end Go.Proofs.Ytcahjpkmldmjdaa.Ab
