/-
  Abstract values for walks without memory: values told with less; loops and joins by what states imply; ends of bodies.
-/
import Derived.Test.YtcahjpkmldmjdaaAb25
namespace Go.Proofs.Ytcahjpkmldmjdaa.Ab
open Go

section
variable {P : Program} {tab : Tab}

/-- What reads as u reads as v. -/
def Wk (P : Program) (u v : PV) : Prop := ∀ (I0 : Nat → Prop) (base : Nat → Prop) (om : Id → Option Nat) (w : World) (x : Value), VR P I0 base om w u x → VR P I0 base om w v x

theorem Wk.refl (v : PV) : Wk P v v := fun _ _ _ _ _ h => h
theorem Wk.gone (v : PV) : Wk P v .dead := fun _ _ _ _ _ _ => .dead _
theorem Wk.ro (e : TypeId) (xs : List PV) : Wk P (.sl e .full xs) (.sl e .ro xs) := fun _ _ _ _ _ h => by have := h.ro1; exact this
theorem Wk.own (e : TypeId) (id : Id) : Wk P (.sl e .full []) (.sl e (.own id) []) := by
  intro I0 base om w x h
  obtain ⟨p, cap, g, o, fs, rfl, ht, hc, hm, hp, hz, hF, hl⟩ := (h.sl_pure (fun id h => by cases h)).sl_inv
  rcases ht with h | ⟨_, h⟩
  · cases h
  · simp only [List.length_nil] at h
    subst h
    exact .own _ _ _ _ (.inl ⟨rfl, p, rfl⟩)

inductive WkL (P : Program) : List PV → List PV → Prop
  | nil : WkL P [] []
  | cons {u v : PV} {cs ds : List PV} (h : Wk P u v) (hc : v.isCell = true) (hl : WkL P cs ds) : WkL P (u :: cs) (v :: ds)

theorem WkL.len {cs ds : List PV} (h : WkL P cs ds) : cs.length = ds.length := by
  induction h with
  | nil => rfl
  | cons h hc hl ih => simp [ih]

theorem WkL.get {cs ds : List PV} (h : WkL P cs ds) {j : Nat} {v : PV} (hj : ds[j]? = some v) : v.isCell = true ∧ ∃ u, cs[j]? = some u ∧ Wk P u v := by
  induction h generalizing j with
  | nil => simp at hj
  | cons h hc hl ih =>
    cases j with
    | zero => simp at hj; subst hj; exact ⟨hc, _, rfl, h⟩
    | succ j => simp at hj; obtain ⟨h1, u, h2, h3⟩ := ih hj; exact ⟨h1, u, by simpa using h2, h3⟩

theorem Wk.agg {cs ds : List PV} (h : WkL P cs ds) : Wk P (.agg cs) (.agg ds) := by
  intro I0 base om w x hx
  obtain ⟨vs, rfl, hn, hy, h1, hr⟩ := hx.agg_inv
  refine .agg _ _ (h.len ▸ hn) (fun j y hj => (h.get hj).1) h1 fun j y c hj hc => ?_
  obtain ⟨_, u, hu, hw⟩ := h.get hj
  exact hw _ _ _ _ _ (hr j u c hu hc)

inductive EqW (P : Program) (S : St) : List (Nat × PV) → Prop
  | nil : EqW P S []
  | cons {t : Nat} {v : PV} {l : List (Nat × PV)} (h : S.env t = v) (hl : EqW P S l) : EqW P S ((t, v) :: l)
  | wk {t : Nat} {u v : PV} {l : List (Nat × PV)} (hw : Wk P u v) (h : S.env t = u) (hl : EqW P S l) : EqW P S ((t, v) :: l)

inductive EqWH (P : Program) (S : St) : List (Id × List PV) → Prop
  | nil : EqWH P S []
  | cons {t : Id} {v : List PV} {l : List (Id × List PV)} (h : S.H t = some v) (hl : EqWH P S l) : EqWH P S ((t, v) :: l)
  | wk {t : Id} {u v : List PV} {l : List (Id × List PV)} (hw : WkL P u v) (h : S.H t = some u) (hl : EqWH P S l) : EqWH P S ((t, v) :: l)

theorem BoxR.wk {I0 : Nat → Prop} {base : Nat → Prop} {om : Id → Option Nat} {w : World} {id : Id} {cs ds : List PV} (hw : WkL P cs ds) (h : BoxR P I0 base om w id cs) : BoxR P I0 base om w id ds := by
  obtain ⟨hr, b, cur, T, hb, hh, hn, hrel⟩ := h
  refine ⟨hr, b, cur, T, hb, hh, by rw [hn, hw.len], fun j y c hj hc => ?_⟩
  obtain ⟨h1, u, hu, hwk⟩ := hw.get hj
  obtain ⟨_, r2, r3⟩ := hrel j u c hu hc
  exact ⟨h1, r2, hwk _ _ _ _ _ r3⟩

theorem imp_of {S : St} {l : List (Nat × PV)} {hs : List (Id × List PV)} (h1 : EqW P S l) (h2 : EqWH P S hs) : Imp P S (St.of l hs) := by
  intro F om a w h
  refine ⟨om, h.size, h.defers, fun t => ?_, fun id cs hc => ?_, h.inj, h.lt, h.loc, h.par, h.i0, h.base_le, h.frame, h.outer⟩
  · show VR P F.I0 F.base om w (lookE l t) _
    have ht := h.env t
    induction h1 with
    | nil => exact .dead _
    | cons he hl ih =>
      unfold lookE
      split
      · rename_i e; subst e; rw [he] at ht; exact ht
      · exact ih
    | wk hw he hl ih =>
      unfold lookE
      split
      · rename_i e; subst e; rw [he] at ht; exact hw _ _ _ _ _ ht
      · exact ih
  · change lookH hs id = some cs at hc
    induction h2 with
    | nil => cases hc
    | cons he hl ih =>
      unfold lookH at hc
      split at hc
      · rename_i e; subst e; cases hc; exact h.box _ _ he
      · exact ih hc
    | wk hw he hl ih =>
      unfold lookH at hc
      split at hc
      · rename_i e; subst e; cases hc; exact (h.box _ _ he).wk hw
      · exact ih hc

variable {n : Nat} {N : St → Prop} {X : Nat → St → Prop} {R : St → Prop} {S T U : St} {r k : Nat} {ops : Array Oper} {K : St → Prop} {l : List Oper}

theorem Imp.refl (S : St) : Imp P S S := fun _ om _ _ h => ⟨om, h⟩
theorem Imp.trans (h : Imp P S T) (k : Imp P T U) : Imp P S U := by
  intro F om a w hr
  obtain ⟨om', hr'⟩ := h F om a w hr
  exact k F om' a w hr'

/-- One variable of the heap told with less. -/
theorem Imp.cell (id : Id) {cs ds : List PV} (hw : WkL P cs ds) (hc : S.H id = some cs) : Imp P S (S.setH id (some ds)) := by
  intro F om a w h
  refine ⟨om, h.size, h.defers, h.env, fun i es he => ?_, h.inj, h.lt, h.loc, h.par, h.i0, h.base_le, h.frame, h.outer⟩
  unfold St.setH at he
  simp only at he
  split at he
  · rename_i e; subst e; cases he; exact (h.box _ _ hc).wk hw
  · exact h.box _ _ he

/-- One slot told with less. -/
theorem Imp.slot (t : Nat) {u v : PV} (hw : Wk P u v) (hu : S.env t = u) : Imp P S (S.set t v) := by
  intro F om a w h
  refine ⟨om, h.size, h.defers, fun q => ?_, h.box, h.inj, h.lt, h.loc, h.par, h.i0, h.base_le, h.frame, h.outer⟩
  show VR P F.I0 F.base om w (upd S.env t v q) _
  unfold upd
  split
  · rename_i e; subst e; have := h.env q; rw [hu] at this; exact hw _ _ _ _ _ this
  · exact h.env q

theorem Wp.loopI {c : Code} (I : Nat → St → Prop) (m : Nat) (T : St) (h0 : I m T) (hl : Imp P S T) (hround : ∀ m T, I m T → Wp P tab n c (fun S' => ∃ m' T', m' < m ∧ I m' T' ∧ Imp P S' T') X R T) : Wp P tab n (.loop c) N X R S := by
  refine ⟨fun hT hm hok F om a w hn hr => ?_⟩
  simp only [codeOK] at hok
  obtain ⟨om0, hr0⟩ := hl F om a w hr
  refine wp_loop_ghost (fun m a w => ∃ om T, SRel P F om a w T ∧ I m T) m ⟨om0, T, hr0, h0⟩ ?_
  rintro m a w ⟨om, T, hr, hI⟩
  refine wp_mono ((hround m T hI).run hT hm hok F om a w hn hr) ?_
  rintro e a' w' ⟨e', om', S', rfl, hr, hq⟩
  cases e' with
  | normal =>
    obtain ⟨m', T', hm', hI', hl'⟩ := hq
    obtain ⟨om2, hr2⟩ := hl' F om' a' w' hr
    exact ⟨m', hm', om2, T', hr2, hI'⟩
  | exit id => exact ⟨.exit id, om', S', rfl, hr, hq⟩
  | ret => exact ⟨.ret, om', S', rfl, hr, hq⟩

/-- States meet behind x. -/
theorem Wp.cutI {x y : Code} (I : St → Prop) (h : Wp P tab n x (fun S' => ∃ T, I T ∧ Imp P S' T) X R S) (hy : ∀ T, I T → Wp P tab n y N X R T) : Wp P tab n (.seq x y) N X R S :=
  .seq (h.mono (fun _ ⟨T, hT, hl⟩ => Wp.imp hl (hy T hT)) (fun _ _ h => h) fun _ h => h)

/-- The same where what follows stands in the post. -/
theorem Wp.cutW {x y : Code} {N' : St → Prop} {X' : Nat → St → Prop} {R' : St → Prop} (I : St → Prop) (h : Wp P tab n x (fun S' => ∃ T, I T ∧ Imp P S' T) X R S) (hy : ∀ T, I T → Wp P tab n y N' X' R' T) : Wp P tab n x (fun S' => Wp P tab n y N' X' R' S') X R S :=
  h.mono (fun _ ⟨T, hT, hl⟩ => Wp.imp hl (hy T hT)) (fun _ _ h => h) fun _ h => h

/-! ### ends -/

def okKeep (keep : Option Id) (i : Id) : Bool := decide (keep = some i) || i.isPar

theorem okKeep_spec {keep : Option Id} {i : Id} (h : okKeep keep i = true) : keep = some i ∨ ∃ k, i = .par k := by
  simp only [okKeep, Bool.or_eq_true, decide_eq_true_eq] at h
  rcases h with h | h
  · exact .inl h
  · cases i <;> first | exact .inr ⟨_, rfl⟩ | cases h

inductive FinH (S : St) (keep : Option Id) : List (Id × List PV) → Prop
  | nil : FinH S keep []
  | par {k : Nat} {cs0 cs : List PV} {l : List (Id × List PV)} (hl : FinH S keep l) (h : S.H (.par k) = some cs0 := by rfl) (he : PV.rens (endName keep) (PV.subs (endSub keep) cs0) = cs := by rfl) (hi : (PV.idss (PV.subs (endSub keep) cs0)).all (okKeep keep) = true := by rfl) : FinH S keep ((.par k, cs) :: l)
  | ret {id0 id : Id} {cs0 cs : List PV} {l : List (Id × List PV)} (hl : FinH S keep l) (hk : keep = some id0 := by rfl) (hid : endName keep id0 = id := by rfl) (h : S.H id0 = some cs0 := by rfl) (he : PV.rens (endName keep) (PV.subs (endSub keep) cs0) = cs := by rfl) (hi : (PV.idss (PV.subs (endSub keep) cs0)).all (okKeep keep) = true := by rfl) : FinH S keep ((id, cs) :: l)

theorem fin_gen (keep : Option Id) {rs : List ResultVar} {ps : List PV} {res : PV} {hq : List (Id × List PV)} (hH : FinH S keep hq) (hps : resList tab S rs = some ps := by rfl) (he : ((resPV ps).sub (endSub keep)).ren (endName keep) = res := by rfl)
    (hids : ((resPV ps).sub (endSub keep)).ids.all (okKeep keep) = true := by rfl) (hk : (keep.all fun i => !i.isPar) = true := by rfl) : Fin tab rs res (lookH hq) S := by
  refine ⟨keep, ps, ?_, hps, fun id hid => okKeep_spec (List.all_eq_true.1 hids id hid), he.symm, ?_⟩
  · rintro i rfl k rfl
    simp [Id.isPar] at hk
  · intro id cs hc
    induction hH with
    | nil => cases hc
    | par hl h he hi ih =>
      unfold lookH at hc
      split at hc
      · rename_i e; subst e; cases hc
        exact ⟨_, _, .inl ⟨rfl, _, rfl⟩, h, he.symm, fun i hi' => okKeep_spec (List.all_eq_true.1 hi i hi')⟩
      · exact ih hc
    | ret hl hk hid h he hi ih =>
      unfold lookH at hc
      split at hc
      · rename_i e; subst e; cases hc
        exact ⟨_, _, .inr ⟨hk, hid.symm⟩, h, he.symm, fun i hi' => okKeep_spec (List.all_eq_true.1 hi i hi')⟩
      · exact ih hc

/-- The same without variables behind pointers. -/
theorem fin_gen0 (keep : Option Id) {rs : List ResultVar} {ps : List PV} {res : PV} (hps : resList tab S rs = some ps := by rfl) (he : ((resPV ps).sub (endSub keep)).ren (endName keep) = res := by rfl)
    (hids : ((resPV ps).sub (endSub keep)).ids.all (okKeep keep) = true := by rfl) (hk : (keep.all fun i => !i.isPar) = true := by rfl) : Fin tab rs res H0 S :=
  fin_gen keep (hq := []) .nil hps he hids hk

end
end Go.Proofs.Ytcahjpkmldmjdaa.Ab
