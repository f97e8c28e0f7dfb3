/-
  Abstract values for walks without memory: literals and results that are shared at once; calls with variables behind pointers.
-/
import Derived.Test.YtcahjpkmldmjdaaAb27
namespace Go.Proofs.Ytcahjpkmldmjdaa.Ab
open Go

/-- A value of which no more is known than what it reads. -/
def PV.roD : PV → PV
  | .sl e .full xs => .sl e .ro xs
  | .agg cs => .agg (PV.roL cs)
  | v => v

def PV.roDs : List PV → List PV
  | [] => []
  | v :: l => v.roD :: PV.roDs l

theorem PV.roDs_map (l : List PV) : PV.roDs l = l.map PV.roD := by
  induction l with
  | nil => rfl
  | cons c l ih => simp [PV.roDs, ih]

theorem PV.isCell_ro1 {y : PV} (h : y.isCell = true) : y.ro1.isCell = true := by
  unfold PV.ro1; split
  · rfl
  · exact h

theorem PV.ids_ro1 (y : PV) : y.ro1.ids = y.ids := by
  unfold PV.ro1; split <;> rfl

theorem PV.ids_roD (y : PV) : y.roD.ids = y.ids := by
  unfold PV.roD; split
  · rfl
  · simp only [PV.ids, PV.idss_roL]
  · rfl

theorem PV.idss_roDs (l : List PV) : PV.idss (PV.roDs l) = PV.idss l := by
  induction l with
  | nil => rfl
  | cons c l ih => simp only [PV.roDs, PV.idss, ih, PV.ids_roD]

theorem PV.sub_noids (σ : Id → Sub) : ∀ (p : PV), p.ids = [] → p.sub σ = p := by
  intro p
  refine PV.rec (motive_1 := fun p => p.ids = [] → p.sub σ = p) (motive_2 := fun l => PV.idss l = [] → PV.subs σ l = l) ?_ ?_ ?_ ?_ ?_ ?_ ?_ ?_ ?_ ?_ ?_ ?_ ?_ ?_ ?_ ?_ p
  · intros; rfl
  · intros; rfl
  · intros; rfl
  · intros; rfl
  · intros; rfl
  · intros; rfl
  · intros; rfl
  · intro e t xs _ h; cases t <;> first | rfl | (simp [PV.ids] at h)
  · intro e t xs i j _ h; cases t <;> first | rfl | (simp [PV.ids] at h)
  · intro id off h; simp [PV.ids] at h
  · intros; rfl
  · intro cs ih h; simp only [PV.sub]; rw [ih (by simpa [PV.ids] using h)]
  · intro cs ih h; simp only [PV.sub]; rw [ih (by simpa [PV.ids] using h)]
  · intro f cs ih h; simp only [PV.sub]; rw [ih (by simpa [PV.ids] using h)]
  · intros; rfl
  · intro c cs h1 h2 h
    simp only [PV.idss, List.append_eq_nil_iff] at h
    simp only [PV.subs, h1 h.1, h2 h.2]

section
variable {P : Program} {tab : Tab}

theorem VR.roD {I0 : Nat → Prop} {base : Nat → Prop} {om : Id → Option Nat} {w : World} {p : PV} {v : Value} (h : VR P I0 base om w p v) : VR P I0 base om w p.roD v := by
  unfold PV.roD
  split
  · exact h.ro1
  · rename_i cs
    obtain ⟨vs, rfl, hn, hy, h1, hr⟩ := h.agg_inv
    refine .agg _ _ (by rw [PV.roL_map, List.length_map]; exact hn) ?_ h1 ?_
    · intro j y hj
      rw [PV.roL_map, List.getElem?_map] at hj
      cases hx : cs[j]? with
      | none => simp [hx] at hj
      | some x => simp [hx] at hj; subst hj; exact PV.isCell_ro1 (hy j x hx)
    · intro j y c hj hc
      rw [PV.roL_map, List.getElem?_map] at hj
      cases hx : cs[j]? with
      | none => simp [hx] at hj
      | some x => simp [hx] at hj; subst hj; exact (hr j x c hx hc).ro1
  · exact h

theorem Can.roD {f : Nat} {args : List PV} {Hp : Id → Option (List PV)} {res : PV} {Hq : Id → Option (List PV)} (h : Can P f (PV.roDs args) Hp res Hq) : Can P f args Hp res Hq := by
  refine ⟨h.1, fun F om w vs hb hw hW hp hl hr => h.2 F om w vs hb hw hW hp (by rw [PV.roDs_map, List.length_map]; exact hl) ?_⟩
  intro j y v hy hv
  rw [PV.roDs_map, List.getElem?_map] at hy
  cases hx : args[j]? with
  | none => simp [hx] at hy
  | some x =>
    simp [hx] at hy
    subst hy
    exact (hr j x v hx hv).roD

/-- A result whose row is shared at once. -/
theorem Can.frzR {f : Nat} {args : List PV} {Hp : Id → Option (List PV)} {res : PV} {hq : List (Id × List PV)} (h : Can P f args Hp res (lookH hq)) (hq0 : (hq.all fun x => (PV.idss x.2).isEmpty && !x.1.isRow) = true := by rfl) : Can P f args Hp (res.sub (oneSub (.rrow 0) .frz)) (lookH hq) := by
  refine ⟨h.1, fun F om w vs hb hw hW hp hl hr => Calls.mono (h.2 F om w vs hb hw hW hp hl hr) ?_⟩
  rintro e w' ⟨v, om', rfl, hW', hv⟩
  obtain ⟨t1, t2, t3⟩ := oneSub_form (rid := .rrow 0) rfl
  have hS : SRel P ⟨F.I0, F.base, F.om0, F.w0, 0⟩ om' ⟨#[], []⟩ w' ⟨fun _ => .dead, lookH hq⟩ :=
    ⟨rfl, rfl, fun t => .dead _, hW'.box, hW'.inj, hW'.lt, hW'.loc, hW'.par, hW'.i0, hW'.base_le, hW'.frame, hW'.outer⟩
  have E := hS.releaseExt (rid := .rrow 0) rfl t1 t2 t3
  have hS2 := hS.release (rid := .rrow 0) rfl t1 t2 t3 none (fun t h => by cases h) .dead undef (.dead _)
  refine ⟨v, _, rfl, ⟨fun id cs hc => ?_, hS2.inj, hS2.lt, hS2.loc, hS2.par, hS2.i0, hS2.base_le, hS2.frame, hS2.outer⟩, VR.sub E hv⟩
  have hrow : ∀ (l : List (Id × List PV)), (l.all fun x => (PV.idss x.2).isEmpty && !x.1.isRow) = true → lookH l id = some cs → PV.idss cs = [] ∧ id.isRow = false := by
    intro l
    induction l with
    | nil => intro _ h; cases h
    | cons x l ih =>
      intro ha hl
      simp only [List.all_cons, Bool.and_eq_true] at ha
      obtain ⟨i, d⟩ := x
      unfold lookH at hl
      split at hl
      · rename_i e; subst e; cases hl
        have := ha.1
        simp at this
        exact this
      · exact ih ha.2 hl
  obtain ⟨hids, hr0⟩ := hrow hq hq0 hc
  refine hS2.box id cs ?_
  show (((⟨fun _ => .dead, lookH hq⟩ : St).sub (oneSub (.rrow 0) .frz)).setH (.rrow 0) none).H id = some cs
  have hne : id ≠ .rrow 0 := fun e => by subst e; cases hr0
  simp only [St.setH, if_neg hne, St.sub, hc, Option.map_some, Option.some.injEq]
  rw [PV.subs_map]
  have : ∀ c ∈ cs, c.sub (oneSub (.rrow 0) .frz) = c := by
    intro c hcm
    obtain ⟨j, hj⟩ := List.mem_iff_getElem?.1 hcm
    have hci : c.ids = [] := by
      apply List.eq_nil_iff_forall_not_mem.2
      intro i hi
      have := PV.idss_mem hj hi
      rw [hids] at this
      cases this
    exact PV.sub_noids _ _ hci
  conv => rhs; rw [← List.map_id cs]
  exact List.map_congr_left this

end
end Go.Proofs.Ytcahjpkmldmjdaa.Ab
