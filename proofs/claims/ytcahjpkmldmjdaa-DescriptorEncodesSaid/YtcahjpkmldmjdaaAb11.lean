/-
  Abstract values for walks without memory: the operations are sound, seventh part: literals, cuts, variables.
-/
import Derived.Test.YtcahjpkmldmjdaaAb10
namespace Go.Proofs.Ytcahjpkmldmjdaa.Ab
open Go

section
variable {P : Program} {tab : Tab} {F : Fr} {om : Id → Option Nat} {a : Act} {w : World} {S : St}

theorem fz_cells_len (y : PV) : y.fz.cells.length = y.cells.length := by
  cases y with
  | agg cs => simp [PV.fz, PV.cells]
  | sl e t xs => cases t <;> rfl
  | _ => rfl

theorem frzKill_form {ids : List Id} {rid : Id} (hr : rid.isRow = true) (hids : (ids.all Id.isRow) = true) : (∀ i, i.isRow = false → frzKill ids rid i = .keep) ∧
    (∀ i, frzKill ids rid i = .keep ∨ frzKill ids rid i = .frz ∨ frzKill ids rid i = .kill) ∧ frzKill ids rid rid ≠ .keep := by
  refine ⟨fun i hi => ?_, fun i => ?_, ?_⟩
  · unfold frzKill
    split
    · rename_i e; rw [e, hr] at hi; cases hi
    · split
      · rename_i hm
        rw [List.all_eq_true.1 hids i hm] at hi; cases hi
      · rfl
  · unfold frzKill
    split
    · exact .inr (.inl rfl)
    · split
      · exact .inr (.inl rfl)
      · exact .inl rfl
  · simp [frzKill]

theorem flat_flatMap {R : PV → Value → Prop} {sz : Nat} : ∀ (xs : List PV) (vs : List Value), xs.length = vs.length → (∀ x ∈ xs, x.cells.length = sz) → (∀ v ∈ vs, v.cells.size = sz) →
    (∀ (i : Nat) (x : PV) (v : Value), xs[i]? = some x → vs[i]? = some v → (∀ (j : Nat) (y : PV), x.cells[j]? = some y → y.isCell = true) ∧ ∀ (j : Nat) (y : PV) (c : Value), x.cells[j]? = some y → v.cells[j]? = some c → R y c) →
    Flat R sz xs (vs.flatMap fun v => v.cells.toList)
  | [], [], _, _, _, _ => Flat.nil
  | [], _ :: _, h, _, _, _ => by simp at h
  | _ :: _, [], h, _, _, _ => by simp at h
  | x :: xs, v :: vs, h, hx, hv, hr => by
    have ih := flat_flatMap (R := R) (sz := sz) xs vs (by simpa using h) (fun y hy => hx y (List.mem_cons_of_mem _ hy)) (fun y hy => hv y (List.mem_cons_of_mem _ hy)) (fun i y u h1 h2 => hr (i + 1) y u (by simpa using h1) (by simpa using h2))
    have h0 := hr 0 x v rfl rfl
    have h1 : Flat R sz [x] v.cells.toList := by
      have hxl := hx x List.mem_cons_self
      have hvl := hv v List.mem_cons_self
      refine ⟨by simp [hvl], ?_, ?_, ?_⟩
      · intro i y hy
        cases i <;> simp at hy
        subst hy; exact hxl
      · intro i y j z hy hz
        cases i <;> simp at hy
        subst hy; exact h0.1 j z hz
      · intro i y j z c hy hz hc
        cases i <;> simp at hy
        subst hy
        exact h0.2 j z c hz (by simpa using hc)
    have := h1.append ih
    simpa using this

theorem buildSlice_sound (hT : TabOK P tab) (h : SRel P F om a w S) {o : Oper} (hd : ∀ t, o.dst = some t → t < F.n) {r k t n : Nat} {parts : Array (Nat × Operand)} (ho : o.op = .buildSlice t n parts) {c : Prop} {f : Fx}
    (he : evBuildSlice tab r k t n S parts = .go c f) (hc : c) : StepOK P F o a w (ap o.dst S f) := by
  unfold evBuildSlice at he
  split at he
  case h_2 => cases he
  rename_i e sz by_ z0 hts
  split at he
  case h_2 => cases he
  rename_i i hte
  obtain ⟨rfl, rfl⟩ := Ev.go.inj he
  obtain ⟨h0, h1, h2, h3, h4⟩ := hc
  obtain ⟨I, z, hI, hIs, hIb, hIz, hzr⟩ := (hT e i hte).info
  have hce : P.cellsOf e = i.size := (hT e i hte).cellsOf
  obtain ⟨t1, t2, t3⟩ := frzKill_form (rid := .row r k) rfl h4
  have hlen : parts.size = n := by
    have := congrArg List.length h0
    simpa using this
  have hVR : ∀ p ∈ parts.toList, VR P F.I0 F.base om w (opndT tab e S p.2) (a.eval p.2) := fun p _ => opndT_VR h e p.2
  have hys : ∀ p ∈ parts.toList, (opndT tab e S p.2).cells.length = i.size ∧ (opndT tab e S p.2).fz.isPure = true := fun p hp => by
    have := List.all_eq_true.1 h3 _ (List.mem_map.2 ⟨p, hp, rfl⟩)
    simpa using this
  have hRR : ∀ (ob : Obj) (p : Nat × Operand), p ∈ parts.toList → RR P (Im F.I0 F.base (omNext om (frzKill ((parts.toList.map fun p => opndT tab e S p.2).flatMap PV.owns) (.row r k)) (.row r k) (some w.heap.size)) (w.alloc ob)) (w.alloc ob) (opndT tab e S p.2).fz (a.eval p.2) := by
    intro ob p hp
    refine mem_owns_frz (allocExt h (rid := .row r k) rfl t1 t2 t3 ob) (hVR p hp) (fun id hid => ?_) (hys p hp).2
    exact List.mem_flatMap.2 ⟨_, List.mem_map.2 ⟨p, hp, rfl⟩, hid⟩
  have hvs : ∀ v ∈ parts.toList.map (fun p => a.eval p.2), v.cells.size = I.size := by
    intro v hv
    obtain ⟨p, hp, rfl⟩ := List.mem_map.1 hv
    rw [(hRR default p hp).cellsLen, fz_cells_len, (hys p hp).1, hIs]
  have hparts : (parts.map fun (i, x) => (i, a.eval x)).toList = ((parts.toList.map (fun p => a.eval p.2)).zipIdx 0).map fun x => (x.2, x.1) := by
    apply List.ext_getElem?
    intro j
    by_cases hj : j < parts.toList.length
    · have h5 : (parts.toList.map (·.1))[j]? = some j := by
        rw [h0, List.getElem?_range (by rw [← hlen]; simpa using hj)]
      rw [List.getElem?_map, List.getElem?_eq_getElem hj] at h5
      simp only [Option.map_some, Option.some.injEq] at h5
      simp only [Array.toList_map, List.getElem?_map, List.getElem?_eq_getElem hj, Option.map_some, List.getElem?_zipIdx, Nat.zero_add]
      rw [h5]
    · rw [List.getElem?_eq_none (by simp at hj ⊢; omega), List.getElem?_eq_none (by simp at hj ⊢; omega)]
  have hF : ∀ ob, Flat (RR P (Im F.I0 F.base (omNext om (frzKill ((parts.toList.map fun p => opndT tab e S p.2).flatMap PV.owns) (.row r k)) (.row r k) (some w.heap.size)) (w.alloc ob)) (w.alloc ob)) (P.cellsOf e)
      ((parts.toList.map fun p => opndT tab e S p.2).map PV.fz) ((parts.toList.map (fun p => a.eval p.2)).flatMap fun v => v.cells.toList) := by
    intro ob
    rw [hce]
    refine flat_flatMap _ _ (by simp) ?_ (fun v hv => (hvs v hv).trans hIs) ?_
    · intro x hx
      obtain ⟨y, hy, rfl⟩ := List.mem_map.1 hx
      obtain ⟨p, hp, rfl⟩ := List.mem_map.1 hy
      rw [fz_cells_len]
      exact (hys p hp).1
    · intro j x v hx hv
      rw [List.getElem?_map, List.getElem?_map] at hx
      rw [List.getElem?_map] at hv
      cases hp : parts.toList[j]? with
      | none => simp [hp] at hv
      | some p =>
        simp only [hp, Option.map_some, Option.some.injEq] at hx hv
        subst hx
        subst hv
        exact (hRR ob p (List.mem_of_getElem? hp)).cellsRel
  have hrun : (Instr.buildSlice t n (parts.map fun (i, x) => (i, a.eval x))).run P w = .ok (.slice (some ⟨w.heap.size, 0, none⟩) n n) (w.alloc (.cells ((parts.toList.map (fun p => a.eval p.2)).flatMap fun v => v.cells.toList).toArray e)) := by
    by_cases hn : n = 0
    · subst hn
      have hp0 : parts = #[] := Array.size_eq_zero_iff.1 hlen
      subst hp0
      simp [Instr.buildSlice, run_underlying (und_slice (hT t _ hts)), sizeOf, typeInfo, hI, Instr.fill, newRow, Array.range_zero']
    · refine run_buildSlice (P := P) w t e n _ _ I z (und_slice (hT t _ hts)) hI hIz (by rw [hIs]; omega) (by rw [hIs]; exact Nat.mul_ne_zero hn (by omega)) ?_
      rw [hparts]
      exact Great.fill_whole (by omega) _ _ hvs (by simp [hlen])
  have hl1 : ((parts.toList.map fun p => opndT tab e S p.2).map PV.fz).length = n := by simp [hlen]
  have hfin := newRow_core (xs := (parts.toList.map fun p => opndT tab e S p.2).map PV.fz) (cap := n) h (rid := .row r k) rfl t1 t2 t3 (by rw [hl1]; exact Nat.le_refl _)
    (by simp only [maxLen]; have := Nat.le_mul_of_pos_right n h2; omega) (cells := ((parts.toList.map (fun p => a.eval p.2)).flatMap fun v => v.cells.toList).toArray) (e := e) ?_ ?_ o.dst hd
  · rw [hl1] at hfin
    refine ⟨_, _, _, .inl ?_, hfin⟩
    simp [execOp, ho]
    rw [hrun]
    simp
  · have := (hF default).len
    rw [hl1] at this
    simpa using this
  · have h5 := hF (.cells ((parts.toList.map (fun p => a.eval p.2)).flatMap fun v => v.cells.toList).toArray e)
    have h6 := h5.len
    rw [List.toList_toArray, ← h6, List.take_length]
    exact h5

end
end Go.Proofs.Ytcahjpkmldmjdaa.Ab
