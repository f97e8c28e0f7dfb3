/-
  Abstract values for walks without memory: the operations are sound, sixth part: make, literals, cuts.
-/
import Derived.Test.YtcahjpkmldmjdaaAb9
import Derived.Great.BuildSlice
namespace Go.Proofs.Ytcahjpkmldmjdaa.Ab
open Go

section
variable {P : Program} {tab : Tab} {F : Fr} {om : Id → Option Nat} {a : Act} {w : World} {S : St}

/-- A new row. -/
theorem newRow_core (h : SRel P F om a w S) {σ : Id → Sub} {rid : Id} (hrid : rid.isRow = true) (hσb : ∀ i, i.isRow = false → σ i = .keep)
    (hσ : ∀ i, σ i = .keep ∨ σ i = .frz ∨ σ i = .kill) (hσr : σ rid ≠ .keep) {e : TypeId} {cells : Array Value} {xs : List PV} {cap : Nat} (hc : xs.length ≤ cap) (hm : cap ≤ maxLen) (hs : cells.size = cap * P.cellsOf e)
    (hF : Flat (RR P (Im F.I0 F.base (omNext om σ rid (some w.heap.size)) (w.alloc (.cells cells e))) (w.alloc (.cells cells e))) (P.cellsOf e) xs (cells.toList.take (xs.length * P.cellsOf e)))
    (d : Option Nat) (hd : ∀ t, d = some t → t < F.n) :
    SRel P F (omNext om σ rid (some w.heap.size)) (a.put d (.slice (some ⟨w.heap.size, 0, none⟩) xs.length cap)) (w.alloc (.cells cells e)) (((S.sub σ).setH rid none).put d (.sl e (.own rid) xs)) := by
  refine h.row (g := w.heap.size) hrid hσb hσ hσr (.inl rfl) (h.base_le _ (Nat.le_refl _)) ?_ ?_ ?_ (by exact ⟨rfl, rfl, rfl⟩) d hd _ _ (.own _ _ _ _ (.inr ⟨w.heap.size, cap, cells, hrid, ?_, rfl, hc, hm, heap_alloc_new w _, hs, hF⟩))
  · show w.heap.size < (w.heap.push _).size
    simp
  · show w.heap.size ≤ (w.heap.push _).size
    simp
  · intro b hb _
    exact heap_alloc_old w _ hb
  · simp [omNext]

theorem allocExt (h : SRel P F om a w S) {σ : Id → Sub} {rid : Id} (hrid : rid.isRow = true) (hσb : ∀ i, i.isRow = false → σ i = .keep)
    (hσ : ∀ i, σ i = .keep ∨ σ i = .frz ∨ σ i = .kill) (hσr : σ rid ≠ .keep) (o : Obj) : Ext P F.I0 F.base om w (omNext om σ rid (some w.heap.size)) (w.alloc o) σ :=
  h.rowExt (g := w.heap.size) hrid hσb hσ hσr (.inl rfl) (by show w.heap.size ≤ (w.heap.push _).size; simp) (fun b hb _ => heap_alloc_old w _ hb)

theorem flat_replicate {R : PV → Value → Prop} {z : PV} {zv : Value} {sz : Nat} (hsz : z.cells.length = sz) (hzv : zv.cells.size = sz) (hpos : 0 < sz)
    (hcell : ∀ (j : Nat) (y : PV), z.cells[j]? = some y → y.isCell = true) (hrel : ∀ (j : Nat) (y : PV) (c : Value), z.cells[j]? = some y → zv.cells[j]? = some c → R y c) (n m : Nat) (hnm : n ≤ m) :
    Flat R sz (List.replicate n z) ((madeCells zv.cells (m * sz)).toList.take (n * sz)) := by
  have hget : ∀ k c, ((madeCells zv.cells (m * sz)).toList.take (n * sz))[k]? = some c → zv.cells[k % sz]? = some c := by
    intro k c hk
    rw [List.getElem?_take] at hk
    split at hk
    · have hkm : k < m * sz := Nat.lt_of_lt_of_le ‹_› (Nat.mul_le_mul_right _ hnm)
      simp [madeCells, hkm] at hk
      have hlt : k % sz < zv.cells.size := by rw [hzv]; exact Nat.mod_lt _ hpos
      rw [hzv] at hk
      rw [Array.getElem?_eq_getElem hlt]
      rw [getElem!_pos zv.cells (k % sz) hlt] at hk
      exact congrArg some hk
    · cases hk
  refine ⟨?_, ?_, ?_, ?_⟩
  · simp only [List.length_take, Array.length_toList, size_madeCells, List.length_replicate]
    have := Nat.mul_le_mul_right sz hnm
    omega
  · intro i x hx
    rw [List.getElem?_replicate] at hx
    split at hx
    · cases hx; exact hsz
    · cases hx
  · intro i x j y hx hy
    rw [List.getElem?_replicate] at hx
    split at hx
    · cases hx; exact hcell j y hy
    · cases hx
  · intro i x j y c hx hy hc
    rw [List.getElem?_replicate] at hx
    split at hx
    · cases hx
      have hj : j < sz := by have := (List.getElem?_eq_some_iff.1 hy).1; omega
      have := hget _ c hc
      rw [show (i * sz + j) % sz = j by rw [Nat.add_comm, Nat.add_mul_mod_self_right, Nat.mod_eq_of_lt hj]] at this
      exact hrel j y c hy this
    · cases hx

theorem make_sound (hT : TabOK P tab) (h : SRel P F om a w S) {o : Oper} (hd : ∀ t, o.dst = some t → t < F.n) {r k t : Nat} {l cp : Operand} (ho : o.op = .makeSlice t l cp) {c : Prop} {f : Fx}
    (he : evMake tab r k t (opnd S l) (opnd S cp) = .go c f) (hc : c) : StepOK P F o a w (ap o.dst S f) := by
  have hl := opnd_VR h l
  have hcp := opnd_VR h cp
  unfold evMake at he
  split at he
  case h_2 => cases he
  rename_i e sz by_ z0 kl n kc m hts hol hoc
  split at he
  case h_2 => cases he
  rename_i i hte
  obtain ⟨rfl, rfl⟩ := Ev.go.inj he
  obtain ⟨h0, h1, h2, h3, h4⟩ := hc
  rw [hol] at hl
  rw [hoc] at hcp
  obtain ⟨I, z, hI, hIs, hIb, hIz, hzr⟩ := (hT e i hte).info
  have hce : P.cellsOf e = i.size := (hT e i hte).cellsOf
  have hrun := run_make (P := P) w t e I z (und_slice (hT t _ hts)) hI hIz kl kc n m h0 h1 (by rw [hIb]; exact h3) h2
  obtain ⟨t1, t2, t3⟩ := oneSub_form (rid := .row r k) rfl
  have hzc := (hzr (Im F.I0 F.base (omNext om (oneSub (.row r k) .frz) (.row r k) (some w.heap.size)) (w.alloc (.cells (madeCells z.cells (m.toNat * I.size)) e))) (w.alloc (.cells (madeCells z.cells (m.toNat * I.size)) e))).cellsRel
  have hzs : z.cells.size = i.size := by rw [(hzr (fun _ => False) w).cellsLen, (hT e i hte).zlen]
  refine ⟨_, _, _, .inl ?_, newRow_core (cells := madeCells z.cells (m.toNat * I.size)) (xs := List.replicate n.toNat i.zero) (cap := m.toNat) h (rid := .row r k) rfl t1 t2 t3 (by simp; omega) (by simp only [maxLen]; omega) ?_ ?_ o.dst hd⟩
  · simp [execOp, ho, hl.int_inv, hcp.int_inv, hrun]
  · rw [size_madeCells, hce, hIs]
  · rw [hce, List.length_replicate, ← hIs]
    exact flat_replicate ((hT e i hte).zlen.trans hIs.symm) (hzs.trans hIs.symm) (by omega) hzc.1 hzc.2 n.toNat m.toNat (by omega)

theorem mem_owns_frz {y : PV} {ids : List Id} {rid : Id} {I0 : Nat → Prop} {base : Nat → Prop} {w' : World} {om' : Id → Option Nat} {v : Value} (E : Ext P I0 base om w om' w' (frzKill ids rid)) (hv : VR P I0 base om w y v) (hsub : ∀ id ∈ y.owns, id ∈ ids)
    (hp : y.fz.isPure = true) : RR P (Im I0 base om' w') w' y.fz v := by
  have hone : ∀ (y : PV) (v : Value), VR P I0 base om w y v → (∀ id ∈ y.owns1, id ∈ ids) → y.fz1.isPure1 = true → RR P (Im I0 base om' w') w' y.fz1 v := by
    intro y v hv hs hp
    cases y with
    | sl e t xs =>
      cases t with
      | own id =>
        refine hv.sl_own.frz E.im (fun hr b hb => E.frz id hr ?_ b hb)
        have : id ∈ ids := hs id (by simp [PV.owns1])
        simp [frzKill, this]
      | ro => exact RR.mono P E.im (hv.sl_pure (fun id h => by cases h))
      | full => exact RR.mono P E.im (hv.sl_pure (fun id h => by cases h))
    | int k n => rw [hv.int_inv]; exact .int _ _
    | bool b => rw [hv.bool_inv]; exact .bool _
    | str s => rw [hv.str_inv]; exact .str _
    | nilp => cases hv with | pure _ _ h => exact RR.mono P E.im h
    | nilf => cases hv with | pure _ _ h => exact RR.mono P E.im h
    | nili => cases hv with | pure _ _ h => exact RR.mono P E.im h
    | _ => simp [PV.fz1, PV.isPure1] at hp
  cases y with
  | agg cs =>
    obtain ⟨vs, rfl, hn, hy, h1, hrel⟩ := hv.agg_inv
    simp only [PV.fz, PV.isPure, List.all_eq_true] at hp
    refine .agg _ _ (by simpa using hn) ?_ ?_
    · intro j y hj
      rw [List.getElem?_map] at hj
      cases hc : cs[j]? with
      | none => simp [hc] at hj
      | some x =>
        simp [hc] at hj
        have hx := hy j x hc
        subst hj
        cases x with
        | sl e t xs => cases t <;> rfl
        | agg cs => simp [PV.isCell] at hx
        | tup cs => simp [PV.isCell] at hx
        | _ => rfl
    · intro j y c hj hc
      rw [List.getElem?_map] at hj
      cases hx : cs[j]? with
      | none => simp [hx] at hj
      | some x =>
        simp [hx] at hj
        subst hj
        refine hone x c (hrel j x c hx hc) (fun id hid => hsub id ?_) (hp _ (List.mem_map.2 ⟨x, List.mem_of_getElem? hx, rfl⟩))
        simp only [PV.owns, List.mem_flatMap]
        exact ⟨x, List.mem_of_getElem? hx, hid⟩
  | sl e t xs => cases t <;> exact hone _ v hv hsub hp
  | int k n => exact hone _ v hv hsub hp
  | bool b => exact hone _ v hv hsub hp
  | str s => exact hone _ v hv hsub hp
  | nilp => exact hone _ v hv hsub hp
  | nilf => exact hone _ v hv hsub hp
  | nili => exact hone _ v hv hsub hp
  | _ => simp [PV.fz, PV.fz1, PV.isPure, PV.isPure1] at hp

end
end Go.Proofs.Ytcahjpkmldmjdaa.Ab
