/-
  Abstract values for walks without memory: zeros appended to a row of the call's own; a row that is copied into.
-/
import Derived.Test.YtacdknbakjbpiaaAb32
import Derived.Laws.IdiomCopy
namespace Go.Proofs.Ytacdknbakjbpiaa.Ab
open Go

section
variable {P : Program} {tab : Tab} {F : Fr} {om : Id → Option Nat} {a : Act} {w : World} {S : St}

theorem run_append_room_zeros (t tn ty e : TypeId) (i : TypeInfo) (z : Value) (kq kn : IntKind) (ht : P.underlying t = some (.slice e)) (htn : P.underlying tn = some (.int kn)) (hi : P.info? e = some i) (hz : i.zero = some z) (g sLen sCap : Nat) (cur : Array Value) (hg : w.heap[g]? = some (.cells cur e (0, 0)))
    (k : Nat) (h0 : 0 < k) (hs : 0 < i.size) (h63 : (k : Int) ≤ 9223372036854775807) (h48 : k * i.bytes ≤ 281474976710656) (hroom : sLen + k ≤ sCap) (hfit : sLen * i.size + (Builtin.zeroCells z.cells k).toList.length ≤ cur.size) (hone : ∀ v ∈ (Builtin.zeroCells z.cells k).toList, v.oneCell' = true) :
    (Builtin.append_ #[t, tn] ty #[.slice (some ⟨g, 0, none⟩) sLen sCap, .int kq k]).run P w =
      .ok (.slice (some ⟨g, 0, none⟩) (sLen + k) sCap) (w.setRow g (cur.toList.take (sLen * i.size) ++ (Builtin.zeroCells z.cells k).toList ++ cur.toList.drop (sLen * i.size + (Builtin.zeroCells z.cells k).toList.length)).toArray) := by
  have hst := run_storeCells_at P g (sLen * i.size) e (Builtin.zeroCells z.cells k).toList 0 cur w hg (by simpa using hfit) hone
  simp only [Nat.add_zero] at hst
  have hk : k ≠ 0 := by omega
  have hw : IntKind.i64.wrap (k : Int) = k := by rw [IntKind.wrap_i64]; omega
  have h48i : ¬ (281474976710656 < (k : Int) * (i.bytes : Int)) := by
    rw [← Int.natCast_mul]
    omega
  have hneg : ¬ ((k : Int) < 0) := by omega
  have hns : ¬ (k * i.size = 0) := Nat.mul_ne_zero hk (by omega)
  simp [Builtin.append_, run_underlying ht, run_underlying htn, sizeOf, typeInfo, zeroValue, hi, hz, asInt, asIntOf, hw, hneg, hns, h48i, hroom, Addr.add_lit, hst]

theorem run_append_no_zeros (t tn ty e : TypeId) (i : TypeInfo) (kq kn : IntKind) (ht : P.underlying t = some (.slice e)) (htn : P.underlying tn = some (.int kn)) (hi : P.info? e = some i) (p : Option Addr) (sLen sCap : Nat) (hroom : sLen ≤ sCap) :
    (Builtin.append_ #[t, tn] ty #[.slice p sLen sCap, .int kq 0]).run P w = .ok (.slice p sLen sCap) w := by
  have hw : IntKind.i64.wrap 0 = 0 := by rw [IntKind.wrap_i64]; omega
  cases p <;> simp [Builtin.append_, run_underlying ht, run_underlying htn, sizeOf, typeInfo, hi, asInt, asIntOf, hw, hroom, storeCells]

theorem flat_zeroCells {R : PV → Value → Prop} {z : PV} {zv : Value} {sz : Nat} (hsz : z.cells.length = sz) (hzv : zv.cells.size = sz) (hpos : 0 < sz)
    (hcell : ∀ (j : Nat) (y : PV), z.cells[j]? = some y → y.isCell = true) (hrel : ∀ (j : Nat) (y : PV) (c : Value), z.cells[j]? = some y → zv.cells[j]? = some c → R y c) (n : Nat) :
    Flat R sz (List.replicate n z) (Builtin.zeroCells zv.cells n).toList := by
  have h := flat_replicate hsz hzv hpos hcell hrel n n (Nat.le_refl _)
  have e1 : (madeCells zv.cells (n * sz)) = Builtin.zeroCells zv.cells n := by rw [← hzv]; rfl
  rw [e1] at h
  have e2 : (Builtin.zeroCells zv.cells n).toList.length = n * sz := by rw [Array.length_toList, size_zeroCells, hzv]
  rw [← e2, List.take_length] at h
  exact h

/-- Zeros are appended to what is the call's own, or nothing. -/
theorem append_core_z (h : SRel P F om a w S) {σ : Id → Sub} {rid : Id} (hrid : rid.isRow = true) (hσb : ∀ i, i.isRow = false → σ i = .keep)
    (hσ : ∀ i, σ i = .keep ∨ σ i = .frz ∨ σ i = .kill) (hσr : σ rid ≠ .keep) {t tn ty e : TypeId} {kq kn : IntKind} {I : TypeInfo} {z : Value} {zp : PV} (ht : P.underlying t = some (.slice e)) (htn : P.underlying tn = some (.int kn)) (hI : P.info? e = some I) (hz : I.zero = some z)
    (hzl : z.cells.size = I.size) (hzp : zp.cells.length = I.size) (hpos : 0 < I.size) (hzr : ∀ (Im : Nat → Prop) (w : World), RR P Im w zp z)
    {vs : Value} {xs : List PV} {k : Nat}
    (hown : (xs = [] ∧ ∃ p, vs = .slice p 0 0) ∨ ∃ id0, σ id0 = .kill ∧ OwnS P F.I0 F.base om w id0 e xs vs)
    (hb : (xs.length + k) * I.bytes ≤ 140737488355328) (h63 : xs.length + k ≤ 9223372036854775807) (d : Option Nat) (hd : ∀ t, d = some t → t < F.n) :
    ∃ v' w' om', (Builtin.append_ #[t, tn] ty #[vs, .int kq k]).run P w = .ok v' w' ∧ SRel P F om' (a.put d v') w' (((S.sub σ).setH rid none).put d (.sl e (.own rid) (xs ++ List.replicate k zp))) := by
  have hce : P.cellsOf e = I.size := by simp [Program.cellsOf, hI]
  have hflat : ∀ (Im : Nat → Prop) (w : World), Flat (RR P Im w) I.size (List.replicate k zp) (Builtin.zeroCells z.cells k).toList := fun Im w =>
    flat_zeroCells hzp hzl hpos (hzr Im w).cellsRel.1 (hzr Im w).cellsRel.2 k
  have hkb : k * I.bytes ≤ 140737488355328 := by
    have := Nat.mul_le_mul_right I.bytes (show k ≤ xs.length + k by omega)
    omega
  by_cases hk0 : k = 0
  · subst hk0
    simp only [List.replicate_zero, List.append_nil]
    rcases hown with ⟨rfl, p, rfl⟩ | ⟨id0, hk, hown⟩
    · exact ⟨_, w, _, run_append_no_zeros t tn ty e I kq kn ht htn hI p 0 0 (Nat.le_refl _), h.release hrid hσb hσ hσr d hd _ _ (.own _ _ _ _ (.inl ⟨rfl, p, rfl⟩))⟩
    · rcases hown with ⟨rfl, p, rfl⟩ | ⟨b, cap, cur, hr, hb0, rfl, hc, hm, hh, hs, hF⟩
      · exact ⟨_, w, _, run_append_no_zeros t tn ty e I kq kn ht htn hI p 0 0 (Nat.le_refl _), h.release hrid hσb hσ hσr d hd _ _ (.own _ _ _ _ (.inl ⟨rfl, p, rfl⟩))⟩
      · have hbb : F.base ≤ b := by
          rcases h.loc id0 b hb0 with h1 | ⟨k, rfl⟩
          · exact h1
          · cases hr
        have hEx := h.rowExt (w' := w) (g := b) hrid hσb hσ hσr (.inr ⟨id0, hk, hb0⟩) (Nat.le_refl _) (fun _ _ _ => rfl)
        refine ⟨_, w, _, run_append_no_zeros t tn ty e I kq kn ht htn hI _ _ _ hc, h.row (g := b) hrid hσb hσ hσr (.inr ⟨id0, hk, hb0⟩) hbb (h.lt id0 b hb0) (Nat.le_refl _) (fun _ _ _ => rfl) (by exact ⟨rfl, rfl, rfl⟩) d hd _ _ (.own _ _ _ _ (.inr ⟨b, cap, cur, hrid, ?_, rfl, hc, hm, hh, hs, hF.mono fun y c hr => RR.mono P hEx.im hr⟩))⟩
        simp [omNext]
  have hkp : 0 < k := by omega
  -- a row of its own, made
  have grown : ∀ (p : Option Addr) (sCap : Nat) (olds : List Value), Flat (RR P (Im F.I0 F.base om w) w) I.size xs olds → (Builtin.firstCells I.size xs.length (.slice p xs.length sCap)).run P w.drew = .ok olds.toArray w.drew →
      sCap < xs.length + k → vs = .slice p xs.length sCap →
      ∃ v' w' om', (Builtin.append_ #[t, tn] ty #[vs, .int kq k]).run P w = .ok v' w' ∧ SRel P F om' (a.put d v') w' (((S.sub σ).setH rid none).put d (.sl e (.own rid) (xs ++ List.replicate k zp))) := by
    intro p sCap olds hfo hold hlt hvs
    subst hvs
    have hrun := Lib.run_append_grow_zeros (P := P) w t tn ty e I z kq kn ht htn hI hz p xs.length sCap olds hold k hkp hpos hlt (by omega) (by omega) (growslice_fits hlt hb)
    have hge := grownCap_ge w (xs.length + k) sCap e
    have hcm : grownCap w (xs.length + k) sCap e ≤ maxLen := grownCap_le_maxLen w _ sCap e (by simp only [maxLen]; omega)
    refine ⟨_, _, _, hrun, h.row (g := w.heap.size) hrid hσb hσ hσr (.inl rfl) h.base_le ?_ ?_ ?_ (by exact ⟨rfl, rfl, rfl⟩) d hd _ _ (.own _ _ _ _ (.inr ⟨w.heap.size, _, _, hrid, ?_, ?_, ?_, hcm, heap_alloc_new w.drew _, ?_, ?_⟩))⟩
    · show w.heap.size < (w.heap.push _).size
      simp
    · show w.heap.size ≤ (w.heap.push _).size
      simp
    · intro b hb _
      exact heap_alloc_old w.drew _ hb
    · simp [omNext]
    · simp
    · simpa using hge
    · rw [hce]
      have h1 := hfo.len
      simp only [Array.size_append, List.size_toArray, size_zeroCells, hzl, h1, ← Nat.add_mul]
      congr 1
      omega
    · rw [hce]
      have hEx := h.rowExt (w' := w.drew.alloc (.cells (olds.toArray ++ Builtin.zeroCells z.cells k ++ Builtin.zeroCells z.cells (grownCap w (xs.length + k) sCap e - (xs.length + k))) e)) (g := w.heap.size) hrid hσb hσ hσr (.inl rfl)
        (by show w.heap.size ≤ (w.heap.push _).size; simp) (fun b hb _ => heap_alloc_old w.drew _ hb)
      have hff := (hfo.append (hflat _ w)).mono fun y c hr => RR.mono P hEx.im hr
      have htk : (List.take ((xs ++ List.replicate k zp).length * I.size) (olds.toArray ++ Builtin.zeroCells z.cells k ++ Builtin.zeroCells z.cells (grownCap w (xs.length + k) sCap e - (xs.length + k))).toList) = olds ++ (Builtin.zeroCells z.cells k).toList := by
        rw [Array.toList_append, Array.toList_append]
        have hl := (hfo.append (hflat (Im F.I0 F.base om w) w)).len
        rw [← hl]
        exact List.take_left
      rw [htk]
      exact hff
  have nothing : ∀ p, xs = [] → vs = .slice p 0 0 → ∃ v' w' om', (Builtin.append_ #[t, tn] ty #[vs, .int kq k]).run P w = .ok v' w' ∧ SRel P F om' (a.put d v') w' (((S.sub σ).setH rid none).put d (.sl e (.own rid) (xs ++ List.replicate k zp))) := by
    intro p hx hv
    subst hx
    subst hv
    refine grown p 0 [] Flat.nil ?_ (by simpa using hkp) rfl
    cases p <;> simp [Builtin.firstCells, loadCells, loadCellsFrom]
  rcases hown with ⟨hx, p, hv⟩ | ⟨id0, hk, hown⟩
  · exact nothing p hx hv
  · rcases hown with ⟨hx, p, hv⟩ | ⟨b, cap, cur, hr, hb0, hv, hc, hm, hh, hs, hF⟩
    · exact nothing p hx hv
    · subst hv
      rw [hce] at hs hF
      have hbb : F.base ≤ b := by
        rcases h.loc id0 b hb0 with h1 | ⟨k, rfl⟩
        · exact h1
        · cases hr
      by_cases hroom : xs.length + k ≤ cap
      · have hzn : (Builtin.zeroCells z.cells k).toList.length = k * I.size := by rw [Array.length_toList, size_zeroCells, hzl]
        have hfit : xs.length * I.size + (Builtin.zeroCells z.cells k).toList.length ≤ cur.size := by rw [hzn, hs, ← Nat.add_mul]; exact Nat.mul_le_mul_right _ hroom
        have hone : ∀ v ∈ (Builtin.zeroCells z.cells k).toList, v.oneCell' = true := by
          intro v hv
          obtain ⟨q, hq⟩ := List.mem_iff_getElem?.1 hv
          have hql := (List.getElem?_eq_some_iff.1 hq).1
          rw [hzn] at hql
          have hF2 := hflat (fun _ => False) w
          have hdm := Nat.div_add_mod q I.size
          have hml : q % I.size < I.size := Nat.mod_lt _ hpos
          have hdl : q / I.size < k := Nat.div_lt_of_lt_mul (by rw [Nat.mul_comm]; exact hql)
          have hx1 : (List.replicate k zp)[q / I.size]? = some zp := by rw [List.getElem?_replicate, if_pos hdl]
          have hx2 := List.getElem?_eq_getElem (show q % I.size < zp.cells.length by omega)
          exact RR.oneCell P (hF2.rel _ _ _ _ v hx1 hx2 (by rw [Nat.mul_comm, hdm]; exact hq)) (hF2.cell _ _ _ _ hx1 hx2)
        have hrun := run_append_room_zeros (P := P) (w := w) t tn ty e I z kq kn ht htn hI hz b xs.length cap cur hh k hkp hpos (by omega) (by omega) hroom hfit hone
        have hEx := h.rowExt (w' := w.setRow b (cur.toList.take (xs.length * I.size) ++ (Builtin.zeroCells z.cells k).toList ++ cur.toList.drop (xs.length * I.size + (Builtin.zeroCells z.cells k).toList.length)).toArray) (g := b) hrid hσb hσ hσr (.inr ⟨id0, hk, hb0⟩)
          (by simp) (fun k hkl hne => setRow_other w b k _ hne)
        refine ⟨_, _, _, hrun, h.row (g := b) hrid hσb hσ hσr (.inr ⟨id0, hk, hb0⟩) hbb ?_ ?_ ?_ (by exact ⟨rfl, rfl, rfl⟩) d hd _ _ (.own _ _ _ _ (.inr ⟨b, cap, _, hrid, ?_, ?_, ?_, hm, setRow_heap w b cur _ e (0, 0) hh, ?_, ?_⟩))⟩
        · rw [size_setRow]; exact h.lt id0 b hb0
        · simp
        · intro k _ hne
          exact setRow_other w b k _ hne
        · simp [omNext]
        · simp
        · simpa using hroom
        · rw [hce]
          simp only [List.size_toArray, List.length_append, List.length_take, List.length_drop, Array.length_toList] at hfit ⊢
          omega
        · rw [hce]
          have hff := (hF.append (hflat _ w)).mono fun y c hr => RR.mono P hEx.im hr
          have hl := (hF.append (hflat (Im F.I0 F.base om w) w)).len
          have htk : List.take ((xs ++ List.replicate k zp).length * I.size) (cur.toList.take (xs.length * I.size) ++ (Builtin.zeroCells z.cells k).toList ++ cur.toList.drop (xs.length * I.size + (Builtin.zeroCells z.cells k).toList.length)).toArray.toList = cur.toList.take (xs.length * I.size) ++ (Builtin.zeroCells z.cells k).toList := by
            rw [← hl]
            exact List.take_left
          rw [htk]
          exact hff
      · refine grown (some ⟨b, 0, none⟩) cap (cur.toList.take (xs.length * I.size)) hF ?_ (by omega) rfl
        refine run_firstCells_some (P := P) w.drew I.size xs.length ⟨b, 0, none⟩ xs.length cap _ hF.len ?_
        intro j v hj
        rw [add_mk, Nat.zero_add]
        rw [cell_of_row w.drew b j cur e (0, 0) (by exact hh)]
        rw [List.getElem?_take] at hj
        split at hj
        · simpa using hj
        · cases hj

end

/-- Zeros behind a list. -/
def lAppZ {α : Type} (l : List α) (a : Int) (z : α) : Option (List α) := if 0 ≤ a ∧ l.length + a ≤ 30000000000 then some (l ++ List.replicate a.toNat z) else none

section
variable {P : Program} {tab : Tab}
variable {n : Nat} {N : St → Prop} {X : Nat → St → Prop} {R : St → Prop} {S T : St} {r k : Nat} {ops : Array Oper} {K : St → Prop} {l : List Oper}
variable {d : Nat} {op : Op} {ty : TypeId} {pos : String} {after : Array Edge} {g : Option (Nat × Bool)}
variable {α : Type} {f : α → PV}

theorem Wr.appZO {c : Call} {s x : Operand} {ts tn e : Nat} {i : TI} {a0 : Int} {kn kk : IntKind} {sid : Id} {z : α} {xs zs : List α} {s1 b1 s2 b2 : Nat} {z1 z2 : PV} (hz : lAppZ xs a0 z = some zs) (h : Wr P tab n r ops (k + 1) l K (((S.sub (twoSub sid .kill (.row r k) .frz)).setH (.row r k) none).set d (.sl e (.own (.row r k)) (zs.map f))))
    (hg : runs ops S g = some true := by rfl) (hc : c.callee = .builtin .append := by rfl) (ha : c.args.toList = [s, x] := by rfl) (hat : c.argTypes.toList = [ts, tn] := by rfl) (hts : tab ts = some ⟨.slice e, s1, b1, z1⟩ := by rfl) (htn : tab tn = some ⟨.int kn, s2, b2, z2⟩ := by rfl) (hi : tab e = some i := by rfl)
    (hs : opndT tab ts S s = .sl e (.own sid) (xs.map f) := by rfl) (hx : opnd S x = .int kk a0 := by rfl) (hsz : (decide (0 < i.size) && decide (i.bytes ≤ 4096)) = true := by rfl) (hfz : f z = i.zero := by rfl) (hid : sid.isRow = true := by rfl) :
    Wr P tab n r ops k (⟨some d, .call c, ty, pos, after, g⟩ :: l) K S := by
  unfold lAppZ at hz
  split at hz
  case isFalse => cases hz
  rename_i h0
  obtain rfl := Option.some.inj hz
  obtain ⟨hpos, hle⟩ := h0
  simp only [Bool.and_eq_true, decide_eq_true_eq] at hsz
  obtain ⟨callee, args, argTypes⟩ := c
  simp only at hc ha hat
  subst hc
  have ha' : args = #[s, x] := by simpa using congrArg List.toArray ha
  have hat' : argTypes = #[ts, tn] := by simpa using congrArg List.toArray hat
  subst ha'
  subst hat'
  refine .stepS (S' := ((S.sub (twoSub sid .kill (.row r k) .frz)).setH (.row r k) none).put (some d) (.sl e (.own (.row r k)) ((xs ++ List.replicate a0.toNat z).map f))) hg (fun hT F om a w hr hd => ?_) h
  obtain ⟨I, zv, hI, hIs, hIb, hIz, hzr⟩ := (hT e i hi).info
  have h1 := opndT_VR (tab := tab) hr ts s
  rw [hs] at h1
  have h2 := opnd_VR hr x
  rw [hx] at h2
  have hxv := h2.int_inv
  obtain ⟨t1, t2, t3, t4⟩ := twoSub_form (id0 := sid) (rid := .row r k) hid rfl
  have hzs : zv.cells.size = I.size := by rw [(hzr (fun _ => False) w).cellsLen, (hT e i hi).zlen, hIs]
  have hb : ((xs.map f).length + a0.toNat) * I.bytes ≤ 140737488355328 := by
    have := Nat.mul_le_mul (show (xs.map f).length + a0.toNat ≤ 30000000000 by simp; omega) (show I.bytes ≤ 4096 by rw [hIb]; exact hsz.2)
    omega
  obtain ⟨v', w', om', hrun, hrel⟩ := append_core_z (ty := ty) (kq := kk) (vs := a.eval s) (xs := xs.map f) (k := a0.toNat) (zp := i.zero) hr (rid := .row r k) rfl t1 t2 t3 (und_slice (hT ts _ hts)) (und_int (hT tn _ htn)) hI hIz hzs ((hT e i hi).zlen.trans hIs.symm) (by omega) (fun Im w => hzr Im w)
    (.inr ⟨sid, t4, h1.sl_own⟩) hb (by simp; omega) (some d) hd
  refine ⟨om', v', w', .inl ?_, ?_⟩
  · rw [Int.toNat_of_nonneg hpos] at hrun
    simp [execOp, resolve, invoke, builtin, hxv, hrun]
  · rw [List.map_append, List.map_replicate, hfz]
    exact hrel
end
end Go.Proofs.Ytacdknbakjbpiaa.Ab
