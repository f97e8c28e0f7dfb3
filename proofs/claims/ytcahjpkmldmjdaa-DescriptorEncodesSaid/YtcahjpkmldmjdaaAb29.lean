/-
  Abstract values for walks without memory: rules for calls; literals that are shared at once.
-/
import Derived.Test.YtcahjpkmldmjdaaAb28
namespace Go.Proofs.Ytcahjpkmldmjdaa.Ab
open Go

theorem PV.rens_noids (ρ : Id → Id) (cs : List PV) (h : PV.idss cs = []) : PV.rens ρ cs = cs := by
  have := PV.ren_noids ρ (.agg cs) (by simpa [PV.ids] using h)
  simpa [PV.ren] using this

theorem PV.subs_noids (σ : Id → Sub) (cs : List PV) (h : PV.idss cs = []) : PV.subs σ cs = cs := by
  have := PV.sub_noids σ (.agg cs) (by simpa [PV.ids] using h)
  simpa [PV.sub] using this

theorem PV.idss_nil {l : List PV} (h : PV.idss l = []) {y : PV} (hy : y ∈ l) : y.ids = [] := by
  obtain ⟨j, hj⟩ := List.mem_iff_getElem?.1 hy
  apply List.eq_nil_iff_forall_not_mem.2
  intro i hi
  have := PV.idss_mem hj hi
  rw [h] at this
  cases this

theorem PV.ids_ren (ρ : Id → Id) : ∀ (p : PV), (p.ren ρ).ids = p.ids.map ρ := by
  intro p
  refine PV.rec (motive_1 := fun p => (p.ren ρ).ids = p.ids.map ρ) (motive_2 := fun l => PV.idss (PV.rens ρ l) = (PV.idss l).map ρ) ?_ ?_ ?_ ?_ ?_ ?_ ?_ ?_ ?_ ?_ ?_ ?_ ?_ ?_ ?_ ?_ p
  · rfl
  · intros; rfl
  · intros; rfl
  · intros; rfl
  · rfl
  · rfl
  · rfl
  · intro e t xs _; cases t <;> rfl
  · intro e t xs i j _; cases t <;> rfl
  · intros; rfl
  · intros; rfl
  · intro cs ih; simp only [PV.ren, PV.ids, ih]
  · intro cs ih; simp only [PV.ren, PV.ids, ih]
  · intro f cs ih; simp only [PV.ren, PV.ids, ih]
  · rfl
  · intro c cs h1 h2; simp only [PV.rens, PV.idss, h1, h2, List.map_append]

section
variable {P : Program} {tab : Tab}
variable {n : Nat} {N : St → Prop} {X : Nat → St → Prop} {R : St → Prop} {S T : St} {r k : Nat} {ops : Array Oper} {K : St → Prop} {l : List Oper}
variable {d : Nat} {op : Op} {ty : TypeId} {pos : String} {after : Array Edge} {g : Option (Nat × Bool)}

/-- A call of plain values, with a plain result. -/
theorem Wr.cP {f : Nat} {args args' : List PV} {res : PV} (hC : Can P f args' H0 res H0) (h : Wr P tab n r ops (k + 1) l K (S.set d res)) (hg : runs ops S g = some true := by rfl) (he : ev tab r k ⟨some d, op, ty, pos, after, g⟩ S = .call f args := by rfl) (ha : PV.roDs args = args' := by rfl) (hi : PV.idss args' = [] := by rfl) (hr : res.ids = [] := by rfl) : Wr P tab n r ops k (⟨some d, op, ty, pos, after, g⟩ :: l) K S := by
  subst ha
  exact .callP0 hg he (Can.roD hC) (by rw [PV.idss_roDs] at hi; exact hi) hr h

/-- A call whose result is a row of its own: the caller's from now on. -/
theorem Wr.cO (rid : Id) {f : Nat} {args args' : List PV} {res u : PV} (hC : Can P f args' H0 res H0) (h : Wr P tab n r ops (k + 1) l K ((S.sub (frzKill [] rid)).set d u)) (hg : runs ops S g = some true := by rfl) (he : ev tab r k ⟨some d, op, ty, pos, after, g⟩ S = .call f args := by rfl) (ha : PV.roDs args = args' := by rfl) (hrid : rid.isRow = true := by rfl) (hi : PV.idss args' = [] := by rfl) (hr : res.ids.all (fun i => decide (i = .rrow 0)) = true := by rfl) (hu : (res.ren fun _ => rid) = u := by rfl) : Wr P tab n r ops k (⟨some d, op, ty, pos, after, g⟩ :: l) K S := by
  subst ha
  subst hu
  rw [PV.idss_roDs] at hi
  have e1 : PV.subs (frzAll []) args = args := PV.subs_noids _ _ hi
  exact .callO [] rid hg he e1 (Can.roD hC) rfl hrid hi hr h

theorem toPar_one (p : Id) : toPar [p] p = .par 0 := by simp [toPar]

theorem backName_par (p : Id) (rid bid : Option Id) : backName [p] rid bid (.par 0) = p := rfl

/-- What a call does that is handed one variable, seen as a whole. -/
theorem CallA.one {f : Nat} {args : List PV} {d : Option Nat} {K : St → Prop} (p : Id) (rid : Option Id) {cs cs' : List PV} {res : PV} (hC : Can P f (PV.rens (toPar [p]) args) (lookH [(.par 0, cs)]) res (lookH [(.par 0, cs')]))
    (hp : p.isRow = false) (hH : S.H p = some cs) (hids : ∀ i ∈ PV.idss args, i = p) (hcs : PV.idss cs = []) (hcs' : PV.idss cs' = []) (hrid : ∀ i, rid = some i → i.isRow = true) (hres : ∀ i ∈ res.ids, i = .rrow 0 ∧ rid.isSome = true)
    (hK : K ((⟨fun t => (S.env t).sub (callSub [] rid none), fun i => if i = p then some cs' else (S.H i).map (PV.subs (callSub [] rid none))⟩ : St).put d (res.ren (backName [p] rid none)))) : CallA P f args S d K := by
  have hf : ∀ y, PV.sub (frzAll []) y = y := fun y => by rw [frzAll_nil, PV.sub_keep]
  have hfs : ∀ y, PV.subs (frzAll []) y = y := fun y => by rw [frzAll_nil, PV.subs_keep]
  have e1 : (args.map fun y => (y.sub (frzAll [])).ren (toPar [p])) = PV.rens (toPar [p]) args := by
    rw [PV.rens_map]
    exact List.map_congr_left fun y _ => by rw [hf]
  have hmem : ∀ y ∈ args, ∀ i ∈ y.ids, i = p := by
    intro y hy i hi
    obtain ⟨j, hj⟩ := List.mem_iff_getElem?.1 hy
    exact hids i (PV.idss_mem hj hi)
  refine CallA.of_can [] [p] rid none (Hp := lookH [(.par 0, cs)]) (res := res) (Hq := lookH [(.par 0, cs')]) (by rw [e1]; exact hC) (by simp) (by simpa using hp) (by simp) hrid (by simp) ?_ ?_ ?_ ?_ ?_
  · intro y hy i hi
    rw [hf] at hi
    simp [hmem y hy i hi]
  · intro id ds hds
    unfold lookH at hds
    split at hds
    · rename_i e; subst e; cases hds
      refine ⟨0, p, cs, rfl, rfl, hH, ?_, ?_⟩
      · rw [hfs, PV.rens_noids _ _ hcs]
      · rw [hfs, hcs]; simp
    · cases hds
  · intro i hi
    obtain ⟨h1, h2⟩ := hres i hi
    exact .inr (.inl ⟨h1, h2⟩)
  · intro id ds hds i hi
    unfold lookH at hds
    split at hds
    · cases hds; rw [hcs'] at hi; cases hi
    · cases hds
  · unfold afterCall
    have e2 : afterH S [] [p] rid none (lookH [(.par 0, cs')]) = fun i => if i = p then some cs' else (S.H i).map (PV.subs (callSub [] rid none)) := by
      funext i
      unfold afterH
      rw [if_neg (by simp)]
      by_cases hip : i = p
      · subst hip
        rw [if_pos (by simp), if_pos rfl]
        have : lookH [(Id.par 0, cs')] (.par ([i].idxOf i)) = some cs' := by simp [lookH]
        rw [this, Option.map_some, PV.rens_noids _ _ hcs']
      · rw [if_neg (by simp [hip]), if_neg hip]
    rw [e2]
    exact hK

/-- A call that is handed a variable, with a plain result. -/
theorem Wr.cH (p : Id) {f : Nat} {args args' : List PV} {cs0 cs cs' : List PV} {res : PV} (hC : Can P f args' (lookH [(.par 0, cs)]) res (lookH [(.par 0, cs')])) (h : Wr P tab n r ops (k + 1) l K ((S.setH p (some cs')).set d res))
    (hg : runs ops S g = some true := by rfl) (he : ev tab r k ⟨some d, op, ty, pos, after, g⟩ S = .call f args := by rfl) (ha : PV.roDs (PV.rens (toPar [p]) args) = args' := by rfl) (hH : S.H p = some cs0 := by rfl) (hcs : cs0 = cs := by rfl) (hp : p.isRow = false := by rfl)
    (hids : ((PV.idss args).all fun i => decide (i = p)) = true := by rfl) (hi1 : PV.idss cs = [] := by rfl) (hi2 : PV.idss cs' = [] := by rfl) (hr : res.ids = [] := by rfl) : Wr P tab n r ops k (⟨some d, op, ty, pos, after, g⟩ :: l) K S := by
  subst ha
  subst hcs
  refine .call hg he (CallA.one p none (Can.roD hC) hp hH (by simpa using hids) hi1 hi2 (by simp) (fun i hi => by rw [hr] at hi; cases hi) ?_)
  have e1 : callSub [] none none = fun _ => .keep := by funext i; simp [callSub]
  rw [e1, PV.ren_noids _ _ hr]
  have e2 : (⟨fun t => (S.env t).sub (fun _ => .keep), fun i => if i = p then some cs' else (S.H i).map (PV.subs (fun _ => .keep))⟩ : St) = S.setH p (some cs') := by
    cases S with
    | mk e hh =>
      simp only [St.setH, St.mk.injEq]
      refine ⟨funext fun t => PV.sub_keep _, funext fun i => ?_⟩
      split
      · rfl
      · cases hh i <;> simp [PV.subs_keep]
  rw [e2]
  exact h

/-- A call that is handed a variable and makes a row. -/
theorem Wr.cHO (p rid : Id) {f : Nat} {args args' : List PV} {cs0 cs cs' : List PV} {res u : PV} (hC : Can P f args' (lookH [(.par 0, cs)]) res (lookH [(.par 0, cs')])) (h : Wr P tab n r ops (k + 1) l K (((S.sub (frzKill [] rid)).setH p (some cs')).set d u))
    (hg : runs ops S g = some true := by rfl) (he : ev tab r k ⟨some d, op, ty, pos, after, g⟩ S = .call f args := by rfl) (ha : PV.roDs (PV.rens (toPar [p]) args) = args' := by rfl) (hH : S.H p = some cs0 := by rfl) (hcs : cs0 = cs := by rfl) (hp : p.isRow = false := by rfl) (hrid : rid.isRow = true := by rfl)
    (hids : ((PV.idss args).all fun i => decide (i = p)) = true := by rfl) (hi1 : PV.idss cs = [] := by rfl) (hi2 : PV.idss cs' = [] := by rfl) (hr : res.ids.all (fun i => decide (i = .rrow 0)) = true := by rfl) (hu : res.ren (backName [p] (some rid) none) = u := by rfl) : Wr P tab n r ops k (⟨some d, op, ty, pos, after, g⟩ :: l) K S := by
  subst ha
  subst hcs
  subst hu
  refine .call hg he (CallA.one p (some rid) (Can.roD hC) hp hH (by simpa using hids) hi1 hi2 (by simpa using hrid) (fun i hi => ⟨by simpa using List.all_eq_true.1 hr i hi, rfl⟩) ?_)
  have e1 : callSub [] (some rid) none = frzKill [] rid := by
    funext i
    unfold callSub frzKill
    by_cases hh : i = rid
    · subst hh; simp
    · have h' : ¬ (some rid = some i) := fun e => hh (by cases e; rfl)
      rw [if_neg h', if_neg hh, if_neg (by simp)]
  rw [e1]
  exact h

/-- A call that makes a variable. -/
theorem Wr.cB (bid : Id) {f : Nat} {args args' : List PV} {cs' : List PV} (hC : Can P f args' H0 (.ptr (.ret 0) 0) (lookH [(.ret 0, cs')])) (h : Wr P tab n r ops (k + 1) l K (((S.sub (oneSub bid .kill)).setH bid (some cs')).set d (.ptr bid 0)))
    (hg : runs ops S g = some true := by rfl) (he : ev tab r k ⟨some d, op, ty, pos, after, g⟩ S = .call f args := by rfl) (ha : PV.roDs args = args' := by rfl) (hi : PV.idss args' = [] := by rfl) (hi2 : PV.idss cs' = [] := by rfl) (hb : (!bid.isRow && !bid.isPar) = true := by rfl) : Wr P tab n r ops k (⟨some d, op, ty, pos, after, g⟩ :: l) K S := by
  subst ha
  simp only [Bool.and_eq_true, Bool.not_eq_true'] at hb
  rw [PV.idss_roDs] at hi
  have hnp : ∀ k, bid ≠ .par k := fun k e => by have := hb.2; rw [e] at this; cases this
  have e0 : ∀ y ∈ args, y.sub (frzAll []) = y := fun y _ => by rw [frzAll_nil, PV.sub_keep]
  have e1 : (args.map fun y => (y.sub (frzAll [])).ren (toPar [])) = args := by
    conv => rhs; rw [← List.map_id args]
    exact List.map_congr_left fun y hy => by rw [e0 y hy, PV.ren_noids _ _ (PV.idss_nil hi hy)]; rfl
  refine .call hg he (CallA.of_can [] [] none (some bid) (Hp := H0) (res := .ptr (.ret 0) 0) (Hq := lookH [(.ret 0, cs')]) (by rw [e1]; exact Can.roD hC) (by simp) (by simp) List.nodup_nil (by simp) ?_ ?_ (fun id cs h => by cases h) ?_ ?_ ?_)
  · rintro i rfl'
    cases rfl'
    exact ⟨hb.1, by simp, hnp⟩
  · intro y hy i hi'
    rw [e0 y hy, PV.idss_nil hi hy] at hi'
    cases hi'
  · intro i hi'
    simp [PV.ids] at hi'
    exact .inr (.inr ⟨hi', rfl⟩)
  · intro id ds hds i hi'
    unfold lookH at hds
    split at hds
    · cases hds; rw [hi2] at hi'; cases hi'
    · cases hds
  · unfold afterCall
    have e2 : callSub [] none (some bid) = oneSub bid .kill := by
      funext i
      unfold callSub oneSub
      rw [if_neg (by simp)]
      by_cases hh : i = bid
      · subst hh; simp
      · have h' : ¬ (some bid = some i) := fun e => hh (by cases e; rfl)
        rw [if_neg h', if_neg (by simp), if_neg hh]
    have e3 : afterH S [] [] none (some bid) (lookH [(.ret 0, cs')]) = ((S.sub (oneSub bid .kill)).setH bid (some cs')).H := by
      funext i
      unfold afterH
      by_cases hh : i = bid
      · subst hh
        rw [if_pos rfl]
        simp [lookH, St.setH, PV.rens_noids _ _ hi2]
      · have h' : ¬ (some bid = some i) := fun e => hh (by cases e; rfl)
        rw [if_neg h', if_neg (by simp), e2]
        simp [St.setH, St.sub, hh]
    rw [e2, e3]
    exact h

/-- A slice of some elements, shared at once. -/
theorem litR_sound (hT : TabOK P tab) {F : Fr} {om : Id → Option Nat} {a : Act} {w : World} (h : SRel P F om a w S) {o : Oper} (hd : ∀ t, o.dst = some t → t < F.n) {t m e : Nat} {parts : Array (Nat × Operand)} (ho : o.op = .buildSlice t m parts) {i : TI} {s1 b1 : Nat} {z1 : PV}
    (hts : tab t = some ⟨.slice e, s1, b1, z1⟩) (hte : tab e = some i) {ys : List PV} (hp : (parts.toList.map fun p => (opndT tab e S p.2).roD) = ys) (h0 : parts.toList.map (·.1) = List.range m) (h1 : m * i.size ≤ 16777216) (h2 : 0 < i.size)
    (h3 : (ys.all fun y => decide (y.cells.length = i.size) && y.isPure) = true) : StepOK P F o a w (S.put o.dst (.sl e .ro ys)) := by
  subst hp
  obtain ⟨I, z, hI, hIs, hIb, hIz, hzr⟩ := (hT e i hte).info
  have hce : P.cellsOf e = i.size := (hT e i hte).cellsOf
  have hlen : parts.size = m := by
    have := congrArg List.length h0
    simpa using this
  have hys : ∀ p ∈ parts.toList, (opndT tab e S p.2).roD.cells.length = i.size ∧ (opndT tab e S p.2).roD.isPure = true := fun p hp => by
    have := List.all_eq_true.1 h3 _ (List.mem_map.2 ⟨p, hp, rfl⟩)
    simpa using this
  have hR0 : ∀ p ∈ parts.toList, RR P (Im F.I0 F.base om w) w (opndT tab e S p.2).roD (a.eval p.2) := fun p hp => (opndT_VR h e p.2).roD.pureRR (hys p hp).2
  have hvs : ∀ v ∈ parts.toList.map (fun p => a.eval p.2), v.cells.size = I.size := by
    intro v hv
    obtain ⟨p, hp, rfl⟩ := List.mem_map.1 hv
    rw [(hR0 p hp).cellsLen, (hys p hp).1, hIs]
  have hparts : (parts.map fun (i, x) => (i, a.eval x)).toList = ((parts.toList.map (fun p => a.eval p.2)).zipIdx 0).map fun x => (x.2, x.1) := by
    apply List.ext_getElem?
    intro j
    by_cases hj : j < parts.toList.length
    · have h5 : (parts.toList.map (·.1))[j]? = some j := by
        rw [h0, List.getElem?_range (by rw [← hlen]; simpa using hj)]
      rw [List.getElem?_map, List.getElem?_eq_getElem hj] at h5
      simp only [Option.map_some, Option.some.injEq] at h5
      simp only [Array.toList_map, List.getElem?_map, List.getElem?_eq_getElem hj, Option.map_some, List.getElem?_zipIdx, Nat.zero_add]
      rw [h5]
    · rw [List.getElem?_eq_none (by simp at hj ⊢; omega), List.getElem?_eq_none (by simp at hj ⊢; omega)]
  have hF0 : Flat (RR P (Im F.I0 F.base om w) w) (P.cellsOf e) (parts.toList.map fun p => (opndT tab e S p.2).roD) ((parts.toList.map (fun p => a.eval p.2)).flatMap fun v => v.cells.toList) := by
    rw [hce]
    refine flat_flatMap _ _ (by simp) ?_ (fun v hv => (hvs v hv).trans hIs) ?_
    · intro x hx
      obtain ⟨p, hp, rfl⟩ := List.mem_map.1 hx
      exact (hys p hp).1
    · intro j x v hx hv
      rw [List.getElem?_map] at hx hv
      cases hp : parts.toList[j]? with
      | none => simp [hp] at hv
      | some p =>
        simp only [hp, Option.map_some, Option.some.injEq] at hx hv
        subst hx
        subst hv
        exact (hR0 p (List.mem_of_getElem? hp)).cellsRel
  have hrun : (Instr.buildSlice t m (parts.map fun (i, x) => (i, a.eval x))).run P w = .ok (.slice (some ⟨w.heap.size, 0, none⟩) m m) (w.alloc (.cells ((parts.toList.map (fun p => a.eval p.2)).flatMap fun v => v.cells.toList).toArray e)) := by
    by_cases hn : m = 0
    · subst hn
      have hp0 : parts = #[] := Array.size_eq_zero_iff.1 hlen
      subst hp0
      simp [Instr.buildSlice, run_underlying (und_slice (hT t _ hts)), sizeOf, typeInfo, hI, Instr.fill, newRow, Array.range_zero']
    · refine run_buildSlice (P := P) w t e m _ _ I z (und_slice (hT t _ hts)) hI hIz (by rw [hIs]; omega) (by rw [hIs]; exact Nat.mul_ne_zero hn (by omega)) ?_
      rw [hparts]
      exact Great.fill_whole (by omega) _ _ hvs (by simp [hlen])
  generalize hfs : ((parts.toList.map (fun p => a.eval p.2)).flatMap fun v => v.cells.toList) = fs at hF0 hrun
  have hold : ∀ b, b < w.heap.size → (w.alloc (.cells fs.toArray e)).heap[b]? = w.heap[b]? := fun b hb => heap_alloc_old w _ hb
  have hsz : w.heap.size ≤ (w.alloc (.cells fs.toArray e)).heap.size := by show _ ≤ (w.heap.push _).size; simp
  have him : ∀ b, Im F.I0 F.base om w b → Im F.I0 F.base om (w.alloc (.cells fs.toArray e)) b ∧ (w.alloc (.cells fs.toArray e)).heap[b]? = w.heap[b]? := by
    intro b hb
    refine ⟨⟨?_, hb.2⟩, hold b (h.imLt hb)⟩
    rcases hb.1 with h1 | h1
    · exact .inl h1
    · exact .inr ⟨h1.1, Nat.lt_of_lt_of_le h1.2 hsz⟩
  have hl1 : (parts.toList.map fun p => (opndT tab e S p.2).roD).length = m := by simp [hlen]
  have hRR : RR P (Im F.I0 F.base om (w.alloc (.cells fs.toArray e))) (w.alloc (.cells fs.toArray e)) (.sl e .ro (parts.toList.map fun p => (opndT tab e S p.2).roD)) (.slice (some ⟨w.heap.size, 0, none⟩) (parts.toList.map fun p => (opndT tab e S p.2).roD).length m) := by
    refine RR.sl_mk P (.inl rfl) (by rw [hl1]; exact Nat.le_refl _) (by simp only [maxLen]; have := Nat.le_mul_of_pos_right m h2; omega) (fun _ => ⟨rfl, ?_, ?_⟩) (fun h => by cases h) (hF0.mono fun y c hr => RR.mono P him hr) ?_
    · refine .inr ⟨h.base_le _ (Nat.le_refl _), ?_⟩
      show _ < (w.heap.push _).size; simp
    · intro id hid
      have := h.lt id _ hid
      omega
    · intro k c hk
      rw [Nat.zero_add, cell_of_row _ w.heap.size k fs.toArray e (0, 0) (heap_alloc_new w _)]
      simpa using hk
  rw [hl1] at hRR
  refine ⟨om, _, _, .inl ?_, h.grow hsz hold (by exact ⟨rfl, rfl, rfl⟩) o.dst hd _ _ (.pure _ _ hRR)⟩
  simp [execOp, ho]
  rw [hrun]
  simp

theorem Wr.stepS {o : Oper} {S' : St} (hg : runs ops S o.guard = some true) (hstep : TabOK P tab → ∀ (F : Fr) (om : Id → Option Nat) (a : Act) (w : World), SRel P F om a w S → (∀ t, o.dst = some t → t < F.n) → StepOK P F o a w S') (h : Wr P tab n r ops (k + 1) l K S') : Wr P tab n r ops k (o :: l) K S := by
  refine ⟨fun hT hok F om a w hn hr => ?_⟩
  subst hn
  simp only [opsOK, List.all_cons, Bool.and_eq_true] at hok
  have hd := opOK_dst hok.1
  unfold wpList
  rw [if_pos (runs_wanted hr hg)]
  exact .inl (step_upon (hstep hT F om a w hr hd) fun om' a' w' hr' => Wr.run h hT hok.2 F om' a' w' rfl hr')

variable {α : Type} {f : α → PV}

theorem Wr.litR {t m : Nat} {parts : Array (Nat × Operand)} (xs : List α) {e : Nat} {i : TI} {s1 b1 : Nat} {z1 : PV} (h : Wr P tab n r ops (k + 1) l K (S.set d (.sl e .ro (xs.map f))))
    (hg : runs ops S g = some true := by rfl) (ht : tab t = some ⟨.slice e, s1, b1, z1⟩ := by rfl) (hi : tab e = some i := by rfl) (hp : (parts.toList.map fun p => (opndT tab e S p.2).roD) = xs.map f := by rfl) (hr : parts.toList.map (·.1) = List.range m := by rfl)
    (hsz : (decide (m * i.size ≤ 16777216) && decide (0 < i.size)) = true := by rfl) (hpu : ((xs.map f).all fun y => decide (y.cells.length = i.size) && y.isPure) = true := by rfl) :
    Wr P tab n r ops k (⟨some d, .buildSlice t m parts, ty, pos, after, g⟩ :: l) K S := by
  simp only [Bool.and_eq_true, decide_eq_true_eq] at hsz
  exact .stepS hg (fun hT F om a w hr' hd => litR_sound hT hr' hd rfl ht hi hp hr hsz.1 hsz.2 hpu) h

end
end Go.Proofs.Ytcahjpkmldmjdaa.Ab
