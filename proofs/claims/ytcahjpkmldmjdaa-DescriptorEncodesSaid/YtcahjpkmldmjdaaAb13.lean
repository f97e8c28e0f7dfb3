/-
  Abstract values for walks without memory: the operations are sound, ninth part: variables, records, and all of them together.
-/
import Derived.Test.YtcahjpkmldmjdaaAb12
import Derived.WalkSpells
import Derived.Laws.Tables
namespace Go.Proofs.Ytcahjpkmldmjdaa.Ab
open Go

section
variable {P : Program} {tab : Tab} {F : Fr} {om : Id → Option Nat} {a : Act} {w : World} {S : St}

/-! ### a new variable -/

theorem omBox_some {r k g : Nat} {i : Id} {b : Nat} (h : (fun i => if i = Id.loc r k then some g else om i) i = some b) : (i = .loc r k ∧ g = b) ∨ (i ≠ .loc r k ∧ om i = some b) := by
  simp only at h
  split at h
  · exact .inl ⟨by assumption, by simpa using h⟩
  · exact .inr ⟨by assumption, h⟩

theorem boxExt (h : SRel P F om a w S) (r k : Nat) (o : Obj) : Ext P F.I0 F.base om w (fun i => if i = Id.loc r k then some w.heap.size else om i) (w.alloc o) (oneSub (.loc r k) .kill) := by
  refine ⟨?_, ?_, ?_, ?_, ?_⟩
  · intro b hb
    refine ⟨⟨?_, ?_⟩, heap_alloc_old w o (h.imLt hb)⟩
    · rcases hb.1 with h1 | h1
      · exact .inl h1
      · refine .inr ⟨h1.1, Nat.lt_of_lt_of_le h1.2 ?_⟩
        show w.heap.size ≤ (w.heap.push _).size
        simp
    · intro i hi
      rcases omBox_some hi with ⟨_, hg⟩ | ⟨_, hi⟩
      · have := h.imLt hb; omega
      · exact hb.2 i hi
  · intro id _ hk b hb
    have hne : id ≠ .loc r k := fun e => hk (by simp [oneSub, e])
    simp only [if_neg hne]
    exact hb
  · intro id hr _ b hb
    have hne : id ≠ .loc r k := fun e => by rw [e] at hr; cases hr
    simp only [if_neg hne]
    exact ⟨hb, heap_alloc_old w o (h.lt id b hb)⟩
  · intro id hr hf
    unfold oneSub at hf
    split at hf <;> cases hf
  · intro id i x hr hf
    unfold oneSub at hf
    split at hf <;> cases hf

theorem newBox_core (h : SRel P F om a w S) (r k : Nat) {T : TypeId} {cur : Array Value} {cs : List PV} (hn : cur.size = cs.length)
    (hrel : ∀ (j : Nat) (y : PV) (c : Value), cs[j]? = some y → cur[j]? = some c → y.isCell = true ∧ c.oneCell' = true ∧
      VR P F.I0 F.base (fun i => if i = Id.loc r k then some w.heap.size else om i) (w.alloc (.cells cur T)) y c) (d : Option Nat) (hd : ∀ t, d = some t → t < F.n) :
    SRel P F (fun i => if i = Id.loc r k then some w.heap.size else om i) (a.put d (.pointer (some ⟨w.heap.size, 0, none⟩))) (w.alloc (.cells cur T))
      (((S.sub (oneSub (.loc r k) .kill)).setH (.loc r k) (some cs)).put d (.ptr (.loc r k) 0)) := by
  have hsz : w.heap.size ≤ (w.alloc (.cells cur T)).heap.size := by
    show w.heap.size ≤ (w.heap.push _).size
    simp
  refine h.step (boxExt h r k _) (.loc r k) (some cs) ?_ ?_ ?_ ?_ hsz ?_ ⟨rfl, rfl, rfl⟩ ?_ ?_ d hd _ _ (.ptr _ _ w.heap.size rfl (by simp))
  · intro i j b hi hj
    rcases omBox_some hi with ⟨h1, h2⟩ | ⟨h1, h2⟩ <;> rcases omBox_some hj with ⟨h3, h4⟩ | ⟨h3, h4⟩
    · rw [h1, h3]
    · have := h.lt j b h4; omega
    · have := h.lt i b h2; omega
    · exact h.inj i j b h2 h4
  · intro i b hi
    rcases omBox_some hi with ⟨_, h2⟩ | ⟨_, h2⟩
    · show b < (w.heap.push _).size
      simp; omega
    · exact Nat.lt_of_lt_of_le (h.lt i b h2) hsz
  · intro i b hi
    rcases omBox_some hi with ⟨_, h2⟩ | ⟨_, h2⟩
    · left; rw [← h2]; exact h.base_le _ (Nat.le_refl _)
    · exact h.loc i b h2
  · intro k'
    simp
  · intro b hb _
    exact heap_alloc_old w _ ((h.baseLt hb))
  · intro i hne _ b hb
    simp only [if_neg hne]
    exact ⟨hb, heap_alloc_old w _ (h.lt i b hb)⟩
  · intro cs' hcs
    cases hcs
    exact ⟨rfl, w.heap.size, cur, T, by simp, heap_alloc_new w _, hn, hrel⟩

theorem alloc_sound (hT : TabOK P tab) (h : SRel P F om a w S) {o : Oper} (hd : ∀ t, o.dst = some t → t < F.n) {r k e : Nat} (ho : o.op = .alloc e) {i : TI} (hi : tab e = some i) :
    StepOK P F o a w (((S.sub (oneSub (.loc r k) .kill)).setH (.loc r k) (some i.zero.cells)).put o.dst (.ptr (.loc r k) 0)) := by
  obtain ⟨I, z, hI, hIs, hIb, hIz, hzr⟩ := (hT e i hi).info
  refine ⟨_, _, _, .inl ?_, newBox_core (T := e) (cur := z.cells) h r k ?_ ?_ o.dst hd⟩
  · simp [execOp, ho, Instr.alloc, zeroValue, typeInfo, hI, hIz, newVar, newRow]
  · exact (hzr (fun _ => False) w).cellsLen
  · intro j y c hy hc
    have hr := (hzr (Im F.I0 F.base (fun i => if i = Id.loc r k then some w.heap.size else om i) (w.alloc (.cells z.cells e))) (w.alloc (.cells z.cells e))).cellsRel
    have h1 := hr.1 j y hy
    have h2 := hr.2 j y c hy hc
    exact ⟨h1, h2.oneCell P h1, .pure _ _ h2⟩

theorem box_sound (h : SRel P F om a w S) {o : Oper} (hd : ∀ t, o.dst = some t → t < F.n) {r k e : Nat} {x : Operand} (ho : o.op = .box e x) (hl : (opndT tab e S x).live = true) :
    StepOK P F o a w (((S.sub (oneSub (.loc r k) .kill)).setH (.loc r k) (some ((opndT tab e S x).cells.map (PV.sub (oneSub (.loc r k) .kill))))).put o.dst (.ptr (.loc r k) 0)) := by
  have hx := opndT_VR (tab := tab) h e x
  obtain ⟨h1, h2⟩ := hx.cellsAll hl
  refine ⟨_, _, _, .inl ?_, newBox_core (T := e) (cur := (a.eval x).cells) h r k ?_ ?_ o.dst hd⟩
  · simp [execOp, ho, Instr.box, newVar, newRow]
  · simpa using h1
  · intro j y c hy hc
    rw [List.getElem?_map] at hy
    cases hz : (opndT tab e S x).cells[j]? with
    | none => simp [hz] at hy
    | some z =>
      simp [hz] at hy
      subst hy
      obtain ⟨g1, g2, g3⟩ := h2 j z c hz hc
      exact ⟨PV.isCell_sub g1, g2, VR.sub (boxExt h r k _) g3⟩

/-! ### a store -/

theorem VR.pureRR {I0 : Nat → Prop} {base : Nat → Prop} {y : PV} {v : Value} (h : VR P I0 base om w y v) (hp : y.isPure = true) : RR P (Im I0 base om w) w y v := by
  have one : ∀ (y : PV) (v : Value), VR P I0 base om w y v → y.isPure1 = true → RR P (Im I0 base om w) w y v := by
    intro y v h hp
    cases y with
    | sl e t xs =>
      cases t with
      | own id => simp [PV.isPure1] at hp
      | ro => exact h.sl_pure (fun id h => by cases h)
      | full => exact h.sl_pure (fun id h => by cases h)
    | int k n => rw [h.int_inv]; exact .int _ _
    | bool b => rw [h.bool_inv]; exact .bool _
    | str s => rw [h.str_inv]; exact .str _
    | nilp => cases h with | pure _ _ h => exact h
    | nilf => cases h with | pure _ _ h => exact h
    | nili => cases h with | pure _ _ h => exact h
    | _ => simp [PV.isPure1] at hp
  cases y with
  | agg cs =>
    obtain ⟨vs, rfl, hn, hy, h1, hrel⟩ := h.agg_inv
    exact .agg _ _ hn hy (fun j y c hj hc => one y c (hrel j y c hj hc) (List.all_eq_true.1 hp y (List.mem_of_getElem? hj)))
  | _ => exact one _ v h hp


theorem put_get {cs new : List PV} {off j : Nat} (hle : off + new.length ≤ cs.length) : (putCells cs off new)[j]? = if off ≤ j ∧ j < off + new.length then new[j - off]? else cs[j]? := by
  unfold putCells
  have h1 : (cs.take off).length = off := by simp; omega
  rw [List.append_assoc]
  by_cases hj : j < off
  · rw [List.getElem?_append_left (by omega), List.getElem?_take, if_pos hj, if_neg (by omega)]
  · rw [List.getElem?_append_right (by omega), h1]
    by_cases hj2 : j < off + new.length
    · rw [List.getElem?_append_left (by omega), if_pos (by omega)]
    · rw [List.getElem?_append_right (by omega), if_neg (by omega), List.getElem?_drop]
      congr 1
      omega

theorem put_len {cs new : List PV} {off : Nat} (hle : off + new.length ≤ cs.length) : (putCells cs off new).length = cs.length := by
  unfold putCells
  simp
  omega

theorem arr_get {cur : Array Value} {new : List Value} {off j : Nat} (hle : off + new.length ≤ cur.size) :
    (cur.toList.take off ++ new ++ cur.toList.drop (off + new.length)).toArray[j]? = if off ≤ j ∧ j < off + new.length then new[j - off]? else cur[j]? := by
  have h1 : (cur.toList.take off).length = off := by simp; omega
  rw [List.getElem?_toArray, List.append_assoc]
  by_cases hj : j < off
  · rw [List.getElem?_append_left (by omega), List.getElem?_take, if_pos hj, if_neg (by omega)]
    simp
  · rw [List.getElem?_append_right (by omega), h1]
    by_cases hj2 : j < off + new.length
    · rw [List.getElem?_append_left (by omega), if_pos (by omega)]
    · rw [List.getElem?_append_right (by omega), if_neg (by omega), List.getElem?_drop]
      simp only [Array.getElem?_toList]
      congr 1
      omega

theorem arr_len {cur : Array Value} {new : List Value} {off : Nat} (hle : off + new.length ≤ cur.size) : (cur.toList.take off ++ new ++ cur.toList.drop (off + new.length)).toArray.size = cur.size := by
  simp
  omega

theorem run_storeVar' {t : Nat} {i : TI} (hi : TIOk P t i) {b off : Nat} {cur : Array Value} {T : TypeId} {v : Value} (hh : w.heap[b]? = some (.cells cur T (0, 0))) (hs : v.cells.size = i.size) (hle : off + i.size ≤ cur.size)
    (h1 : ∀ (j : Nat) (c : Value), v.cells[j]? = some c → c.oneCell' = true) :
    (storeVar t ⟨b, off, none⟩ v).run P w = .ok () (w.setRow b (cur.toList.take off ++ v.cells.toList ++ cur.toList.drop (off + v.cells.toList.length)).toArray) := by
  have hst := run_storeCells_at P b off T v.cells.toList 0 cur w hh (by simp [hs]; omega) (fun c hc => by
    obtain ⟨j, hj⟩ := List.mem_iff_getElem?.1 hc
    exact h1 j c (by simpa using hj))
  simp only [Nat.add_zero] at hst
  simp [storeVar, run_sizeOf hi, hs, hst]

theorem store_sound (hT : TabOK P tab) (h : SRel P F om a w S) {o : Oper} (hd : ∀ t, o.dst = some t → t < F.n) {t : Nat} {x y : Operand} (ho : o.op = .store t x y) {c : Prop} {f : Fx}
    (he : evStore tab t S (opnd S x) (opndT tab t S y) = .go c f) (hc : c) : StepOK P F o a w (ap o.dst S f) := by
  have hx := opnd_VR h x
  have hy := opndT_VR (tab := tab) h t y
  unfold evStore at he
  split at he
  · rename_i i id off hti hop
    split at he
    case h_2 => cases he
    rename_i cs hcs
    obtain ⟨rfl, rfl⟩ := Ev.go.inj he
    obtain ⟨h1, h2, h3⟩ := hc
    have hi := hT t i hti
    rw [hop] at hx
    obtain ⟨b, hr, hb, hv⟩ := hx.ptr_inv
    obtain ⟨_, b', cur, T, hb', hh, hn, hrel⟩ := h.box id cs hcs
    rw [hb] at hb'
    cases hb'
    obtain ⟨g1, g2⟩ := hy.cellsAll h3
    have hrun := run_storeVar' (P := P) hi (v := a.eval y) hh (by rw [g1]; exact h1) (off := off) (by omega) (fun j c hc => by
      have hlt := (Array.getElem?_eq_some_iff.1 hc).1
      exact (g2 j _ c (List.getElem?_eq_getElem (by omega)) hc).2.1)
    have hle : off + (a.eval y).cells.toList.length ≤ cur.size := by simp [g1, h1]; omega
    have hle2 : off + (opndT tab t S y).cells.length ≤ cs.length := by omega
    have hother : ∀ b', b' ≠ b → (w.setRow b (cur.toList.take off ++ (a.eval y).cells.toList ++ cur.toList.drop (off + (a.eval y).cells.toList.length)).toArray).heap[b']? = w.heap[b']? := fun b' hne => setRow_other w b b' _ hne
    have hbk : ∀ b', ¬ F.base b' → (∀ k, F.om0 k ≠ some b') → b' ≠ b := by
      intro b' hlt hno e
      subst e
      rcases h.loc id b' hb with h5 | ⟨k, rfl⟩
      · exact hlt h5
      · exact hno k ((h.par k).symm.trans hb)
    have E : Ext P F.I0 F.base om w om (w.setRow b (cur.toList.take off ++ (a.eval y).cells.toList ++ cur.toList.drop (off + (a.eval y).cells.toList.length)).toArray) (fun _ => .keep) := by
      refine ⟨fun b' hb' => ?_, fun id _ _ b hb => hb, fun id' hr' _ b' hb' => ⟨hb', ?_⟩, fun id _ h => by simp at h, fun id i x _ h => by simp at h⟩
      · have hne : b' ≠ b := fun e => hb'.2 id (by rw [e]; exact hb)
        refine ⟨⟨?_, hb'.2⟩, hother b' hne⟩
        rcases hb'.1 with h5 | h5
        · exact .inl h5
        · exact .inr ⟨h5.1, by simpa using h5.2⟩
      · refine hother b' fun e => ?_
        subst e
        have := h.inj id' id b' hb' hb
        subst this
        rw [hr] at hr'; cases hr'
    have hfin := h.step E id (some (putCells cs off (opndT tab t S y).cells)) h.inj (fun i b hb => by simpa using h.lt i b hb) h.loc (fun _ => rfl) (by simp) (fun b' hlt hno => hother b' (hbk b' hlt hno)) ⟨rfl, rfl, rfl⟩
      (fun i hne _ b' hb' => ⟨hb', hother b' fun e => hne (by subst e; exact h.inj i id b' hb' hb)⟩) ?_ o.dst hd .dead undef (.dead _)
    · rw [St.sub_keep] at hfin
      refine ⟨_, _, _, .inr ⟨?_, rfl⟩, hfin⟩
      simp [execOp, ho, Instr.storeAt, Instr.sureAddr, hv, hrun]
    · intro cs' hcs'
      cases hcs'
      refine ⟨hr, b, _, T, hb, setRow_heap w b cur _ T (0, 0) hh, ?_, ?_⟩
      · rw [arr_len hle, put_len hle2, hn]
      · intro j z c hz hcz
        rw [put_get hle2] at hz
        rw [arr_get hle] at hcz
        have hl2 : (a.eval y).cells.toList.length = (opndT tab t S y).cells.length := by simp [g1]
        rw [hl2] at hcz
        by_cases hin : off ≤ j ∧ j < off + (opndT tab t S y).cells.length
        · rw [if_pos hin] at hz hcz
          obtain ⟨k1, k2, k3⟩ := g2 (j - off) z c hz (by simpa using hcz)
          have := VR.sub E k3
          rw [PV.sub_keep] at this
          exact ⟨k1, k2, this⟩
        · rw [if_neg hin] at hz hcz
          obtain ⟨k1, k2, k3⟩ := hrel j z c hz hcz
          have := VR.sub E k3
          rw [PV.sub_keep] at this
          exact ⟨k1, k2, this⟩
  · rename_i i e id xs q j hti hop
    split at he
    case h_2 => cases he
    rename_i z hz
    obtain ⟨rfl, rfl⟩ := Ev.go.inj he
    obtain ⟨h1, h2, h3, hrow, hpos⟩ := hc
    have hi := hT t i hti
    rw [hop] at hx
    obtain ⟨b, o', fs, hv, hq, hF, hl, hown⟩ := hx.ep_inv
    obtain ⟨cap, cur, rfl, _, hb, hh, hcl, hcs, rfl⟩ := hown id rfl
    rw [Nat.zero_add] at hv
    have hlive : (opndT tab t S y).live = true := by
      cases hyy : opndT tab t S y <;> rw [hyy] at h3 <;> first | rfl | (simp [PV.isPure, PV.isPure1] at h3)
    obtain ⟨g1, g2⟩ := hy.cellsAll hlive
    have hyR := hy.pureRR h3
    have hzl := hF.sizes q z hz
    have hql := (List.getElem?_eq_some_iff.1 hz).1
    have m1 : (q + 1) * P.cellsOf e ≤ cap * P.cellsOf e := Nat.mul_le_mul_right _ (by omega)
    have m2 : (q + 1) * P.cellsOf e = q * P.cellsOf e + P.cellsOf e := by rw [Nat.add_mul, Nat.one_mul]
    have hfit : q * P.cellsOf e + j + i.size ≤ cur.size := by omega
    have hrun := run_storeVar' (P := P) hi (v := a.eval y) hh (by rw [g1]; exact h1) (off := q * P.cellsOf e + j) hfit (fun j c hc => by
      have hlt := (Array.getElem?_eq_some_iff.1 hc).1
      exact (g2 j _ c (List.getElem?_eq_getElem (by omega)) hc).2.1)
    have hle : q * P.cellsOf e + j + (a.eval y).cells.toList.length ≤ cur.size := by simp [g1, h1]; omega
    have hl2 : (a.eval y).cells.toList.length = (opndT tab t S y).cells.length := by simp [g1]
    have hother : ∀ b', b' ≠ b → (w.setRow b (cur.toList.take (q * P.cellsOf e + j) ++ (a.eval y).cells.toList ++ cur.toList.drop (q * P.cellsOf e + j + (a.eval y).cells.toList.length)).toArray).heap[b']? = w.heap[b']? := fun b' hne => setRow_other w b b' _ hne
    have hbb : F.base b := by
      rcases h.loc id b hb with h5 | ⟨k, rfl⟩
      · exact h5
      · cases hrow
    have him : ∀ b', Im F.I0 F.base om w b' → Im F.I0 F.base om (w.setRow b (cur.toList.take (q * P.cellsOf e + j) ++ (a.eval y).cells.toList ++ cur.toList.drop (q * P.cellsOf e + j + (a.eval y).cells.toList.length)).toArray) b' ∧ (w.setRow b (cur.toList.take (q * P.cellsOf e + j) ++ (a.eval y).cells.toList ++ cur.toList.drop (q * P.cellsOf e + j + (a.eval y).cells.toList.length)).toArray).heap[b']? = w.heap[b']? := by
      intro b' hb'
      have hne : b' ≠ b := fun e => hb'.2 id (by rw [e]; exact hb)
      refine ⟨⟨?_, hb'.2⟩, hother b' hne⟩
      rcases hb'.1 with h5 | h5
      · exact .inl h5
      · exact .inr ⟨h5.1, by simpa using h5.2⟩
    -- the new element
    have hel : (setPart z j (opndT tab t S y)).cells.length = P.cellsOf e ∧ ∀ (k : Nat), (setPart z j (opndT tab t S y)).cells[k]? = if j ≤ k ∧ k < j + (opndT tab t S y).cells.length then (opndT tab t S y).cells[k - j]? else z.cells[k]? := by
      have gen : ∀ zc : List PV, z.cells = zc → (setPart z j (opndT tab t S y)).cells = putCells zc j (opndT tab t S y).cells → (setPart z j (opndT tab t S y)).cells.length = P.cellsOf e ∧ ∀ (k : Nat), (setPart z j (opndT tab t S y)).cells[k]? = if j ≤ k ∧ k < j + (opndT tab t S y).cells.length then (opndT tab t S y).cells[k - j]? else z.cells[k]? := by
        intro zc h5 h6
        have hlez : j + (opndT tab t S y).cells.length ≤ zc.length := by rw [h1, ← h5]; exact h2
        rw [h6, h5]
        exact ⟨by rw [put_len hlez, ← h5, hzl], fun k => put_get hlez⟩
      cases hzz : z with
      | agg zc => rw [hzz] at gen; exact gen zc rfl rfl
      | _ =>
        rw [hzz] at gen h2
        have hj0 : j = 0 := by simp [PV.cells] at h2; omega
        refine gen _ rfl ?_
        subst hj0
        simp [setPart, putCells, PV.cells] at h2 ⊢
        show 1 ≤ (opndT tab t S y).cells.length
        omega
    have E : Ext P F.I0 F.base om w om (w.setRow b (cur.toList.take (q * P.cellsOf e + j) ++ (a.eval y).cells.toList ++ cur.toList.drop (q * P.cellsOf e + j + (a.eval y).cells.toList.length)).toArray) (oneSub id (.upd q (setPart z j (opndT tab t S y)))) := by
      refine ⟨him, fun id _ _ b hb => hb, ?_, ?_, ?_⟩
      · intro id' _ hk b' hb'
        refine ⟨hb', hother b' fun e => ?_⟩
        subst e
        have := h.inj id' id b' hb' hb
        subst this
        simp [oneSub] at hk
      · intro id' _ hf
        unfold oneSub at hf
        split at hf <;> cases hf
      · intro id' qi x _ hu b' cur' e' hb' hh'
        unfold oneSub at hu
        split at hu
        case isFalse => cases hu
        rename_i hid
        subst hid
        cases hu
        rw [hb] at hb'
        cases hb'
        rw [hh] at hh'
        cases hh'
        refine ⟨hb, hel.1, ?_, _, setRow_heap w b cur _ e (0, 0) hh, arr_len hle, ?_, ?_⟩
        · intro k y' hk
          rw [hel.2 k] at hk
          split at hk
          · exact hyR.cellsRel.1 _ _ hk
          · exact hF.cell q z k y' hz hk
        · intro k hk
          rw [arr_get hle, if_neg]
          rw [hl2]
          intro hin
          rw [m2] at hk
          omega
        · intro k y' c hk hc
          rw [hel.2 k] at hk
          rw [arr_get hle, hl2] at hc
          by_cases hin : j ≤ k ∧ k < j + (opndT tab t S y).cells.length
          · rw [if_pos hin] at hk
            rw [if_pos (by omega)] at hc
            refine RR.mono P him (hyR.cellsRel.2 (k - j) y' c hk ?_)
            rw [← Array.getElem?_toList, ← hc]
            congr 1
            omega
          · rw [if_neg hin] at hk
            rw [if_neg (by omega)] at hc
            refine RR.mono P him (hF.rel q z k y' c hz hk ?_)
            have hkl := (List.getElem?_eq_some_iff.1 hk).1
            have m3 : (q + 1) * P.cellsOf e ≤ xs.length * P.cellsOf e := Nat.mul_le_mul_right _ (by omega)
            rw [List.getElem?_take, if_pos (by omega)]
            simpa using hc
    have hfin := h.step E id none h.inj (fun i b hb => by simpa using h.lt i b hb) h.loc (fun _ => rfl) (by simp) (fun b' hlt _ => hother b' (fun e => hlt (e ▸ hbb))) ⟨rfl, rfl, rfl⟩
      (fun i hne _ b' hb' => ⟨hb', hother b' fun e => hne (by subst e; exact h.inj i id b' hb' hb)⟩) (fun cs hcs => by cases hcs) o.dst hd .dead undef (.dead _)
    refine ⟨_, _, _, .inr ⟨?_, rfl⟩, hfin⟩
    simp [execOp, ho, Instr.storeAt, Instr.sureAddr, hv, hrun]
  · cases he

end
end Go.Proofs.Ytcahjpkmldmjdaa.Ab
