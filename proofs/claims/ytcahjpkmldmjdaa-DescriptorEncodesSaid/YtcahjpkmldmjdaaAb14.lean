/-
  Abstract values for walks without memory: the operations are sound, tenth part: records, and all of them together.
-/
import Derived.Test.YtcahjpkmldmjdaaAb13
namespace Go.Proofs.Ytcahjpkmldmjdaa.Ab
open Go

section
variable {P : Program} {tab : Tab} {F : Fr} {om : Id → Option Nat} {a : Act} {w : World} {S : St}

theorem freeze_old (w : World) (b n : Nat) (k : Nat) (hk : k ≠ b) : (w.freeze { block := b, off := n } 1).heap[k]? = w.heap[k]? := by
  unfold World.freeze
  rw [if_neg (by decide)]
  simp only [Array.getElem?_modify]
  rw [if_neg (fun e => hk e.symm)]

theorem same_sound (hT : TabOK P tab) (h : SRel P F om a w S) {o : Oper} (hd : ∀ t, o.dst = some t → t < F.n) {s : Nat} {x : Operand} (ho : o.op = .convert s s x) {c : Prop} {f : Fx}
    (he : evSame tab s (opnd S x) = .go c f) (hc : c) : StepOK P F o a w (ap o.dst S f) := by
  have hx := opnd_VR h x
  unfold evSame at he
  split at he
  case h_2 => cases he
  rename_i e sz by_ z e' id xs hts hop
  split at he
  case h_2 => cases he
  rename_i sz2 by2 z2 hte
  obtain ⟨rfl, rfl⟩ := Ev.go.inj he
  obtain ⟨rfl, hne, hrow⟩ := hc
  rw [hop] at hx
  have hus := und_slice (hT s _ hts)
  have hue := und_int (hT _ _ hte)
  rcases hx.sl_own with ⟨rfl, _⟩ | ⟨b, cap, cur, _, hb, hv, hcp, hm, hh, hs, hF⟩
  · exact absurd rfl hne
  have hbl := h.lt id b hb
  have hnew : (w.freeze { block := b, off := cur.size } 1).heap[b]? = some (.cells cur e' (cur.size, cur.size + 1)) := by
    unfold World.freeze
    rw [if_neg (by decide)]
    simp only [Array.getElem?_modify, if_true, hh]
    rfl
  have hsz : (w.freeze { block := b, off := cur.size } 1).heap.size = w.heap.size := by
    unfold World.freeze
    rw [if_neg (by decide)]
    simp
  have hrun : (markStringish ⟨b, 0, none⟩).run P w = .ok () (w.freeze { block := b, off := cur.size } 1) := by
    have : w.shape? b = some (e', cur.size) := by simp [World.shape?, hh]
    simp [markStringish, this]
  have hk : oneSub id .kill id = .kill := by simp [oneSub]
  have hks : ∀ i, i ≠ id → oneSub id .kill i = .keep := fun i hi => by simp [oneSub, hi]
  have hom : ∀ i b', omNext om (oneSub id .kill) id none i = some b' → i ≠ id ∧ om i = some b' := by
    intro i b' hi
    rcases omNext_some hi with ⟨_, h2⟩ | ⟨h1, _, h3⟩
    · cases h2
    · exact ⟨h1, h3⟩
  have hoth : ∀ i b', i ≠ id → om i = some b' → b' ≠ b := by
    intro i b' hi hb' e
    subst e
    exact hi (h.inj i id _ hb' hb)
  have hbase : F.base b := by
    rcases h.loc id b hb with h1 | ⟨k, rfl⟩
    · exact h1
    · cases hrow
  have E : Ext P F.I0 F.base om w (omNext om (oneSub id .kill) id none) (w.freeze { block := b, off := cur.size } 1) (oneSub id .kill) := by
    refine ⟨?_, ?_, ?_, ?_, ?_⟩
    · intro b' hb'
      refine ⟨⟨?_, fun i hi => hb'.2 i (hom i b' hi).2⟩, freeze_old w b _ b' fun e => hb'.2 id (by rw [e]; exact hb)⟩
      rw [hsz]
      exact hb'.1
    · intro i hr hk' b' hb'
      have hi : i ≠ id := fun e => by rw [e, hrow] at hr; cases hr
      rw [omNext_keep hi (hks i hi)]
      exact hb'
    · intro i _ hki b' hb'
      have hi : i ≠ id := fun e => by rw [e, hk] at hki; cases hki
      rw [omNext_keep hi (hks i hi)]
      exact ⟨hb', freeze_old w b _ b' (hoth i b' hi hb')⟩
    · intro i _ hf
      unfold oneSub at hf
      split at hf <;> cases hf
    · intro i j x' _ hf
      unfold oneSub at hf
      split at hf <;> cases hf
  have him : Im F.I0 F.base (omNext om (oneSub id .kill) id none) (w.freeze { block := b, off := cur.size } 1) b := by
    refine ⟨.inr ⟨hbase, by rw [hsz]; exact hbl⟩, fun i hi => ?_⟩
    obtain ⟨h1, h2⟩ := hom i b hi
    exact h1 (h.inj i id b h2 hb)
  refine ⟨_, a.eval x, _, .inl ?_, h.step E id none ?_ ?_ ?_ ?_ (by rw [hsz]; exact Nat.le_refl _) ?_ (by unfold World.freeze; rw [if_neg (by decide)]; exact ⟨rfl, rfl, rfl⟩) ?_ (fun cs hcs => by cases hcs) o.dst hd _ _ ?_⟩
  · simp [execOp, ho, convert, run_underlying hus, run_underlying hue, hv, hrun]
  · intro i j b' hi hj
    exact h.inj i j b' (hom i b' hi).2 (hom j b' hj).2
  · intro i b' hi
    rw [hsz]
    exact h.lt i b' (hom i b' hi).2
  · intro i b' hi
    exact h.loc i b' (hom i b' hi).2
  · intro k
    have hi : Id.par k ≠ id := fun e => by rw [← e] at hrow; cases hrow
    exact omNext_keep hi (hks _ hi)
  · intro b' hlt _
    exact freeze_old w b _ b' (fun e => hlt (e ▸ hbase))
  · intro i hi _ b' hb'
    rw [omNext_keep hi (hks i hi)]
    exact ⟨hb', freeze_old w b _ b' (hoth i b' hi hb')⟩
  · refine .pure _ _ ?_
    rw [hv]
    have hle : xs.length * P.cellsOf e' ≤ cur.size := by rw [hs]; exact Nat.mul_le_mul_right _ hcp
    refine RR.sl_mk P (.inl rfl) hcp hm (fun _ => ⟨rfl, him⟩) (fun h => by cases h) (hF.mono fun y c hr => RR.mono P (fun b' hb' => E.im b' hb') hr) ?_
    intro k c hkc
    rw [List.getElem?_take] at hkc
    split at hkc
    · simp only [World.cell?, hnew, Option.isSome_none, Bool.false_eq_true, if_false, Nat.zero_add]
      rw [← hkc]
      exact Array.getElem?_toList.symm
    · cases hkc

theorem places_run (hT : TabOK P tab) : ∀ (gs : List Field) (pl : List (Nat × Nat)), placesA tab (gs.map fun f => (f.offset, f.type)) = some pl →
    gs.mapM (fun f => (P.info? f.type).map fun i => (f.offset, i.size)) = some pl
  | [], pl, h => by simpa [placesA] using h
  | g :: gs, pl, h => by
    simp only [List.map_cons, placesA] at h
    split at h
    · rename_i i rest hi hr
      cases h
      obtain ⟨I, z, hI, hs, _⟩ := (hT g.type i hi).info
      simp [List.mapM_cons, hI, hs, places_run hT gs rest hr]
    · cases h

def CellsR (P : Program) (F : Fr) (om : Id → Option Nat) (w : World) (cs : List PV) (cur : Array Value) : Prop :=
  cur.size = cs.length ∧ ∀ (j : Nat) (y : PV) (c : Value), cs[j]? = some y → cur[j]? = some c → y.isCell = true ∧ c.oneCell' = true ∧ VR P F.I0 F.base om w y c

theorem fill_run (h : SRel P F om a w S) (fs pl : List (Nat × Nat)) : ∀ (parts : List (Nat × Operand)) (cs : List PV) (cur : Array Value), CellsR P F om w cs cur →
    ((partsA tab S fs parts).all fun p => p.2.live) = true → ∀ cs', fillA pl cs (partsA tab S fs parts) = some cs' →
    ∃ cur', Instr.fill (pl.toArray[·]?) cur (parts.map fun (i, x) => (i, a.eval x)) = some cur' ∧ CellsR P F om w cs' cur'
  | [], cs, cur, hR, _, cs', hf => by
    simp only [partsA, fillA, Option.some.injEq] at hf
    subst hf
    exact ⟨cur, rfl, hR⟩
  | (i, x) :: rest, cs, cur, hR, hl, cs', hf => by
    simp only [partsA, fillA] at hf
    simp only [partsA, List.all_cons, Bool.and_eq_true] at hl
    split at hf
    case h_2 => cases hf
    rename_i off n hpl
    split at hf
    case isFalse => cases hf
    rename_i hcond
    obtain ⟨h1, h2⟩ := hcond
    have hx := opndT_VR (tab := tab) h ((fs[i]?.getD (0, 0)).2) x
    obtain ⟨g1, g2⟩ := hx.cellsAll hl.1
    obtain ⟨f1, f2⟩ := Great.foldl_set off (a.eval x).cells.toList 0 cur
    have hle2 : off + (opndT tab ((fs[i]?.getD (0, 0)).2) S x).cells.length ≤ cs.length := by omega
    have hR' : CellsR P F om w (putCells cs off (opndT tab ((fs[i]?.getD (0, 0)).2) S x).cells) (((a.eval x).cells.toList.zipIdx 0).foldl (fun cs (x : Value × Nat) => cs.setIfInBounds (off + x.2) x.1) cur) := by
      refine ⟨by rw [f1, put_len hle2]; exact hR.1, ?_⟩
      intro j y c hy hc
      rw [put_get hle2] at hy
      rw [f2] at hc
      have hcs := hR.1
      by_cases hin : off ≤ j ∧ j < off + (opndT tab ((fs[i]?.getD (0, 0)).2) S x).cells.length
      · rw [if_pos hin] at hy
        rw [if_pos (by simp [g1]; omega)] at hc
        exact g2 (j - off) y c hy (by simpa using hc)
      · rw [if_neg hin] at hy
        rw [if_neg (by simp [g1]; omega)] at hc
        exact hR.2 j y c hy hc
    obtain ⟨cur', hrun, hfin⟩ := fill_run h fs pl rest _ _ hR' hl.2 cs' hf
    refine ⟨cur', ?_, hfin⟩
    simp only [List.map_cons]
    unfold Instr.fill
    simp only [List.getElem?_toArray, hpl]
    have hcs := hR.1
    rw [if_neg (by simp [g1, h1]; omega)]
    rw [← hrun]
    simp only [List.getElem?_toArray]
    congr 1
    rw [← Array.foldl_toList, Array.toList_zipIdx]

theorem build_sound (hT : TabOK P tab) (h : SRel P F om a w S) {o : Oper} (hd : ∀ t, o.dst = some t → t < F.n) {t : Nat} {parts : Array (Nat × Operand)} (ho : o.op = .build t parts) {c : Prop} {f : Fx}
    (he : evBuild tab t S parts = .go c f) (hc : c) : StepOK P F o a w (ap o.dst S f) := by
  unfold evBuild at he
  split at he
  case h_2 => cases he
  rename_i fs sz by_ z0 hti
  split at he
  case h_2 => cases he
  rename_i pl hpl
  split at he
  case h_2 => cases he
  rename_i cs hcs
  obtain ⟨rfl, rfl⟩ := Ev.go.inj he
  obtain ⟨gs, hu, hfs⟩ := und_struct (hT t _ hti)
  obtain ⟨I, z, hI, hIs, hIb, hIz, hzr⟩ := (hT t _ hti).info
  have hz0 := hzr (Im F.I0 F.base om w) w
  obtain ⟨cur', hfill, hR⟩ := fill_run h fs pl parts.toList z0.cells z.cells ⟨hz0.cellsLen, fun j y c hy hcc => by
    have h1 := hz0.cellsRel.1 j y hy
    have h2 := hz0.cellsRel.2 j y c hy hcc
    exact ⟨h1, h2.oneCell P h1, .pure _ _ h2⟩⟩ hc cs hcs
  refine step_val h hd (v := .agg cur') ?_ (.agg _ _ hR.1.symm ?_ ?_ fun j y c hy hcc => (hR.2 j y c hy hcc).2.2)
  · have hb : P.built t (parts.map fun (i, x) => (i, a.eval x)).toList = some cur' := by
      unfold Program.built
      subst hfs
      simp only [hI, hu, hIz, places_run hT gs.toList pl hpl, Array.toList_map]
      exact hfill
    simp [execOp, ho]
    rw [run_build w t _ cur' hb]
    simp
  · intro j y hy
    have hlt := (List.getElem?_eq_some_iff.1 hy).1
    have := hR.1
    exact (hR.2 j y _ hy (Array.getElem?_eq_getElem (by omega))).1
  · intro j c hcc
    have hlt := (Array.getElem?_eq_some_iff.1 hcc).1
    have := hR.1
    exact (hR.2 j _ c (List.getElem?_eq_getElem (by omega)) hcc).2.1

theorem run_eqGuard_plain (op : BinOp) (t : TypeId) (x y : Operand) {v u : Value} (h1 : v ≠ .nilIface) (h2 : ∀ vs, v ≠ .agg vs) (w : World) : (eqGuard op t x y v u).run P w = .ok () w := by
  unfold eqGuard
  cases op <;> simp <;> cases v <;> simp_all

theorem bin_sound (hT : TabOK P tab) (h : SRel P F om a w S) {o : Oper} (hd : ∀ t, o.dst = some t → t < F.n) {op : BinOp} {t yt : Nat} {x y : Operand} (ho : o.op = .binOp op t x y yt) {c : Prop} {f : Fx}
    (he : evOp tab t op (opnd S x) (opnd S y) = .go c f) (hc : c) : StepOK P F o a w (ap o.dst S f) := by
  have hx := opnd_VR h x
  have hy := opnd_VR h y
  unfold evOp at he
  split at he
  · rename_i p q hop hoq
    rw [hop] at hx
    rw [hoq] at hy
    split at he
    case h_2 => cases he
    rename_i sz by_ z hti
    have hu := und_bool (hT t _ hti)
    have hvx := hx.bool_inv
    have hvy := hy.bool_inv
    cases op <;> simp only [evBool, Ev.go.injEq, reduceCtorEq] at he
    · obtain ⟨rfl, rfl⟩ := he
      refine step_val h hd ?_ (.pure _ _ (.bool _))
      simp [execOp, ho, hvx, hvy, run_eqGuard_plain, run_eql_bool (P := P) w t p q hu]
    · obtain ⟨rfl, rfl⟩ := he
      refine step_val h hd ?_ (.pure _ _ (.bool _))
      simp [execOp, ho, hvx, hvy, run_eqGuard_plain, run_neq_bool (P := P) w t p q hu]
  · rename_i hnb
    have hpl : a.eval x ≠ .nilIface ∧ ∀ vs, a.eval x ≠ .agg vs := by
      unfold evBin at he
      split at he
      · rename_i k p k' q hop hoq
        rw [hop] at hx
        rw [hx.int_inv]
        exact ⟨by simp, by simp⟩
      · rename_i p q hop hoq
        rw [hop] at hx
        rw [hx.str_inv]
        exact ⟨by simp, by simp⟩
      · cases he
    obtain ⟨p, v, rfl, hrun, hR⟩ := run_evBin he hc t w hx hy
    refine step_val h hd ?_ (.pure _ _ (RR.mono P (fun b hb => hb.elim) hR))
    simp [execOp, ho, run_eqGuard_plain op t x y hpl.1 hpl.2, hrun]

theorem nil_sound (hT : TabOK P tab) (h : SRel P F om a w S) {o : Oper} (hd : ∀ t, o.dst = some t → t < F.n) {op : BinOp} {t yt : Nat} {x y : Operand} (ho : o.op = .binOp op t x y yt) (hy : isNilSl y = true) {c : Bool → Prop} {f : Bool → PV}
    (he : evNil tab t op (opnd S x) = .nd c f) : ∃ b, c b ∧ StepOK P F o a w (S.put o.dst (f b)) := by
  have hx := opnd_VR h x
  have hyv : ∃ n' c', a.eval y = .slice none n' c' := by
    unfold isNilSl at hy
    split at hy
    · exact ⟨_, _, rfl⟩
    · cases hy
  obtain ⟨n', c', hyv⟩ := hyv
  unfold evNil at he
  split at he
  case h_2 => cases he
  rename_i e sz by_ z e' tg xs hti hop
  rw [hop] at hx
  have hu := und_slice (hT t _ hti)
  have hv : ∃ p cap, a.eval x = .slice p xs.length cap ∧ (p = none → xs = []) := by
    have pureCase : (∀ id, tg ≠ .own id) → ∃ p cap, a.eval x = .slice p xs.length cap ∧ (p = none → xs = []) := fun htg => by
      obtain ⟨p, cap, g, o', fs, hv, ht0, hcl, hmx, hp, hz, hF, hll⟩ := (hx.sl_pure htg).sl_inv
      refine ⟨p, cap, hv, fun hpn => ?_⟩
      have := hz hpn
      exact List.eq_nil_of_length_eq_zero (by omega)
    cases tg with
    | own id =>
      rcases hx.sl_own with ⟨rfl, p, hv⟩ | ⟨b, cap, cur, _, _, hv, _⟩
      · exact ⟨p, 0, hv, fun _ => rfl⟩
      · exact ⟨_, cap, hv, fun h => by simp at h⟩
    | ro => exact pureCase (fun id h => by cases h)
    | full => exact pureCase (fun id h => by cases h)
  obtain ⟨p, cap, hv, hpn⟩ := hv
  cases op <;> simp only [reduceCtorEq] at he <;> try (cases he; done)
  · obtain ⟨rfl, rfl⟩ := Ev.nd.inj he
    refine ⟨p.isNone, fun hb => hpn (by simpa using hb), step_val h hd ?_ (.pure _ _ (.bool _))⟩
    simp [execOp, ho, hv, hyv, run_eqGuard_plain, Lib.run_eql_slice_nil w t e p xs.length cap n' c' hu]
  · obtain ⟨rfl, rfl⟩ := Ev.nd.inj he
    refine ⟨!p.isNone, fun hb => hpn (by simpa using hb), step_val h hd ?_ (.pure _ _ (.bool _))⟩
    simp [execOp, ho, hv, hyv, run_eqGuard_plain, run_neq_slice_nil_any w t e p xs.length cap n' c' hu]

theorem ev_sound (hT : TabOK P tab) (h : SRel P F om a w S) {o : Oper} (hd : ∀ t, o.dst = some t → t < F.n) {r k : Nat} {c : Prop} {f : Fx} (he : ev tab r k o S = .go c f) (hc : c) : StepOK P F o a w (ap o.dst S f) := by
  unfold ev at he
  split at he
  · rename_i x ho
    obtain ⟨rfl, rfl⟩ := Ev.go.inj he
    exact step_val h hd (by simp [execOp, ho]) (opndT_VR h o.type x)
  · rename_i x ho
    obtain ⟨rfl, rfl⟩ := Ev.go.inj he
    exact step_val h hd (by simp [execOp, ho]) (opndT_VR h o.type x)
  · split at he <;> cases he
  · rename_i e ho
    split at he
    case h_2 => cases he
    rename_i i hi
    obtain ⟨rfl, rfl⟩ := Ev.go.inj he
    exact alloc_sound hT h hd ho hi
  · rename_i e x ho
    split at he
    case h_2 => cases he
    rename_i i hi
    obtain ⟨rfl, rfl⟩ := Ev.go.inj he
    exact box_sound h hd ho hc.2
  · rename_i t parts ho
    exact build_sound hT h hd ho he hc
  · rename_i t n parts ho
    exact buildSlice_sound hT h hd ho he hc
  · rename_i t x ho
    exact load_sound hT h hd ho he
  · rename_i t x y ho
    exact store_sound hT h hd ho he hc
  · rename_i x ho
    have hx := opnd_VR h x
    split at he
    · rename_i id off hop
      obtain ⟨rfl, rfl⟩ := Ev.go.inj he
      rw [hop] at hx
      obtain ⟨b, hr, hb, hv⟩ := hx.ptr_inv
      exact step_val h hd (by simp [execOp, ho, hv]) (.ptr id off b hr hb)
    · rename_i cs off hop
      obtain ⟨rfl, rfl⟩ := Ev.go.inj he
      rw [hop] at hx
      obtain ⟨b, cur, T, fr, hv, hb, hcc, hn, hrel⟩ := hx.rp_inv
      exact step_val h hd (by simp [execOp, ho, hv]) (.rp cs off b cur T fr hb hcc hn hrel)
    · cases he
  · rename_i op t x y yt ho
    split at he
    · unfold evNil at he
      split at he
      · split at he <;> cases he
      · cases he
    · exact bin_sound hT h hd ho he hc
  · rename_i op t x ho
    have hx := opnd_VR h x
    split at he
    · rename_i b hop
      obtain ⟨rfl, rfl⟩ := Ev.go.inj he
      rw [hop] at hx
      exact step_val h hd (by simp [execOp, ho, hx.bool_inv, Op.unary]) (.pure _ _ (.bool _))
    · rename_i k' n hop
      obtain ⟨rfl, rfl⟩ := Ev.go.inj he
      rw [hop] at hx
      exact step_val h hd (by simp [execOp, ho, hx.int_inv, Op.unary, Op.intArith]) (.pure _ _ (.int _ _))
    · rename_i k' n hop
      obtain ⟨rfl, rfl⟩ := Ev.go.inj he
      rw [hop] at hx
      exact step_val h hd (by simp [execOp, ho, hx.int_inv, Op.unary, intBits_xor, bitsI]) (.pure _ _ (.int _ _))
    · cases he
  · rename_i s d x ho
    split at he
    · rename_i hsd
      subst hsd
      exact same_sound hT h hd ho he hc
    · exact conv_sound hT h hd ho he hc
  · rename_i g first captured ho
    split at he
    case isFalse => cases he
    rename_i hf0
    obtain ⟨rfl, rfl⟩ := Ev.go.inj he
    have hf1 : first = #[] := Array.size_eq_zero_iff.1 hf0
    subst hf1
    refine step_val h hd (v := .func (.func g) #[] (captured.map a.eval)) (by simp [execOp, ho, Instr.makeFunc]) (.fn _ _ _ (by simp) ?_)
    intro j y cv hj hcv
    rw [List.getElem?_map] at hj
    rw [Array.getElem?_map] at hcv
    cases hx : captured.toList[j]? with
    | none => simp [hx] at hj
    | some x =>
      have hx' : captured[j]? = some x := by simpa using hx
      simp [hx] at hj
      simp [hx'] at hcv
      subst hj
      subst hcv
      exact opnd_VR h x
  · rename_i t l cp ho
    exact make_sound hT h hd ho he hc
  · rename_i t x lo hi mx ho
    exact slice_sound hT h hd ho he hc
  · rename_i s x fi ho
    exact fieldAddr_sound hT h hd ho he hc
  · rename_i s x fi ho
    exact field_sound hT h hd ho he
  · rename_i t x ix ho
    exact indexAddr_sound hT h hd ho he hc
  · rename_i t x ix ho
    exact index_sound hT h hd ho he hc
  · rename_i x i ho
    split at he
    case h_2 => cases he
    rename_i vs hop
    split at he
    case h_2 => cases he
    rename_i v hv
    obtain ⟨rfl, rfl⟩ := Ev.go.inj he
    exact extract_sound h hd ho hop hv
  · rename_i cl ho
    split at he
    · rename_i hb; exact len_sound hT h hd ho hb he
    · rename_i hb; exact append_sound hT h hd ho hb he hc
    · rename_i hb; exact minmax_sound h hd ho (mx := false) hb he hc
    · rename_i hb; exact minmax_sound h hd ho (mx := true) hb he hc
    · split at he <;> cases he
    · cases he
  · cases he

end
end Go.Proofs.Ytcahjpkmldmjdaa.Ab
