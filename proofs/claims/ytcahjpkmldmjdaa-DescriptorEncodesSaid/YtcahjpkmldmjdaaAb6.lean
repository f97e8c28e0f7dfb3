/-
  Abstract values for walks without memory: the operations are sound, second part: reading.
-/
import Derived.Test.YtcahjpkmldmjdaaAb5
namespace Go.Proofs.Ytcahjpkmldmjdaa.Ab
open Go

section
variable {P : Program} {tab : Tab}

theorem TIOk.cellsOf {t : Nat} {i : TI} (h : TIOk P t i) : P.cellsOf t = i.size := by
  obtain ⟨I, z, hi, hs, _⟩ := h.info
  simp [Program.cellsOf, hi, hs]

theorem run_isAgg {t : Nat} {i : TI} (h : TIOk P t i) (w : World) : (isAgg t).run P w = .ok i.desc.agg w := by
  obtain ⟨d, hd, hk⟩ := h.und
  simp only [isAgg, Sem.run_bind, run_underlying hd, Result.andThen_ok]
  cases hi : i.desc <;> cases d <;> simp [hi, TDOk] at hk <;> simp [TD.agg]

theorem run_sizeOf {t : Nat} {i : TI} (h : TIOk P t i) (w : World) : (sizeOf t).run P w = .ok i.size w := by
  obtain ⟨I, z, hi, hs, _⟩ := h.info
  simp [sizeOf, typeInfo, hi, hs]

theorem add_mk (b o n : Nat) : (⟨b, o, none⟩ : Addr).add n = ⟨b, o + n, none⟩ := by
  unfold Addr.add
  split <;> simp_all

/-- Cells that stand one behind the other read as a part. -/
theorem run_loadVar {t : Nat} {i : TI} (h : TIOk P t i) (w : World) (b o : Nat) (cs : List PV) (off : Nat) (fs : List Value) (hlen : fs.length = cs.length)
    (hc : ∀ (k : Nat) (c : Value), fs[k]? = some c → w.cell? ⟨b, o + k, none⟩ = some c) {p : PV} (hp : part i cs off = some p) :
    ∃ v, (loadVar t ⟨b, o + off, none⟩).run P w = .ok v w ∧
      ((i.desc.agg = true ∧ ∃ vs : Array Value, v = .agg vs ∧ p = .agg ((cs.drop off).take i.size) ∧ vs.toList = (fs.drop off).take i.size ∧ off + i.size ≤ cs.length) ∨
       (i.desc.agg = false ∧ cs[off]? = some p ∧ fs[off]? = some v)) := by
  unfold part at hp
  split at hp
  · rename_i ha
    split at hp
    · rename_i hle
      simp only [Option.some.injEq] at hp
      subst hp
      have hl := run_loadCells_list (P := P) w ⟨b, o + off, none⟩ ((fs.drop off).take i.size) (fun j v hv => by
        rw [add_mk]
        rw [List.getElem?_take] at hv
        split at hv
        · rw [List.getElem?_drop] at hv
          have := hc _ _ hv
          rw [Nat.add_assoc]
          exact this
        · cases hv)
      have hlen2 : ((fs.drop off).take i.size).length = i.size := by simp; omega
      rw [hlen2] at hl
      refine ⟨.agg ((fs.drop off).take i.size).toArray, ?_, .inl ⟨ha, _, rfl, rfl, rfl, hle⟩⟩
      simp only [loadVar, Sem.run_bind, run_isAgg h, Result.andThen_ok, ha, if_true, run_sizeOf h, hl, Sem.run_pure]
    · cases hp
  · rename_i ha
    have ha' : i.desc.agg = false := by simpa using ha
    have hlt := (List.getElem?_eq_some_iff.1 hp).1
    have hf : fs[off]? = some fs[off] := List.getElem?_eq_getElem (by omega)
    refine ⟨fs[off], ?_, .inr ⟨ha', hp, hf⟩⟩
    have := hc off _ hf
    simp only [loadVar, Sem.run_bind, run_isAgg h, Result.andThen_ok, ha', Bool.false_eq_true, if_false, run_load, this]

theorem part_VR {I0 : Nat → Prop} {base : Nat → Prop} {om : Id → Option Nat} {w : World} {i : TI} {cs : List PV} {fs : List Value} {off : Nat} {p : PV} {v : Value} (hlen : fs.length = cs.length)
    (hrel : ∀ (j : Nat) (y : PV) (c : Value), cs[j]? = some y → fs[j]? = some c → y.isCell = true ∧ c.oneCell' = true ∧ VR P I0 base om w y c)
    (h : (i.desc.agg = true ∧ ∃ vs : Array Value, v = .agg vs ∧ p = .agg ((cs.drop off).take i.size) ∧ vs.toList = (fs.drop off).take i.size ∧ off + i.size ≤ cs.length) ∨
       (i.desc.agg = false ∧ cs[off]? = some p ∧ fs[off]? = some v)) : VR P I0 base om w p v := by
  have pick : ∀ {α : Type} (l : List α) (j : Nat) (y : α), ((l.drop off).take i.size)[j]? = some y → l[off + j]? = some y := by
    intro α l j y hy
    rw [List.getElem?_take] at hy
    split at hy
    · rwa [List.getElem?_drop] at hy
    · cases hy
  rcases h with ⟨_, vs, rfl, rfl, hvs, hle⟩ | ⟨_, h1, h2⟩
  · have hv : ∀ (j : Nat) (c : Value), vs[j]? = some c → fs[off + j]? = some c := fun j c hc => pick fs j c (by rw [← hvs]; simpa using hc)
    refine .agg _ _ ?_ ?_ ?_ ?_
    · have : vs.size = ((fs.drop off).take i.size).length := by rw [← hvs]; simp
      rw [this]
      simp only [List.length_take, List.length_drop]
      omega
    · intro j y hy
      have h1 := pick cs j y hy
      have hlt := (List.getElem?_eq_some_iff.1 h1).1
      exact (hrel _ y _ h1 (List.getElem?_eq_getElem (by omega))).1
    · intro j c hc
      have h1 := hv j c hc
      have hlt := (List.getElem?_eq_some_iff.1 h1).1
      exact (hrel _ _ c (List.getElem?_eq_getElem (by omega)) h1).2.1
    · intro j y c hy hc
      exact (hrel _ y c (pick cs j y hy) (hv j c hc)).2.2
  · exact (hrel _ _ _ h1 h2).2.2

theorem part_RR {Im : Nat → Prop} {w : World} {i : TI} {cs : List PV} {fs : List Value} {off : Nat} {p : PV} {v : Value} (hlen : fs.length = cs.length)
    (hrel : ∀ (j : Nat) (y : PV) (c : Value), cs[j]? = some y → fs[j]? = some c → y.isCell = true ∧ RR P Im w y c)
    (h : (i.desc.agg = true ∧ ∃ vs : Array Value, v = .agg vs ∧ p = .agg ((cs.drop off).take i.size) ∧ vs.toList = (fs.drop off).take i.size ∧ off + i.size ≤ cs.length) ∨
       (i.desc.agg = false ∧ cs[off]? = some p ∧ fs[off]? = some v)) : RR P Im w p v := by
  have pick : ∀ {α : Type} (l : List α) (j : Nat) (y : α), ((l.drop off).take i.size)[j]? = some y → l[off + j]? = some y := by
    intro α l j y hy
    rw [List.getElem?_take] at hy
    split at hy
    · rwa [List.getElem?_drop] at hy
    · cases hy
  rcases h with ⟨_, vs, rfl, rfl, hvs, hle⟩ | ⟨_, h1, h2⟩
  · have hv : ∀ (j : Nat) (c : Value), vs[j]? = some c → fs[off + j]? = some c := fun j c hc => pick fs j c (by rw [← hvs]; simpa using hc)
    refine .agg _ _ ?_ ?_ ?_
    · have : vs.size = ((fs.drop off).take i.size).length := by rw [← hvs]; simp
      rw [this]
      simp only [List.length_take, List.length_drop]
      omega
    · intro j y hy
      have h1 := pick cs j y hy
      have hlt := (List.getElem?_eq_some_iff.1 h1).1
      exact (hrel _ y _ h1 (List.getElem?_eq_getElem (by omega))).1
    · intro j y c hy hc
      exact (hrel _ y c (pick cs j y hy) (hv j c hc)).2
  · exact (hrel _ _ _ h1 h2).2

/-- The cells of element q, of elements laid flat. -/
theorem Flat.elem {R : PV → Value → Prop} {sz : Nat} {xs : List PV} {fs : List Value} (h : Flat R sz xs fs) {q : Nat} {y : PV} (hy : xs[q]? = some y) :
    ((fs.drop (q * sz)).take sz).length = y.cells.length ∧ ∀ (j : Nat) (z : PV) (c : Value), y.cells[j]? = some z → ((fs.drop (q * sz)).take sz)[j]? = some c → z.isCell = true ∧ R z c := by
  have hq := (List.getElem?_eq_some_iff.1 hy).1
  have hs := h.sizes q y hy
  have hl := h.len
  have hm := Nat.mul_le_mul_right sz (show q + 1 ≤ xs.length by omega)
  rw [Nat.add_mul, Nat.one_mul] at hm
  refine ⟨by simp only [List.length_take, List.length_drop, hs]; omega, ?_⟩
  intro j z c hz hc
  rw [List.getElem?_take] at hc
  split at hc
  · rw [List.getElem?_drop] at hc
    exact ⟨h.cell q y j z hy hz, h.rel q y j z c hy hz hc⟩
  · cases hc

section
variable {F : Fr} {om : Id → Option Nat} {a : Act} {w : World} {S : St}

/-- What an address of an element says. -/
theorem VR.ep_inv {I0 : Nat → Prop} {base : Nat → Prop} {e : TypeId} {tg : Tag} {xs : List PV} {i j : Nat} {v : Value} (h : VR P I0 base om w (.ep e tg xs i j) v) :
    ∃ b o fs, v = .pointer (some ⟨b, o + i * P.cellsOf e + j, none⟩) ∧ i < xs.length ∧ Flat (RR P (Im I0 base om w) w) (P.cellsOf e) xs fs ∧
      (∀ (k : Nat) (c : Value), fs[k]? = some c → w.cell? ⟨b, o + k, none⟩ = some c) ∧
      ∀ id, tg = .own id → ∃ cap cur, o = 0 ∧ id.isRow = true ∧ om id = some b ∧ w.heap[b]? = some (.cells cur e (0, 0)) ∧ xs.length ≤ cap ∧ cur.size = cap * P.cellsOf e ∧ fs = cur.toList.take (xs.length * P.cellsOf e) := by
  cases h with
  | pure _ _ h => cases h
  | epr _ _ _ _ _ g o cap h hi =>
    obtain ⟨p, cap', g', o', fs, heq, ht, hc, hm, hp, hz, hF, hl⟩ := h.sl_inv
    have hne : xs ≠ [] := fun h => by simp [h] at hi
    obtain ⟨hp1, _⟩ := hp hne
    simp only [Value.slice.injEq] at heq
    obtain ⟨h1, _, _⟩ := heq
    rw [hp1] at h1
    simp only [Option.some.injEq, Addr.mk.injEq, and_true] at h1
    obtain ⟨rfl, rfl⟩ := h1
    refine ⟨g, o, fs, rfl, hi, hF, hl, fun id hid => ?_⟩
    subst hid
    rcases ht with h | ⟨h, _⟩ <;> cases h
  | epo _ id _ _ _ b cap h hi =>
    rcases h with ⟨rfl, _⟩ | ⟨b', cap', cur, hr, hb, heq, hc, hm, hh, hs, hF⟩
    · simp at hi
    · simp only [Value.slice.injEq, Option.some.injEq, Addr.mk.injEq, and_true, true_and] at heq
      obtain ⟨rfl, rfl⟩ := heq
      refine ⟨b, 0, _, by simp, hi, hF, ?_, fun id' hid => ?_⟩
      · intro k c hk
        rw [Nat.zero_add, cell_of_row w b k cur e (0, 0) hh]
        rw [List.getElem?_take] at hk
        split at hk
        · simpa using hk
        · cases hk
      · cases hid
        exact ⟨cap, cur, rfl, hr, hb, hh, hc, hs, rfl⟩

theorem VR.rp_inv {I0 : Nat → Prop} {base : Nat → Prop} {cs : List PV} {off : Nat} {v : Value} (h : VR P I0 base om w (.rp cs off) v) :
    ∃ b cur T fr, v = .pointer (some ⟨b, off, none⟩) ∧ Im I0 base om w b ∧ w.heap[b]? = some (.cells cur T fr) ∧ cur.size = cs.length ∧
      ∀ (j : Nat) (y : PV) (c : Value), cs[j]? = some y → cur[j]? = some c → y.isCell = true ∧ RR P (Im I0 base om w) w y c := by
  cases h with
  | pure _ _ h => cases h
  | rp _ _ b cur T fr hb hc hn h => exact ⟨b, cur, T, fr, rfl, hb, hc, hn, h⟩

theorem load_sound (hT : TabOK P tab) (h : SRel P F om a w S) {o : Oper} (hd : ∀ t, o.dst = some t → t < F.n) {t : TypeId} {x : Operand} (ho : o.op = .load t x) {c : Prop} {f : Fx}
    (he : evLoad tab t S (opnd S x) = .go c f) : StepOK P F o a w (ap o.dst S f) := by
  have hx := opnd_VR h x
  have fin : ∀ {p : PV} {v : Value} {ad : Addr}, a.eval x = .pointer (some ad) → (loadVar t ad).run P w = .ok v w → VR P F.I0 F.base om w p v → StepOK P F o a w (S.put o.dst p) := by
    intro p v ad h1 h2 h3
    refine step_val h hd ?_ h3
    simp [execOp, ho, Instr.loadAt, Instr.sureAddr, h1, h2]
  unfold evLoad at he
  split at he
  · rename_i i id off hti hop
    have hi := hT t i hti
    rw [hop] at hx
    obtain ⟨b, hr, hb, hv⟩ := hx.ptr_inv
    split at he
    · rename_i cs hcs
      split at he
      · rename_i p hp
        obtain ⟨_, rfl⟩ := Ev.go.inj he
        obtain ⟨_, b', cur, T, hb', hh, hn, hrel⟩ := h.box id cs hcs
        rw [hb] at hb'
        simp only [Option.some.injEq] at hb'
        subst hb'
        obtain ⟨v, hrun, hcase⟩ := run_loadVar hi w b 0 cs off cur.toList (by simpa using hn) (fun k c hk => by
          rw [Nat.zero_add, cell_of_row w b k cur T (0, 0) hh]
          simpa using hk) hp
        rw [Nat.zero_add] at hrun
        exact fin hv hrun (part_VR (by simpa using hn) (fun j y c h1 h2 => hrel j y c h1 (by simpa using h2)) hcase)
      · cases he
    · cases he
  · rename_i i cs off hti hop
    have hi := hT t i hti
    rw [hop] at hx
    split at he
    · rename_i p hp
      obtain ⟨_, rfl⟩ := Ev.go.inj he
      obtain ⟨b, cur, T, fr, hv, hb, hc, hn, hrel⟩ := hx.rp_inv
      obtain ⟨v, hrun, hcase⟩ := run_loadVar hi w b 0 cs off cur.toList (by simpa using hn) (fun k c hk => by
        rw [Nat.zero_add, cell_of_row w b k cur T fr hc]
        simpa using hk) hp
      rw [Nat.zero_add] at hrun
      exact fin hv hrun (.pure _ _ (part_RR (by simpa using hn) (fun j y c h1 h2 => hrel j y c h1 (by simpa using h2)) hcase))
    · cases he
  · rename_i i e tg xs q j hti hop
    have hi := hT t i hti
    rw [hop] at hx
    split at he
    · rename_i y hy
      split at he
      · rename_i p hp
        obtain ⟨_, rfl⟩ := Ev.go.inj he
        obtain ⟨b, o', fs, hv, hq, hF, hl, _⟩ := hx.ep_inv
        obtain ⟨he1, he2⟩ := hF.elem hy
        obtain ⟨v, hrun, hcase⟩ := run_loadVar hi w b (o' + q * P.cellsOf e) y.cells j ((fs.drop (q * P.cellsOf e)).take (P.cellsOf e)) he1 (fun k c hk => by
          rw [List.getElem?_take] at hk
          split at hk
          · rw [List.getElem?_drop] at hk
            have := hl _ _ hk
            rw [Nat.add_assoc]
            exact this
          · cases hk) hp
        exact fin hv hrun (.pure _ _ (part_RR he1 (fun j y c h1 h2 => he2 j y c h1 h2) hcase))
      · cases he
    · cases he
  · cases he


theorem fieldAddr_sound (hT : TabOK P tab) (h : SRel P F om a w S) {o : Oper} (hd : ∀ t, o.dst = some t → t < F.n) {s fi : Nat} {x : Operand} (ho : o.op = .fieldAddr s x fi) {c : Prop} {f : Fx}
    (he : evFieldAddr tab s fi (opnd S x) = .go c f) (hcc : c) : StepOK P F o a w (ap o.dst S f) := by
  have hx := opnd_VR h x
  unfold evFieldAddr at he
  split at he
  case h_2 => cases he
  rename_i fs sz by_ z hti
  obtain ⟨d, hd0, hk⟩ := (hT s _ hti).und
  cases d with
  | struct gs =>
    simp only [TDOk] at hk
    subst hk
    have key : ∀ (off : Nat) (ft : Nat), (gs.toList.map fun f => (f.offset, f.type))[fi]? = some (off, ft) → ∃ g, gs[fi]? = some g ∧ g.offset = off ∧ g.type = ft := by
      intro off ft hf
      rw [List.getElem?_map] at hf
      cases hg : gs.toList[fi]? with
      | none => simp [hg] at hf
      | some g => simp [hg] at hf; exact ⟨g, by simpa using hg, hf⟩
    split at he
    case h_2 => cases he
    rename_i off ft hf
    obtain ⟨g, hg, hgo, hgt⟩ := key off ft hf
    split at he
    case h_2 => cases he
    rename_i i hft
    have hi := hT ft i hft
    have fin : ∀ {p : PV} {b ob : Nat}, 0 < i.size → a.eval x = .pointer (some ⟨b, ob, none⟩) → VR P F.I0 F.base om w p (.pointer (some ⟨b, ob + off, none⟩)) → StepOK P F o a w (S.put o.dst p) := by
      intro p b ob hpos h1 h4
      refine step_val h hd ?_ h4
      have hne : ¬ i.size = 0 := by omega
      simp [execOp, ho, Instr.fieldAt, Instr.sureAddr, h1, run_underlying hd0, hg, fieldPlace, hgt, run_sizeOf hi, hne, add_mk, hgo]
    split at he
    · rename_i id ob hop
      obtain ⟨rfl, rfl⟩ := Ev.go.inj he
      rw [hop] at hx
      obtain ⟨b, hr, hb, hv⟩ := hx.ptr_inv
      exact fin hcc hv (.ptr id _ b hr hb)
    · rename_i cs ob hop
      obtain ⟨rfl, rfl⟩ := Ev.go.inj he
      rw [hop] at hx
      obtain ⟨b, cur, T, fr, hv, hb, hc, hn, hrel⟩ := hx.rp_inv
      exact fin hcc hv (.rp cs _ b cur T fr hb hc hn hrel)
    · rename_i e tg xs q j hop
      obtain ⟨rfl, rfl⟩ := Ev.go.inj he
      rw [hop] at hx
      generalize hev : a.eval x = v at hx
      cases hx with
      | pure _ _ h => cases h
      | epr _ _ _ _ _ g' o' cap h' hi => exact fin hcc hev (by have := VR.epr (P := P) (I0 := F.I0) (base := F.base) (om := om) (w := w) e tg xs q (j + off) g' o' cap h' hi; rwa [← Nat.add_assoc] at this)
      | epo _ id _ _ _ b cap h' hi => exact fin hcc hev (by have := VR.epo (P := P) (I0 := F.I0) (base := F.base) (om := om) (w := w) e id xs q (j + off) b cap h' hi; rwa [← Nat.add_assoc] at this)
    · cases he
  | _ => simp [TDOk] at hk

theorem und_slice {t e sz by_ : Nat} {z : PV} (h : TIOk P t ⟨.slice e, sz, by_, z⟩) : P.underlying t = some (.slice e) := by
  obtain ⟨d, hd, hk⟩ := h.und
  cases d <;> simp [TDOk] at hk
  subst hk
  exact hd

theorem und_str {t sz by_ : Nat} {z : PV} (h : TIOk P t ⟨.str, sz, by_, z⟩) : P.underlying t = some .string := by
  obtain ⟨d, hd, hk⟩ := h.und
  cases d <;> simp [TDOk] at hk
  exact hd

theorem und_bool {t sz by_ : Nat} {z : PV} (h : TIOk P t ⟨.bool, sz, by_, z⟩) : P.underlying t = some .bool := by
  obtain ⟨d, hd, hk⟩ := h.und
  cases d <;> simp [TDOk] at hk
  exact hd

theorem und_int {t sz by_ : Nat} {k : IntKind} {z : PV} (h : TIOk P t ⟨.int k, sz, by_, z⟩) : P.underlying t = some (.int k) := by
  obtain ⟨d, hd, hk⟩ := h.und
  cases d <;> simp [TDOk] at hk
  subst hk
  exact hd

theorem und_array {t n e sz by_ : Nat} {z : PV} (h : TIOk P t ⟨.array n e, sz, by_, z⟩) : P.underlying t = some (.array n e) := by
  obtain ⟨d, hd, hk⟩ := h.und
  cases d <;> simp [TDOk] at hk
  obtain ⟨rfl, rfl⟩ := hk
  exact hd

theorem und_struct {t sz by_ : Nat} {fs : List (Nat × Nat)} {z : PV} (h : TIOk P t ⟨.struct fs, sz, by_, z⟩) : ∃ gs : Array Field, P.underlying t = some (.struct gs) ∧ fs = gs.toList.map fun f => (f.offset, f.type) := by
  obtain ⟨d, hd, hk⟩ := h.und
  cases d <;> simp [TDOk] at hk
  exact ⟨_, hd, hk⟩

theorem indexAddr_sound (hT : TabOK P tab) (h : SRel P F om a w S) {o : Oper} (hd : ∀ t, o.dst = some t → t < F.n) {t : Nat} {x ix : Operand} (ho : o.op = .indexAddr t x ix) {c : Prop} {f : Fx}
    (he : evIndexAddr tab t (opnd S x) (opnd S ix) = .go c f) (hc : c) : StepOK P F o a w (ap o.dst S f) := by
  have hx := opnd_VR h x
  have hi := opnd_VR h ix
  unfold evIndexAddr at he
  split at he
  · rename_i e sz by_ z e' tg xs k n hti hop hoi
    split at he
    case h_2 => cases he
    rename_i ie hei
    obtain ⟨rfl, rfl⟩ := Ev.go.inj he
    obtain ⟨rfl, h0, h1⟩ := hc
    rw [hop] at hx
    rw [hoi] at hi
    have hu := und_slice (hT t _ hti)
    have hiv := hi.int_inv
    have hne : xs ≠ [] := fun hh => by simp [hh] at h1; omega
    have hn : n.toNat < xs.length := by omega
    generalize hev : a.eval x = v at hx
    have fin : ∀ {p : PV} {b ob cap : Nat}, v = .slice (some ⟨b, ob, none⟩) xs.length cap → VR P F.I0 F.base om w p (.pointer (some ⟨b, ob + n.toNat * P.cellsOf e' + 0, none⟩)) → StepOK P F o a w (S.put o.dst p) := by
      intro p b ob cap h2 h3
      refine step_val h hd ?_ h3
      subst h2
      have hsz : (sizeOf e').run P w = .ok (P.cellsOf e') w := by
        rw [(hT e' _ hei).cellsOf]
        exact run_sizeOf (hT e' _ hei) w
      simp [execOp, ho, Instr.indexAt, hev, hiv, asIntOf, run_underlying hu, h0, h1, hsz, add_mk]
    cases tg with
    | own id =>
      rcases hx.sl_own with ⟨h4, _⟩ | ⟨b, cap, cur, hr, hb, hv, hrest⟩
      · exact absurd h4 hne
      · refine fin hv ?_
        have := VR.epo (P := P) (I0 := F.I0) (base := F.base) (om := om) (w := w) e' id xs n.toNat 0 b cap (.inr ⟨b, cap, cur, hr, hb, rfl, hrest⟩) hn
        simpa using this
    | ro =>
      have hR := hx.sl_pure (fun id h => by cases h)
      obtain ⟨p, cap, g, o', fs, hv, ht, hc', hm, hp, hz, hF, hl⟩ := hR.sl_inv
      rw [(hp hne).1] at hv
      subst hv
      exact fin rfl (.epr e' .ro xs n.toNat 0 g o' cap hR hn)
    | full =>
      have hR := hx.sl_pure (fun id h => by cases h)
      obtain ⟨p, cap, g, o', fs, hv, ht, hc', hm, hp, hz, hF, hl⟩ := hR.sl_inv
      rw [(hp hne).1] at hv
      subst hv
      exact fin rfl (.epr e' .full xs n.toNat 0 g o' cap hR hn)
  · rename_i m e sz by_ z id off k n hti hop hoi
    split at he
    · rename_i i hei
      obtain ⟨rfl, rfl⟩ := Ev.go.inj he
      obtain ⟨h0, h1⟩ := hc
      rw [hop] at hx
      rw [hoi] at hi
      have hu := und_array (hT t _ hti)
      have hiv := hi.int_inv
      obtain ⟨b, hr, hb, hv⟩ := hx.ptr_inv
      refine step_val h hd ?_ (.ptr id (off + n.toNat * i.size) b hr hb)
      simp [execOp, ho, Instr.indexAt, Instr.sureAddr, hv, hiv, asIntOf, run_underlying hu, h0, h1, run_sizeOf (hT e i hei), add_mk]
    · cases he
  · cases he

end
end
end Go.Proofs.Ytcahjpkmldmjdaa.Ab
