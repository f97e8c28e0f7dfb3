/-
  Abstract values for walks without memory: the operations are sound, third part: parts, slices, conversions, lengths.
-/
import Derived.Test.YtcahjpkmldmjdaaAb6
namespace Go.Proofs.Ytcahjpkmldmjdaa.Ab
open Go

section
variable {P : Program} {tab : Tab} {F : Fr} {om : Id → Option Nat} {a : Act} {w : World} {S : St}

/-- A part of an aggregate. -/
theorem run_part {t : Nat} {i : TI} (h : TIOk P t i) (w : World) (cs : List PV) (off : Nat) (vs : Array Value) (hlen : vs.size = cs.length) {p : PV} (hp : part i cs off = some p) :
    ∃ v, (Go.part t vs off).run P w = .ok v w ∧
      ((i.desc.agg = true ∧ ∃ us : Array Value, v = .agg us ∧ p = .agg ((cs.drop off).take i.size) ∧ us.toList = (vs.toList.drop off).take i.size ∧ off + i.size ≤ cs.length) ∨
       (i.desc.agg = false ∧ cs[off]? = some p ∧ vs.toList[off]? = some v)) := by
  unfold part at hp
  split at hp
  · rename_i ha
    split at hp
    · rename_i hle
      simp only [Option.some.injEq] at hp
      subst hp
      refine ⟨.agg (vs.extract off (off + i.size)), ?_, .inl ⟨ha, _, rfl, rfl, ?_, hle⟩⟩
      · simp only [Go.part, Sem.run_bind, run_isAgg h, Result.andThen_ok, ha, if_true, run_sizeOf h, Sem.run_pure]
      · simp [List.take_drop]
    · cases hp
  · rename_i ha
    have ha' : i.desc.agg = false := by simpa using ha
    have hlt := (List.getElem?_eq_some_iff.1 hp).1
    have hf : vs[off]? = some vs[off] := Array.getElem?_eq_getElem (by omega)
    refine ⟨vs[off], ?_, .inr ⟨ha', hp, by simp [hf]⟩⟩
    simp only [Go.part, Sem.run_bind, run_isAgg h, Result.andThen_ok, ha', Bool.false_eq_true, if_false, hf, Sem.run_pure]

theorem part_agg_VR {I0 : Nat → Prop} {base : Nat → Prop} {i : TI} {cs : List PV} {vs : Array Value} {off : Nat} {p : PV} {v : Value} (hx : VR P I0 base om w (.agg cs) (.agg vs))
    (h : (i.desc.agg = true ∧ ∃ us : Array Value, v = .agg us ∧ p = .agg ((cs.drop off).take i.size) ∧ us.toList = (vs.toList.drop off).take i.size ∧ off + i.size ≤ cs.length) ∨
       (i.desc.agg = false ∧ cs[off]? = some p ∧ vs.toList[off]? = some v)) : VR P I0 base om w p v := by
  obtain ⟨vs', heq, hn, hy, h1, hrel⟩ := hx.agg_inv
  cases heq
  exact part_VR (by simp [hn]) (fun j y c h2 h3 => ⟨hy j y h2, h1 j c (by simpa using h3), hrel j y c h2 (by simpa using h3)⟩) h

theorem field_sound (hT : TabOK P tab) (h : SRel P F om a w S) {o : Oper} (hd : ∀ t, o.dst = some t → t < F.n) {s fi : Nat} {x : Operand} (ho : o.op = .field s x fi) {c : Prop} {f : Fx}
    (he : evField tab s fi (opnd S x) = .go c f) : StepOK P F o a w (ap o.dst S f) := by
  have hx := opnd_VR h x
  unfold evField at he
  split at he
  case h_2 => cases he
  rename_i fs sz by_ z cs hti hop
  obtain ⟨gs, hu, hfs⟩ := und_struct (hT s _ hti)
  subst hfs
  split at he
  case h_2 => cases he
  rename_i off ft hf
  split at he
  case h_2 => cases he
  rename_i i hft
  split at he
  case h_2 => cases he
  rename_i p hp
  obtain ⟨_, rfl⟩ := Ev.go.inj he
  rw [List.getElem?_map] at hf
  cases hg : gs.toList[fi]? with
  | none => simp [hg] at hf
  | some g =>
    simp [hg] at hf
    obtain ⟨hgo, hgt⟩ := hf
    rw [hop] at hx
    obtain ⟨vs, hv, hn, _⟩ := hx.agg_inv
    rw [hv] at hx
    obtain ⟨v, hrun, hcase⟩ := run_part (hT ft i hft) w cs off vs hn.symm hp
    refine step_val h hd ?_ (part_agg_VR hx hcase)
    have hg' : gs[fi]? = some g := by simpa using hg
    simp [execOp, ho, Instr.field, run_underlying hu, hg', hv, asAgg, hgt, hgo, hrun]

theorem strAt_get {s : ByteArray} {n : Nat} (hn : n < s.size) : ∃ b, s[n]? = some b ∧ (b.toNat : Int) = strAt s n := by
  have hn' : n < s.data.toList.length := by
    have := hn
    rw [← ByteArray.size_data] at this
    simpa using this
  refine ⟨s[n], ?_, ?_⟩
  · exact getElem?_pos s n hn
  · unfold strAt
    rw [List.getElem?_eq_getElem hn']
    simp [ByteArray.getElem_eq_getElem_data]

theorem index_sound (hT : TabOK P tab) (h : SRel P F om a w S) {o : Oper} (hd : ∀ t, o.dst = some t → t < F.n) {t : Nat} {x ix : Operand} (ho : o.op = .index t x ix) {c : Prop} {f : Fx}
    (he : evIndex tab t (opnd S x) (opnd S ix) = .go c f) (hc : c) : StepOK P F o a w (ap o.dst S f) := by
  have hx := opnd_VR h x
  have hi := opnd_VR h ix
  unfold evIndex at he
  split at he
  · rename_i sz by_ z s k n hti hop hoi
    obtain ⟨rfl, rfl⟩ := Ev.go.inj he
    obtain ⟨h0, h1⟩ := hc
    rw [hop] at hx
    rw [hoi] at hi
    have hu := und_str (hT t _ hti)
    obtain ⟨b, hb, hbn⟩ := strAt_get (s := s) (n := n.toNat) (by omega)
    refine step_val (v := .int .u8 b.toNat) h hd ?_ (.pure _ _ (by rw [hbn]; exact .int _ _))
    simp [execOp, ho, Instr.index, hx.str_inv, hi.int_inv, asIntOf, run_underlying hu, h0, hb]
  · rename_i m e sz by_ z cs k n hti hop hoi
    split at he
    case h_2 => cases he
    rename_i i hei
    split at he
    case h_2 => cases he
    rename_i p hp
    obtain ⟨rfl, rfl⟩ := Ev.go.inj he
    obtain ⟨h0, h1⟩ := hc
    rw [hop] at hx
    rw [hoi] at hi
    have hu := und_array (hT t _ hti)
    obtain ⟨vs, hv, hn, _⟩ := hx.agg_inv
    rw [hv] at hx
    obtain ⟨v, hrun, hcase⟩ := run_part (hT e i hei) w cs _ vs hn.symm hp
    refine step_val h hd ?_ (part_agg_VR hx hcase)
    simp [execOp, ho, Instr.index, hv, hi.int_inv, asIntOf, run_underlying hu, h0, h1, run_sizeOf (hT e i hei), hrun]
  · cases he

theorem extract_sound (h : SRel P F om a w S) {o : Oper} (hd : ∀ t, o.dst = some t → t < F.n) {i : Nat} {x : Operand} (ho : o.op = .extract x i) {vs : List PV} {p : PV}
    (hx' : opnd S x = .tup vs) (hp : vs[i]? = some p) : StepOK P F o a w (S.put o.dst p) := by
  have hx := opnd_VR h x
  rw [hx'] at hx
  obtain ⟨us, hv, hn, hrel⟩ := hx.tup_inv
  have hlt := (List.getElem?_eq_some_iff.1 hp).1
  have hu : us[i]? = some us[i] := Array.getElem?_eq_getElem (by omega)
  refine step_val h hd ?_ (hrel i p _ hp hu)
  simp [execOp, ho, Instr.extract, hv, hu]

theorem isU8_num {y : PV} (h : y.isU8 = true) : y = .int .u8 y.num := by
  cases y <;> simp [PV.isU8] at h
  rename_i k n
  cases k <;> first | rfl | (simp at h)

/-- Bytes that stand one behind the other. -/
theorem bytes_RR {Im : Nat → Prop} {w : World} {e : TypeId} {g o : Nat} (ns : List Int) {cap : Nat} (hs : P.cellsOf e = 1) (hc : ns.length ≤ cap) (hm : cap ≤ maxLen) (hg : Im g)
    (hl : ∀ (j : Nat) (n : Int), ns[j]? = some n → w.cell? ⟨g, o + j, none⟩ = some (.int .u8 n)) : RR P Im w (.sl e .ro (ns.map (PV.int .u8))) (.slice (some ⟨g, o, none⟩) ns.length cap) := by
  have := RR.sl_mk P (Im := Im) (w := w) (e := e) (t := .ro) (xs := ns.map (PV.int .u8)) (p := some ⟨g, o, none⟩) (cap := cap) (g := g) (o := o) (fs := ns.map (Value.int .u8)) (.inl rfl) (by simpa using hc) hm
    (fun _ => ⟨rfl, hg⟩) (fun h => by simp at h) ?_ ?_
  · simpa using this
  · refine ⟨by simp [hs], ?_, ?_, ?_⟩
    · intro i x hx
      rw [List.getElem?_map] at hx
      cases hn : ns[i]? with
      | none => simp [hn] at hx
      | some n => simp [hn] at hx; subst hx; simp [PV.cells, hs]
    · intro i x j y hx hy
      rw [List.getElem?_map] at hx
      cases hn : ns[i]? with
      | none => simp [hn] at hx
      | some n =>
        simp [hn] at hx; subst hx
        cases j <;> simp [PV.cells] at hy
        subst hy; rfl
    · intro i x j y c hx hy hc
      rw [List.getElem?_map] at hx
      cases hn : ns[i]? with
      | none => simp [hn] at hx
      | some n =>
        simp [hn] at hx; subst hx
        cases j <;> simp [PV.cells] at hy
        subst hy
        rw [hs, Nat.mul_one, Nat.add_zero, List.getElem?_map, hn] at hc
        simp at hc; subst hc
        exact .int _ _
  · intro k c hk
    rw [List.getElem?_map] at hk
    cases hn : ns[k]? with
    | none => simp [hn] at hk
    | some n => simp [hn] at hk; subst hk; exact hl k n hn

theorem conv_sound (hT : TabOK P tab) (h : SRel P F om a w S) {o : Oper} (hd : ∀ t, o.dst = some t → t < F.n) {s d : Nat} {x : Operand} (ho : o.op = .convert s d x) {c : Prop} {f : Fx}
    (he : evConv tab s d (opnd S x) = .go c f) (hc : c) : StepOK P F o a w (ap o.dst S f) := by
  have hx := opnd_VR h x
  unfold evConv at he
  split at he
  · rename_i k sz by_ z k' n hti hop
    split at he
    case h_2 => cases he
    rename_i k2 sz2 by2 z2 hts
    obtain ⟨rfl, rfl⟩ := Ev.go.inj he
    rw [hop] at hx
    refine step_val h hd ?_ (.pure _ _ (.int _ _))
    simp [execOp, ho, convert, run_underlying (und_int (hT s _ hts)), run_underlying (und_int (hT d _ hti)), hx.int_inv, Conv.intToInt]
  · rename_i sz by_ z b hti hop
    split at he
    case h_2 => cases he
    rename_i sz2 by2 z2 hts
    obtain ⟨rfl, rfl⟩ := Ev.go.inj he
    rw [hop] at hx
    refine step_val h hd ?_ (.pure _ _ (.str _))
    simp [execOp, ho, convert, run_underlying (und_str (hT s _ hts)), run_underlying (und_str (hT d _ hti)), hx.str_inv]
  · rename_i sz by_ z e' tg xs hti hop
    split at he
    case h_2 => cases he
    rename_i e sz2 by2 z2 hts
    split at he
    case h_2 => cases he
    rename_i sz3 by3 z3 hte
    obtain ⟨rfl, rfl⟩ := Ev.go.inj he
    obtain ⟨rfl, hall⟩ := hc
    rw [hop] at hx
    have hus := und_slice (hT s _ hts)
    have hue := und_int (hT e' _ hte)
    have hud := und_str (hT d _ hti)
    have hsz1 : P.cellsOf e' = sz3 := (hT e' _ hte).cellsOf
    refine step_val (v := .string (mkStr (xs.map PV.num))) h hd ?_ (.pure _ _ (.str _))
    have key : ∃ p cap g o' fs, a.eval x = .slice p xs.length cap ∧ (xs ≠ [] → p = some ⟨g, o', none⟩) ∧ Flat (RR P (Im F.I0 F.base om w) w) (P.cellsOf e') xs fs ∧
        ∀ (k : Nat) (c : Value), fs[k]? = some c → w.cell? ⟨g, o' + k, none⟩ = some c := by
      have pureCase : (∀ id, tg ≠ .own id) → ∃ p cap g o' fs, a.eval x = .slice p xs.length cap ∧ (xs ≠ [] → p = some ⟨g, o', none⟩) ∧ Flat (RR P (Im F.I0 F.base om w) w) (P.cellsOf e') xs fs ∧
          ∀ (k : Nat) (c : Value), fs[k]? = some c → w.cell? ⟨g, o' + k, none⟩ = some c := fun htg => by
        obtain ⟨p, cap, g, o', fs, hv, ht, hc', hm, hp, hz, hF, hl⟩ := (hx.sl_pure htg).sl_inv
        exact ⟨p, cap, g, o', fs, hv, fun hne => (hp hne).1, hF, hl⟩
      cases tg with
      | ro => exact pureCase (fun id h => by cases h)
      | full => exact pureCase (fun id h => by cases h)
      | own id =>
        rcases hx.sl_own with ⟨rfl, p, hv⟩ | ⟨b, cap, cur, hr, hb, hv, hcl, hm, hh, hs, hF⟩
        · exact ⟨p, 0, 0, 0, [], hv, fun h => absurd rfl h, Flat.nil, fun k c h => by simp at h⟩
        · refine ⟨_, cap, b, 0, _, hv, fun _ => rfl, hF, ?_⟩
          intro k c hk
          rw [Nat.zero_add, cell_of_row w b k cur e' (0, 0) hh]
          rw [List.getElem?_take] at hk
          split at hk
          · simpa using hk
          · cases hk
    obtain ⟨p, cap, g, o', fs, hv, hp, hF, hl⟩ := key
    have hone : ∀ (i : Nat) (y : PV), xs[i]? = some y → y = .int .u8 y.num := fun i y hy => isU8_num (List.all_eq_true.1 hall y (List.mem_of_getElem? hy))
    have hstr : (Conv.bytesToString (.slice p xs.length cap)).run P w = .ok (.string (mkStr (xs.map PV.num))) w := by
      cases hxs : xs with
      | nil =>
        cases p with
        | none => simp [Conv.bytesToString, mkStr]
        | some ad => simpa [mkStr] using run_bytesToString (P := P) w ad 0 cap [] (by simp [loadCells, loadCellsFrom])
      | cons y ys =>
        have hne : xs ≠ [] := by rw [hxs]; simp
        have hp' := hp hne
        subst hp'
        rw [← hxs]
        refine run_bytesToString (P := P) w ⟨g, o', none⟩ xs.length cap (xs.map PV.num) ?_
        have hs1 : P.cellsOf e' = 1 := by
          have h0 : xs[0]? = some y := by rw [hxs]; rfl
          have := hF.sizes 0 y h0
          rw [hone 0 y h0] at this
          simpa [PV.cells] using this.symm
        have hfl : fs.length = xs.length := by rw [hF.len, hs1, Nat.mul_one]
        have hfs : fs = (xs.map PV.num).map (Value.int .u8) := by
          apply List.ext_getElem?
          intro k
          by_cases hk : k < xs.length
          · have h1 : fs[k]? = some fs[k] := List.getElem?_eq_getElem (by omega)
            have h2 : xs[k]? = some xs[k] := List.getElem?_eq_getElem hk
            rw [h1]
            simp only [List.getElem?_map, h2, Option.map_some]
            have h3 := hone k _ h2
            have hcell : (xs[k]).cells[0]? = some xs[k] := by rw [h3]; rfl
            have h4 := hF.rel k _ 0 _ fs[k] h2 hcell (by rw [hs1, Nat.mul_one, Nat.add_zero]; exact h1)
            rw [h3] at h4
            exact congrArg some h4.int_inv
          · rw [List.getElem?_eq_none (by omega), List.getElem?_eq_none (by simp; omega)]
        have := run_loadCells_list (P := P) w ⟨g, o', none⟩ fs (fun j v hj => by rw [add_mk]; exact hl j v hj)
        rw [hfl] at this
        rw [this, hfs]
    simp [execOp, ho, convert, run_underlying hus, run_underlying hud, run_underlying hue, hv, hstr]
  · rename_i e sz by_ z b hti hop
    split at he
    case h_2 => cases he
    rename_i sz2 by2 z2 hts
    split at he
    case h_2 => cases he
    rename_i sz3 by3 z3 hte
    obtain ⟨rfl, rfl⟩ := Ev.go.inj he
    rw [hop] at hx
    obtain ⟨hs1, hbl⟩ := hc
    have hs1' : P.cellsOf e = 1 := ((hT e _ hte).cellsOf).trans hs1
    have hrun := Lib.run_convert_string_bytes (P := P) w s d e b (und_str (hT s _ hts)) (und_slice (hT d _ hti)) (und_int (hT e _ hte))
    have hlen : ((strNums b).map (PV.int .u8)).length = b.size := by
      simp [strNums]
    refine ⟨om, .slice (some ⟨w.heap.size, 0, none⟩) b.size (grownCap w b.size 0 e), Lib.bytesWorld w e b, .inl ?_, ?_⟩
    · simp [execOp, ho, hx.str_inv, hrun]
    · refine h.grow (by rw [Lib.bytesWorld_size]; omega) (fun k hk => Lib.bytesWorld_at_old w e b k hk) ⟨rfl, rfl, rfl⟩ _ hd _ _ (.pure _ _ ?_)
      have := bytes_RR (P := P) (Im := Im F.I0 F.base om (Lib.bytesWorld w e b)) (w := Lib.bytesWorld w e b) (g := w.heap.size) (o := 0) (strNums b) (cap := grownCap w b.size 0 e) hs1' ?_ ?_ ?_ ?_
      · rw [show (strNums b).length = b.size by simp [strNums]] at this
        exact this
      · rw [show (strNums b).length = b.size by simp [strNums]]
        exact grownCap_ge w b.size 0 e
      · exact grownCap_le_maxLen w b.size 0 e (by simp only [maxLen]; omega)
      · refine ⟨.inr ⟨h.base_le _ (Nat.le_refl _), by rw [Lib.bytesWorld_size]; omega⟩, fun id hid => ?_⟩
        have := h.lt id _ hid
        omega
      · intro j n hj
        have hlt := (List.getElem?_eq_some_iff.1 hj).1
        rw [Nat.zero_add, Lib.bytesWorld_cell w e b j (by simpa [strNums] using hlt)]
        simp only [strNums, List.getElem?_map] at hj
        have hj2 : j < b.data.toList.length := by simpa [strNums] using hlt
        rw [List.getElem?_eq_getElem hj2] at hj
        simp only [Option.map_some, Option.some.injEq] at hj
        rw [← hj]
        simp [List.getD, List.getElem?_eq_getElem hj2]
  · cases he

theorem len_sound (hT : TabOK P tab) (h : SRel P F om a w S) {o : Oper} (hd : ∀ t, o.dst = some t → t < F.n) {cl : Call} (ho : o.op = .call cl) (hb : cl.callee = .builtin .len) {c : Prop} {f : Fx}
    (he : evLen tab S cl = .go c f) : StepOK P F o a w (ap o.dst S f) := by
  obtain ⟨callee, args, argTypes⟩ := cl
  simp only at hb
  subst hb
  unfold evLen at he
  split at he
  case h_2 => cases he
  rename_i x t ha ht
  have ha' : args = #[x] := by simpa using congrArg List.toArray ha
  have ht' : argTypes = #[t] := by simpa using congrArg List.toArray ht
  subst ha'
  subst ht'
  have hx := opndT_VR (tab := tab) h t x
  split at he
  · rename_i e sz by_ z e' tg xs hti hop
    obtain ⟨rfl, rfl⟩ := Ev.go.inj he
    rw [hop] at hx
    have hlen : ∃ p cap, a.eval x = .slice p xs.length cap := by
      cases tg with
      | own id => rcases hx.sl_own with ⟨rfl, p, hv⟩ | ⟨b, cap, cur, hr, hb, hv, _⟩ <;> exact ⟨_, _, hv⟩
      | ro => obtain ⟨p, cap, _, _, _, hv, _⟩ := (hx.sl_pure (fun id h => by cases h)).sl_inv; exact ⟨p, cap, hv⟩
      | full => obtain ⟨p, cap, _, _, _, hv, _⟩ := (hx.sl_pure (fun id h => by cases h)).sl_inv; exact ⟨p, cap, hv⟩
    obtain ⟨p, cap, hv⟩ := hlen
    refine step_val h hd ?_ (.pure _ _ (.int _ _))
    simp [execOp, ho, resolve, invoke, builtin, Builtin.len_, run_underlying (und_slice (hT t _ hti)), hv, goInt]
  · rename_i sz by_ z s hti hop
    obtain ⟨rfl, rfl⟩ := Ev.go.inj he
    rw [hop] at hx
    refine step_val h hd ?_ (.pure _ _ (.int _ _))
    simp [execOp, ho, resolve, invoke, builtin, Builtin.len_, run_underlying (und_str (hT t _ hti)), hx.str_inv, goInt]
  · rename_i n e sz by_ z hti
    obtain ⟨rfl, rfl⟩ := Ev.go.inj he
    refine step_val h hd ?_ (.pure _ _ (.int _ _))
    simp [execOp, ho, resolve, invoke, builtin, Builtin.len_, run_underlying (und_array (hT t _ hti)), goInt]
  · cases he

theorem minmax_sound (h : SRel P F om a w S) {o : Oper} (hd : ∀ t, o.dst = some t → t < F.n) {cl : Call} (ho : o.op = .call cl) {mx : Bool} (hb : cl.callee = .builtin (if mx then .max else .min)) {c : Prop} {f : Fx}
    (he : evMinMax mx S cl = .go c f) (hc : c) : StepOK P F o a w (ap o.dst S f) := by
  obtain ⟨callee, args, argTypes⟩ := cl
  simp only at hb
  subst hb
  unfold evMinMax at he
  split at he
  case h_2 => cases he
  rename_i x y ha
  have ha' : args = #[x, y] := by simpa using congrArg List.toArray ha
  subst ha'
  have hx := opnd_VR h x
  have hy := opnd_VR h y
  split at he
  · rename_i k p k' q hop hoq
    obtain ⟨rfl, rfl⟩ := Ev.go.inj he
    subst hc
    rw [hop] at hx
    rw [hoq] at hy
    refine step_val h hd ?_ (.pure _ _ (.int _ _))
    cases mx <;> simp [execOp, ho, resolve, invoke, builtin, Builtin.max_, Builtin.min_, Builtin.max2, Builtin.min2, hx.int_inv, hy.int_inv]
  · cases he

end
end Go.Proofs.Ytcahjpkmldmjdaa.Ab
