/-
  Abstract values for walks without memory: rules that the library's generic functions need; functions that come in; structs compared.
-/
import Derived.Test.YtcahjpkmldmjdaaAb31
import Derived.Lib.AppendZerosOnto
import Derived.Laws.StructEq
namespace Go.Proofs.Ytcahjpkmldmjdaa.Ab
open Go

def lZero {α : Type} (a : Int) (z : α) : Option (List α) := if 0 < a ∧ a ≤ 30000000000 then some (List.replicate a.toNat z) else none

theorem lZero_spec {α : Type} {a : Int} {z : α} {l : List α} (h : lZero a z = some l) : (0 < a ∧ a ≤ 30000000000) ∧ l = List.replicate a.toNat z := by
  unfold lZero at h
  split at h
  · cases h; exact ⟨by assumption, rfl⟩
  · cases h

/-- Values that are told whole. -/
inductive Conc : List PV → List Value → Prop
  | nil : Conc [] []
  | int {k : IntKind} {n : Int} {l : List PV} {m : List Value} (h : Conc l m) : Conc (.int k n :: l) (.int k n :: m)
  | bool {b : Bool} {l : List PV} {m : List Value} (h : Conc l m) : Conc (.bool b :: l) (.bool b :: m)
  | str {s : ByteArray} {l : List PV} {m : List Value} (h : Conc l m) : Conc (.str s :: l) (.string s :: m)

section
variable {P : Program} {tab : Tab}
variable {n : Nat} {N : St → Prop} {X : Nat → St → Prop} {R : St → Prop} {S T : St} {r k : Nat} {ops : Array Oper} {K : St → Prop} {l : List Oper}
variable {d : Nat} {op : Op} {ty : TypeId} {pos : String} {after : Array Edge} {g : Option (Nat × Bool)}
variable {α : Type} {f : α → PV}

theorem Conc.vals {I0 : Nat → Prop} {base : Nat → Prop} {om : Id → Option Nat} {w : World} {cs : List PV} {vs : List Value} (hc : Conc cs vs) : ∀ (us : List Value), cs.length = us.length → (∀ (j : Nat) (y : PV) (c : Value), cs[j]? = some y → us[j]? = some c → VR P I0 base om w y c) → us = vs := by
  induction hc with
  | nil => intro us h _; exact List.eq_nil_of_length_eq_zero h.symm
  | int h ih =>
    intro us hl hr
    cases us with
    | nil => simp at hl
    | cons u us =>
      have := (hr 0 _ u rfl rfl).int_inv
      subst this
      rw [ih us (by simpa using hl) fun j y c h1 h2 => hr (j + 1) y c (by simpa using h1) (by simpa using h2)]
  | bool h ih =>
    intro us hl hr
    cases us with
    | nil => simp at hl
    | cons u us =>
      have := (hr 0 _ u rfl rfl).bool_inv
      subst this
      rw [ih us (by simpa using hl) fun j y c h1 h2 => hr (j + 1) y c (by simpa using h1) (by simpa using h2)]
  | str h ih =>
    intro us hl hr
    cases us with
    | nil => simp at hl
    | cons u us =>
      have := (hr 0 _ u rfl rfl).str_inv
      subst this
      rw [ih us (by simpa using hl) fun j y c h1 h2 => hr (j + 1) y c (by simpa using h1) (by simpa using h2)]

theorem Conc.agg {I0 : Nat → Prop} {base : Nat → Prop} {om : Id → Option Nat} {w : World} {cs : List PV} {vs : List Value} {v : Value} (hc : Conc cs vs) (h : VR P I0 base om w (.agg cs) v) : v = .agg vs.toArray := by
  obtain ⟨us, rfl, hn, _, _, hr⟩ := h.agg_inv
  have := hc.vals us.toList (by simpa using hn) fun j y c h1 h2 => hr j y c h1 (by simpa using h2)
  rw [← this]

/-- Structs compared, whose cells are told whole. -/
theorem Wr.eqV {t : Nat} {x y : Operand} {s : Nat} {bo : BinOp} {cs ds : List PV} {vs us : List Value} {b : Bool} (hcs : Conc cs vs) (hds : Conc ds us)
    (hrun : ∀ w, (do eqGuard bo t x y (.agg vs.toArray) (.agg us.toArray); binOp bo t (.agg vs.toArray) (.agg us.toArray) : Sem Value).run P w = .ok (.bool b) w)
    (h : Wr P tab n r ops (k + 1) l K (S.set d (.bool b))) (hg : runs ops S g = some true := by rfl) (hx : opnd S x = .agg cs := by rfl) (hy : opnd S y = .agg ds := by rfl) : Wr P tab n r ops k (⟨some d, .binOp bo t x y s, ty, pos, after, g⟩ :: l) K S := by
  refine .stepS (S' := S.put (some d) (.bool b)) hg (fun hT F om a w hr hd => step_val hr hd ?_ (.pure _ _ (.bool _))) h
  have h1 := opnd_VR hr x
  rw [hx] at h1
  have h2 := opnd_VR hr y
  rw [hy] at h2
  have e1 := hcs.agg h1
  have e2 := hds.agg h2
  simp only [execOp, e1, e2]
  have := hrun w
  simp only [Sem.run_bind, Sem.run_pure, this, Result.andThen_ok]

/-- A slice of no elements: a row of the call's own, of any name. -/
theorem Wr.litE (id : Id) {t : Nat} {e : Nat} {i : TI} {s1 b1 : Nat} {z1 : PV} (h : Wr P tab n r ops (k + 1) l K (S.set d (.sl e (.own id) []))) (hg : runs ops S g = some true := by rfl) (ht : tab t = some ⟨.slice e, s1, b1, z1⟩ := by rfl) (hi : tab e = some i := by rfl) :
    Wr P tab n r ops k (⟨some d, .buildSlice t 0 #[], ty, pos, after, g⟩ :: l) K S := by
  refine .stepS (S' := S.put (some d) (.sl e (.own id) [])) hg (fun hT F om a w hr hd => ?_) h
  obtain ⟨I, z, hI, hIs, hIb, hIz, hzr⟩ := (hT e i hi).info
  have hrun : (Instr.buildSlice t 0 #[]).run P w = .ok (.slice (some ⟨w.heap.size, 0, none⟩) 0 0) (w.alloc (.cells #[] e)) := by
    simp [Instr.buildSlice, run_underlying (und_slice (hT t _ ht)), sizeOf, typeInfo, hI, Instr.fill, newRow, Array.range_zero']
  refine ⟨om, .slice (some ⟨w.heap.size, 0, none⟩) 0 0, w.alloc (.cells #[] e), .inl ?_, hr.grow (w' := w.alloc (.cells #[] e)) (by show _ ≤ (w.heap.push _).size; simp) (fun b hb => heap_alloc_old w _ hb) (by exact ⟨rfl, rfl, rfl⟩) (some d) hd _ _ (.own _ _ _ _ (.inl ⟨rfl, _, rfl⟩))⟩
  simp [execOp, hrun]

/-- A struct is built. -/
theorem Wr.buildL {t : Nat} {parts : Array (Nat × Operand)} {fs pl : List (Nat × Nat)} {cs : List PV} {s1 b1 : Nat} {z1 : PV} (h : Wr P tab n r ops (k + 1) l K (S.set d (.agg cs))) (hg : runs ops S g = some true := by rfl) (ht : tab t = some ⟨.struct fs, s1, b1, z1⟩ := by rfl) (hp : placesA tab fs = some pl := by rfl) (hf : fillA pl z1.cells (partsA tab S fs parts.toList) = some cs := by rfl)
    (hl : ((partsA tab S fs parts.toList).all fun p => p.2.live) = true := by rfl) : Wr P tab n r ops k (⟨some d, .build t parts, ty, pos, after, g⟩ :: l) K S := by
  refine .val (c := ((partsA tab S fs parts.toList).all fun p => p.2.live) = true) (v := .agg cs) h hg ?_ hl
  simp only [ev, evBuild, ht, hp, hf]

/-- A variable is written. -/
theorem Wr.wrL {t : Nat} {x y : Operand} {id : Id} {off : Nat} {cs0 cs : List PV} {v : PV} {i : TI} (h : Wr P tab n r ops (k + 1) l K (S.setH id (some cs))) (hg : runs ops S g = some true := by rfl) (hx : opnd S x = .ptr id off := by rfl) (hH : S.H id = some cs0 := by rfl) (ht : tab t = some i := by rfl) (hv : opndT tab t S y = v := by rfl) (hcs : putCells cs0 off v.cells = cs := by rfl)
    (hlen : (decide (v.cells.length = i.size) && decide (off + i.size ≤ cs0.length) && v.live) = true := by rfl) : Wr P tab n r ops k (⟨none, .store t x y, ty, pos, after, g⟩ :: l) K S := by
  subst hcs
  simp only [Bool.and_eq_true, decide_eq_true_eq] at hlen
  refine .wr (c := v.cells.length = i.size ∧ off + i.size ≤ cs0.length ∧ v.live = true) (id := id) (cs := putCells cs0 off v.cells) h hg ?_ ⟨hlen.1.1, hlen.1.2, hlen.2⟩
  simp only [ev, hx, hv, evStore, ht, hH]

/-- cap of a slice without room. -/
theorem Wr.capN {c : Call} {x : Operand} {tx e : Nat} {xs : List PV} {s1 b1 : Nat} {z1 : PV} (h : Wr P tab n r ops (k + 1) l K (S.set d (.int .i64 (xs.length : Int)))) (hg : runs ops S g = some true := by rfl) (hc : c.callee = .builtin .cap := by rfl) (ha : c.args.toList = [x] := by rfl) (hat : c.argTypes.toList = [tx] := by rfl)
    (ht : tab tx = some ⟨.slice e, s1, b1, z1⟩ := by rfl) (hx : opndT tab tx S x = .sl e .full xs := by rfl) : Wr P tab n r ops k (⟨some d, .call c, ty, pos, after, g⟩ :: l) K S := by
  obtain ⟨callee, args, argTypes⟩ := c
  simp only at hc ha hat
  subst hc
  have ha' : args = #[x] := by simpa using congrArg List.toArray ha
  have hat' : argTypes = #[tx] := by simpa using congrArg List.toArray hat
  subst ha'
  subst hat'
  refine .stepS (S' := S.put (some d) (.int .i64 (xs.length : Int))) hg (fun hT F om a w hr hd => step_val hr hd ?_ (.pure _ _ (.int _ _))) h
  have h1 := opndT_VR (tab := tab) hr tx x
  rw [hx] at h1
  obtain ⟨p, cap, g', o, fs, hv, ht', hcl, hm, hp, hz, hF, hl⟩ := (h1.sl_pure (fun id h => by cases h)).sl_inv
  rcases ht' with h2 | ⟨_, h2⟩
  · cases h2
  · subst h2
    simp [execOp, resolve, invoke, builtin, Builtin.cap_, run_underlying (und_slice (hT tx _ ht)), hv, goInt]

/-- Nothing of nothing. -/
theorem Wr.sliceN {t : Nat} {x hi : Operand} {e : Nat} {kk : IntKind} {i : TI} {s1 b1 : Nat} {z1 : PV} (h : Wr P tab n r ops (k + 1) l K (S.set d (.sl e .full []))) (hg : runs ops S g = some true := by rfl) (ht : tab t = some ⟨.slice e, s1, b1, z1⟩ := by rfl) (hi' : tab e = some i := by rfl) (hx : opnd S x = .sl e .full [] := by rfl) (hhi : opnd S hi = .int kk 0 := by rfl) :
    Wr P tab n r ops k (⟨some d, .slice t x none (some hi) none, ty, pos, after, g⟩ :: l) K S := by
  refine .val (c := e = e ∧ (0 : Int) ≤ 0 ∧ (0 : Int) ≤ 0 ∧ (0 : Int) ≤ 0 ∧ (0 : Int) ≤ ((([] : List PV).length : Nat) : Int) ∧ ((none : Option Operand).isSome = true → (some hi).isSome = true)) (v := .sl e .full []) h hg ?_ ⟨rfl, by decide, by decide, by decide, by decide, fun h => by cases h⟩
  simp [ev, evSlice, ht, hx, optInt, hhi, hi']

/-- The beginning of a row of the call's own is the call's own. -/
theorem Wr.preO {t : Nat} {x hi : Operand} {e : Nat} {id : Id} {kk : IntKind} {b : Int} {xs zs : List α} {i : TI} {s1 b1 : Nat} {z1 : PV} (hz : lPart xs 0 b = some zs) (h : Wr P tab n r ops (k + 1) l K (S.set d (.sl e (.own id) (zs.map f)))) (hg : runs ops S g = some true := by rfl) (ht : tab t = some ⟨.slice e, s1, b1, z1⟩ := by rfl) (hi' : tab e = some i := by rfl) (hx : opnd S x = .sl e (.own id) (xs.map f) := by rfl) (hhi : opnd S hi = .int kk b := by rfl) :
    Wr P tab n r ops k (⟨some d, .slice t x none (some hi) none, ty, pos, after, g⟩ :: l) K S := by
  obtain ⟨⟨_, h0, hle⟩, rfl⟩ := lPart_spec hz
  simp only [Int.toNat_zero, List.drop_zero] at h
  refine .stepS (S' := S.put (some d) (.sl e (.own id) ((xs.take b.toNat).map f))) hg (fun hT F om a w hr hd => ?_) h
  have h1 := opnd_VR hr x
  rw [hx] at h1
  have h2 := opnd_VR hr hi
  rw [hhi] at h2
  have hhv := h2.int_inv
  have hu := und_slice (hT t _ ht)
  have hsz := run_sizeOf (hT e i hi') w
  have hce := (hT e i hi').cellsOf
  have hb : b.toNat ≤ xs.length := by omega
  have hlen : ((xs.take b.toNat).map f).length = b.toNat := by simp; omega
  have run : ∀ (p : Option Addr) (cap : Nat), a.eval x = .slice p (xs.map f).length cap → (xs.map f).length ≤ cap → (execOp a.eval ⟨some d, .slice t x none (some hi) none, ty, pos, after, g⟩).run P w = .ok (.value (.slice (if cap = 0 then p else p.map (·.add 0)) b.toNat cap)) w := by
    intro p cap hv hcap
    rw [List.length_map] at hcap
    have hbd := run_bounds (P := P) (isSlice := true) (len := (xs.map f).length) (cap := cap) (lo := none) (hi := some hi) (mx := none) (l := 0) (n := b) (m := ((xs.map f).length : Int)) hr rfl (by simp only [optInt, hhi]) rfl (by omega) (by omega) (by simpa using hle) (Int.le_refl _) (by simpa using hcap) (fun h => by cases h)
    simp at hbd
    simp [execOp, Instr.sliceAt, Instr.slice, run_underlying hu, hv, hbd, hsz]
  rcases h1.sl_own with ⟨hx0, p, hv⟩ | ⟨bk, cap, cur, hrw, hbk, hv, hcl, hm, hh, hs, hF⟩
  · have hx1 : xs = [] := by simpa using hx0
    subst hx1
    have hb0 : b.toNat = 0 := by simp at hb; omega
    refine step_val hr hd (run p 0 (by simpa using hv) (by simp)) (.own _ _ _ _ (.inl ⟨by simp, p, ?_⟩))
    simp [hb0]
  · have hadd : (⟨bk, 0, none⟩ : Addr).add 0 = ⟨bk, 0, none⟩ := add_mk bk 0 0
    refine step_val hr hd (run (some ⟨bk, 0, none⟩) cap hv hcl) (.own _ _ _ _ (.inr ⟨bk, cap, cur, hrw, hbk, ?_, ?_, hm, hh, hs, ?_⟩))
    · rw [hlen]; split <;> simp [hadd]
    · rw [hlen]; simp at hcl; omega
    · have := hF.cut 0 b.toNat (Nat.zero_le _) (by simpa using hb)
      simp only [List.drop_zero, Nat.zero_mul] at this
      rw [List.take_take] at this
      rw [List.map_take, List.length_take]
      rw [show min b.toNat (xs.map f).length = b.toNat by simp; omega]
      have e1 : min (b.toNat * P.cellsOf e) ((xs.map f).length * P.cellsOf e) = b.toNat * P.cellsOf e := Nat.min_eq_left (Nat.mul_le_mul_right _ (by simpa using hb))
      rw [e1] at this
      exact this

/-- append(nil, make(k) ..): zeros. -/
theorem Wr.appZ {c : Call} {s x : Operand} {ts tn e : Nat} {i : TI} {a0 : Int} {kn kk : IntKind} {z : α} {zs : List α} {s1 b1 s2 b2 : Nat} {z1 z2 : PV} (hz : lZero a0 z = some zs) (h : Wr P tab n r ops (k + 1) l K (((S.sub (oneSub (.row r k) .frz)).setH (.row r k) none).set d (.sl e (.own (.row r k)) (zs.map f))))
    (hg : runs ops S g = some true := by rfl) (hc : c.callee = .builtin .append := by rfl) (ha : c.args.toList = [s, x] := by rfl) (hat : c.argTypes.toList = [ts, tn] := by rfl) (hts : tab ts = some ⟨.slice e, s1, b1, z1⟩ := by rfl) (htn : tab tn = some ⟨.int kn, s2, b2, z2⟩ := by rfl) (hi : tab e = some i := by rfl)
    (hs : opndT tab ts S s = .sl e .full [] := by rfl) (hx : opnd S x = .int kk a0 := by rfl) (hsz : (decide (0 < i.size) && decide (i.bytes ≤ 4096)) = true := by rfl) (hfz : f z = i.zero := by rfl) :
    Wr P tab n r ops k (⟨some d, .call c, ty, pos, after, g⟩ :: l) K S := by
  obtain ⟨⟨hpos, hle⟩, rfl⟩ := lZero_spec hz
  simp only [Bool.and_eq_true, decide_eq_true_eq] at hsz
  obtain ⟨callee, args, argTypes⟩ := c
  simp only at hc ha hat
  subst hc
  have ha' : args = #[s, x] := by simpa using congrArg List.toArray ha
  have hat' : argTypes = #[ts, tn] := by simpa using congrArg List.toArray hat
  subst ha'
  subst hat'
  refine .stepS (S' := ((S.sub (oneSub (.row r k) .frz)).setH (.row r k) none).put (some d) (.sl e (.own (.row r k)) ((List.replicate a0.toNat z).map f))) hg (fun hT F om a w hr hd => ?_) h
  obtain ⟨I, zv, hI, hIs, hIb, hIz, hzr⟩ := (hT e i hi).info
  have hce : P.cellsOf e = i.size := (hT e i hi).cellsOf
  have h1 := opndT_VR (tab := tab) hr ts s
  rw [hs] at h1
  obtain ⟨p, cap, g', o, fs, hv, ht', hcl, hm, hp, hz', hF, hl⟩ := (h1.sl_pure (fun id h => by cases h)).sl_inv
  have hcap : cap = 0 := by
    rcases ht' with h2 | ⟨_, h2⟩
    · cases h2
    · exact h2
  subst hcap
  have h2 := opnd_VR hr x
  rw [hx] at h2
  have hxv := h2.int_inv
  have hk : ((a0.toNat : Nat) : Int) = a0 := Int.toNat_of_nonneg (by omega)
  have hkp : 0 < a0.toNat := by omega
  have hby : a0.toNat * I.bytes ≤ 122880000000000 := by
    have := Nat.mul_le_mul (show a0.toNat ≤ 30000000000 by omega) (show I.bytes ≤ 4096 by rw [hIb]; exact hsz.2)
    omega
  have hold : (Builtin.firstCells I.size 0 (.slice p 0 0)).run P w.drew = .ok ([] : List Value).toArray w.drew := by
    cases p <;> simp [Builtin.firstCells, loadCells, loadCellsFrom]
  have hrun := Lib.run_append_grow_zeros (P := P) w ts tn ty e I zv kk kn (und_slice (hT ts _ hts)) (und_int (hT tn _ htn)) hI hIz p 0 0 [] hold a0.toNat hkp (by rw [hIs]; exact hsz.1) (by omega) (by omega) (by omega) (growslice_fits (by omega) (by rw [Nat.zero_add]; omega))
  rw [Nat.zero_add, hk] at hrun
  obtain ⟨t1, t2, t3⟩ := oneSub_form (rid := .row r k) rfl
  have hzs : zv.cells.size = i.size := by rw [(hzr (fun _ => False) w).cellsLen, (hT e i hi).zlen]
  have hge := grownCap_ge w a0.toNat 0 e
  have hcm : grownCap w a0.toNat 0 e ≤ maxLen := grownCap_le_maxLen w a0.toNat 0 e (by simp only [maxLen]; omega)
  have hdrew : SRel P F om a w.drew S := by
    have := hr.grow (w' := w.drew) (Nat.le_refl _) (fun _ _ => rfl) ⟨rfl, rfl, rfl⟩ none (fun t h => by cases h) .dead undef (.dead _)
    exact this
  generalize hcells : (([] : List Value).toArray ++ Builtin.zeroCells zv.cells a0.toNat ++ Builtin.zeroCells zv.cells (grownCap w a0.toNat 0 e - a0.toNat)) = cells at hrun
  have hcs : cells.size = grownCap w a0.toNat 0 e * P.cellsOf e := by
    rw [← hcells]
    simp only [Array.size_append, List.size_toArray, List.length_nil, size_zeroCells, hzs, hce, Nat.zero_add, ← Nat.add_mul]
    congr 1
    omega
  have hzc := (hzr (Im F.I0 F.base (omNext om (oneSub (.row r k) .frz) (.row r k) (some w.drew.heap.size)) (w.drew.alloc (.cells cells e))) (w.drew.alloc (.cells cells e))).cellsRel
  have hfin := newRow_core (xs := List.replicate a0.toNat i.zero) (cap := grownCap w a0.toNat 0 e) hdrew (rid := .row r k) rfl t1 t2 t3 (by simpa using hge) hcm hcs ?_ (some d) hd
  · rw [List.length_replicate] at hfin
    refine ⟨omNext om (oneSub (.row r k) .frz) (.row r k) (some w.drew.heap.size), .slice (some ⟨w.heap.size, 0, none⟩) a0.toNat (grownCap w a0.toNat 0 e), w.drew.alloc (.cells cells e), .inl ?_, ?_⟩
    · have hv0 : a.eval s = .slice p 0 0 := hv
      simp [execOp, resolve, invoke, builtin, hxv, hv0, hrun]
    · rw [List.map_replicate, hfz]
      exact hfin
  · rw [hce, List.length_replicate]
    have hfl := flat_replicate (R := RR P (Im F.I0 F.base (omNext om (oneSub (.row r k) .frz) (.row r k) (some w.drew.heap.size)) (w.drew.alloc (.cells cells e))) (w.drew.alloc (.cells cells e))) ((hT e i hi).zlen) hzs hsz.1 hzc.1 hzc.2 a0.toNat a0.toNat (Nat.le_refl _)
    have e1 : (cells.toList.take (a0.toNat * i.size)) = (madeCells zv.cells (a0.toNat * i.size)).toList.take (a0.toNat * i.size) := by
      rw [← hcells]
      simp only [Array.toList_append, List.nil_append]
      have hl0 : (Builtin.zeroCells zv.cells a0.toNat).toList.length = a0.toNat * i.size := by rw [Array.length_toList, size_zeroCells, hzs]
      rw [List.take_append_of_le_length (by omega), ← hl0, List.take_length]
      have : madeCells zv.cells (a0.toNat * i.size) = Builtin.zeroCells zv.cells a0.toNat := by
        rw [← hzs]; rfl
      rw [hl0, this, ← hl0, List.take_length]
    rw [e1]
    exact hfl

/-! ### functions that come in, and the variables that they hold -/

def CapOK (q : List PV) (hp : List (Id × List PV)) : Bool :=
  decide (hp.map (·.1) = (List.range hp.length).map Id.par) && hp.all (fun x => (PV.idss x.2).isEmpty) && (PV.idss q).all (fun i => (hp.map (·.1)).contains i)

theorem imp_opq {l : List (Nat × PV)} {hp : List (Id × List PV)} (h1 : EqW P S l) (h2 : S.H = lookH hp) : Imp P S (St.of l hp) := by
  intro F om a w h
  refine ⟨om, h.size, h.defers, fun t => h1.vr (h.env t), fun id cs hc => h.box id cs ?_, h.inj, h.lt, h.loc, h.par, h.i0, h.base_le, h.frame, h.outer⟩
  rw [h2]
  exact hc

theorem look_mem {hp : List (Id × List PV)} {id : Id} {cs : List PV} (h : lookH hp id = some cs) : (id, cs) ∈ hp := by
  induction hp with
  | nil => cases h
  | cons x l ih =>
    obtain ⟨i, d⟩ := x
    unfold lookH at h
    split at h
    · rename_i e; subst e; cases h; exact .head _
    · exact .tail _ (ih h)

theorem capKey {q : List PV} {hp : List (Id × List PV)} (h : CapOK q hp = true) {id : Id} (hm : id ∈ hp.map (·.1)) : ∃ k, id = .par k ∧ k < hp.length ∧ (hp.map (·.1))[k]? = some id := by
  simp only [CapOK, Bool.and_eq_true, decide_eq_true_eq] at h
  rw [h.1.1] at hm ⊢
  obtain ⟨k, hk, rfl⟩ := List.mem_map.1 hm
  have hk := List.mem_range.1 hk
  exact ⟨k, rfl, hk, by simp [hk]⟩

theorem capCells {q : List PV} {hp : List (Id × List PV)} (h : CapOK q hp = true) {id : Id} {cs : List PV} (hl : lookH hp id = some cs) : PV.idss cs = [] := by
  simp only [CapOK, Bool.and_eq_true, decide_eq_true_eq] at h
  have := List.all_eq_true.1 h.1.2 _ (look_mem hl)
  simpa using this

theorem fin_opq {rs : List ResultVar} {ps : List PV} {res : PV} {q : List PV} {hp : List (Id × List PV)} (hq : CapOK q hp = true) (hH : S.H = lookH hp) (hps : resList tab S rs = some ps := by rfl) (he : (resPV ps).sub (endSub none) = res := by rfl) (hids : res.ids = [] := by rfl) : Fin tab rs res (lookH hp) S := by
  refine ⟨none, ps, (fun _ h => by cases h), hps, ?_, ?_, ?_⟩
  · intro id hid
    rw [he, hids] at hid
    cases hid
  · rw [he, PV.ren_noids _ _ hids]
  · intro id cs hc
    have hc0 := capCells hq hc
    obtain ⟨k, rfl, _, _⟩ := capKey hq (List.mem_map_of_mem (f := (·.1)) (look_mem hc))
    refine ⟨_, cs, .inl ⟨rfl, _, rfl⟩, by rw [hH]; exact hc, ?_, ?_⟩
    · rw [PV.subs_noids _ _ hc0, PV.rens_noids _ _ hc0]
    · intro i hi
      rw [PV.subs_noids _ _ hc0, hc0] at hi
      cases hi

theorem idxOf_get {α : Type} [DecidableEq α] : ∀ (l : List α) (k : Nat) (x : α), l.Nodup → l[k]? = some x → l.idxOf x = k
  | [], k, x, _, h => by simp at h
  | y :: l, 0, x, _, h => by simp at h; subst h; simp
  | y :: l, k + 1, x, hn, h => by
    have hn' := List.nodup_cons.1 hn
    simp at h
    have hne : y ≠ x := fun e => hn'.1 (e ▸ List.mem_of_getElem? h)
    have hb : (y == x) = false := by simpa using hne
    simp [List.idxOf_cons, hb, idxOf_get l k x hn'.2 h]

theorem PV.idss_append (l m : List PV) : PV.idss (l ++ m) = PV.idss l ++ PV.idss m := by
  induction l with
  | nil => rfl
  | cons c l ih => simp [PV.idss, ih]

/-- A call that is handed a function that came in. -/
theorem Wr.cQ {fn : Nat} {q args args' : List PV} {hp : List (Id × List PV)} {res : PV} (hC : Can P fn args' (lookH hp) res (lookH hp)) (hq : CapOK q hp = true) (hid : ∀ i ∈ PV.idss args', i ∈ PV.idss q) (h : Wr P tab n r ops (k + 1) l K (S.set d res)) (hH : S.H = lookH hp := by rfl) (hg : runs ops S g = some true := by rfl) (he : ev tab r k ⟨some d, op, ty, pos, after, g⟩ S = .call fn args := by rfl)
    (ha : PV.roDs args = args' := by rfl) (hr : res.ids = [] := by rfl) : Wr P tab n r ops k (⟨some d, op, ty, pos, after, g⟩ :: l) K S := by
  subst ha
  rw [PV.idss_roDs] at hid
  have hkeys : hp.map (·.1) = (List.range hp.length).map Id.par := by
    simp only [CapOK, Bool.and_eq_true, decide_eq_true_eq] at hq
    exact hq.1.1
  have hnd : (hp.map (·.1)).Nodup := by
    rw [hkeys]
    exact List.pairwise_map.2 (List.nodup_range.imp fun h e => h (by cases e; rfl))
  have hto : ∀ i ∈ hp.map (·.1), toPar (hp.map (·.1)) i = i := by
    intro i hi'
    obtain ⟨k', rfl, _, hk⟩ := capKey hq hi'
    unfold toPar
    rw [idxOf_get _ k' _ hnd hk]
  have hren : ∀ (p : PV), (∀ i ∈ p.ids, i ∈ hp.map (·.1)) → p.ren (toPar (hp.map (·.1))) = p := by
    intro p
    refine PV.rec (motive_1 := fun p => (∀ i ∈ p.ids, i ∈ hp.map (·.1)) → p.ren (toPar (hp.map (·.1))) = p) (motive_2 := fun l => (∀ i ∈ PV.idss l, i ∈ hp.map (·.1)) → PV.rens (toPar (hp.map (·.1))) l = l) ?_ ?_ ?_ ?_ ?_ ?_ ?_ ?_ ?_ ?_ ?_ ?_ ?_ ?_ ?_ ?_ p
    · intros; rfl
    · intros; rfl
    · intros; rfl
    · intros; rfl
    · intros; rfl
    · intros; rfl
    · intros; rfl
    · intro e t xs _ hx
      cases t with
      | own id => simp only [PV.ren, hto id (hx id (by simp [PV.ids]))]
      | _ => rfl
    · intro e t xs i j _ hx
      cases t with
      | own id => simp only [PV.ren, hto id (hx id (by simp [PV.ids]))]
      | _ => rfl
    · intro id off hx
      simp only [PV.ren, hto id (hx id (by simp [PV.ids]))]
    · intros; rfl
    · intro cs ih hx; simp only [PV.ren]; rw [ih (by simpa [PV.ids] using hx)]
    · intro cs ih hx; simp only [PV.ren]; rw [ih (by simpa [PV.ids] using hx)]
    · intro f cs ih hx; simp only [PV.ren]; rw [ih (by simpa [PV.ids] using hx)]
    · intros; rfl
    · intro c cs h1 h2 hx
      simp only [PV.idss, List.mem_append] at hx
      simp only [PV.rens, h1 (fun i hi => hx i (.inl hi)), h2 (fun i hi => hx i (.inr hi))]
  have hall : ∀ y ∈ args, ∀ i ∈ y.ids, i ∈ hp.map (·.1) := by
    intro y hy i hi'
    obtain ⟨j, hj⟩ := List.mem_iff_getElem?.1 hy
    have h1 := hid i (PV.idss_mem hj hi')
    simp only [CapOK, Bool.and_eq_true, List.all_eq_true] at hq
    have := hq.2 i h1
    simpa using this
  have hf : ∀ y, PV.sub (frzAll []) y = y := fun y => by rw [frzAll_nil, PV.sub_keep]
  have hfs : ∀ y, PV.subs (frzAll []) y = y := fun y => by rw [frzAll_nil, PV.subs_keep]
  have e1 : (args.map fun y => (y.sub (frzAll [])).ren (toPar (hp.map (·.1)))) = args := by
    conv => rhs; rw [← List.map_id args]
    exact List.map_congr_left fun y hy => by rw [hf, hren y (hall y hy)]; rfl
  refine .call hg he (CallA.of_can [] (hp.map (·.1)) none none (Hp := lookH hp) (res := res) (Hq := lookH hp) (by rw [e1]; exact Can.roD hC) (by simp) ?_ hnd (by simp) (by simp) ?_ ?_ (fun i hi => by rw [hr] at hi; cases hi) ?_ ?_)
  · intro i hi'
    obtain ⟨k', rfl, _, _⟩ := capKey hq hi'
    rfl
  · intro y hy i hi'
    rw [hf] at hi'
    exact hall y hy i hi'
  · intro id cs hc
    have hc0 := capCells hq hc
    obtain ⟨k', rfl, _, hk⟩ := capKey hq (List.mem_map_of_mem (f := (·.1)) (look_mem hc))
    refine ⟨k', .par k', cs, rfl, hk, by rw [hH]; exact hc, ?_, ?_⟩
    · rw [hfs, PV.rens_noids _ _ hc0]
    · rw [hfs, hc0]; simp
  · intro id cs hc i hi'
    rw [capCells hq hc] at hi'
    cases hi'
  · unfold afterCall
    have e2 : callSub [] none none = fun _ => .keep := by funext i; simp [callSub]
    have e3 : afterH S [] (hp.map (·.1)) none none (lookH hp) = S.H := by
      funext i
      unfold afterH
      rw [if_neg (by simp), e2]
      split
      · rename_i hi'
        obtain ⟨k', rfl, _, hk⟩ := capKey hq hi'
        rw [idxOf_get _ k' _ hnd hk, hH]
        cases hl : lookH hp (.par k') with
        | none => rfl
        | some cs => simp [PV.rens_noids _ _ (capCells hq hl)]
      · cases S.H i <;> simp [PV.subs_keep]
    rw [e2, e3, PV.ren_noids _ _ hr]
    have e4 : (⟨fun t => (S.env t).sub fun _ => .keep, S.H⟩ : St) = S := by
      cases S
      simp [PV.sub_keep]
    rw [e4]
    exact h

/-- A call of a function that came in. -/
theorem Wr.cF {fn : Nat} {q args args' : List PV} {hp : List (Id × List PV)} {res : PV} (hC : Can P fn (args' ++ q) (lookH hp) res (lookH hp)) (hq : CapOK q hp = true) (hq2 : PV.roDs q = q) (h : Wr P tab n r ops (k + 1) l K (S.set d res)) (hH : S.H = lookH hp := by rfl) (hg : runs ops S g = some true := by rfl) (he : ev tab r k ⟨some d, op, ty, pos, after, g⟩ S = .call fn (args ++ q) := by rfl)
    (ha : PV.roDs args = args' := by rfl) (hi : PV.idss args' = [] := by rfl) (hr : res.ids = [] := by rfl) : Wr P tab n r ops k (⟨some d, op, ty, pos, after, g⟩ :: l) K S := by
  refine .cQ hC hq ?_ h hH hg he ?_ hr
  · intro i hi'
    rw [PV.idss_append, hi] at hi'
    simpa using hi'
  · rw [PV.roDs_map, List.map_append, ← PV.roDs_map, ← PV.roDs_map, hq2, ha]

/-- A call whose arguments are told exactly, and whose result is a row of its own. -/
theorem Wr.cO0 (rid : Id) {f : Nat} {args : List PV} {res u : PV} (hC : Can P f args H0 res H0) (h : Wr P tab n r ops (k + 1) l K ((S.sub (frzKill [] rid)).set d u)) (hg : runs ops S g = some true := by rfl) (he : ev tab r k ⟨some d, op, ty, pos, after, g⟩ S = .call f args := by rfl) (hrid : rid.isRow = true := by rfl) (hi : PV.idss args = [] := by rfl) (hr : res.ids.all (fun i => decide (i = .rrow 0)) = true := by rfl) (hu : (res.ren fun _ => rid) = u := by rfl) : Wr P tab n r ops k (⟨some d, op, ty, pos, after, g⟩ :: l) K S := by
  subst hu
  have e1 : PV.subs (frzAll []) args = args := PV.subs_noids _ _ hi
  exact .callO [] rid hg he e1 hC rfl hrid hi hr h

end
end Go.Proofs.Ytcahjpkmldmjdaa.Ab
