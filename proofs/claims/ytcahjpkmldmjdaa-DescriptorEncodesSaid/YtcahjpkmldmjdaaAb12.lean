/-
  Abstract values for walks without memory: the operations are sound, eighth part: cuts, variables, records.
-/
import Derived.Test.YtcahjpkmldmjdaaAb11
namespace Go.Proofs.Ytcahjpkmldmjdaa.Ab
open Go

section
variable {P : Program} {tab : Tab} {F : Fr} {om : Id → Option Nat} {a : Act} {w : World} {S : St}

theorem VR.cellsAll {I0 : Nat → Prop} {base : Nat → Prop} {y : PV} {v : Value} (h : VR P I0 base om w y v) (hl : y.live = true) :
    v.cells.size = y.cells.length ∧ ∀ (j : Nat) (z : PV) (c : Value), y.cells[j]? = some z → v.cells[j]? = some c → z.isCell = true ∧ c.oneCell' = true ∧ VR P I0 base om w z c := by
  have single : ∀ {y : PV} {v : Value}, VR P I0 base om w y v → y.cells = [y] → v.cells = #[v] → y.isCell = true → v.oneCell' = true →
      v.cells.size = y.cells.length ∧ ∀ (j : Nat) (z : PV) (c : Value), y.cells[j]? = some z → v.cells[j]? = some c → z.isCell = true ∧ c.oneCell' = true ∧ VR P I0 base om w z c := by
    intro y v h h1 h2 h3 h4
    rw [h1, h2]
    refine ⟨rfl, fun j z c hz hc => ?_⟩
    cases j with
    | zero => simp at hz hc; subst hz; subst hc; exact ⟨h3, h4, h⟩
    | succ j => simp at hz
  cases y with
  | agg cs =>
    obtain ⟨vs, rfl, hn, hy, h1, hrel⟩ := h.agg_inv
    exact ⟨by simpa [PV.cells, Value.cells] using hn.symm, fun j z c hz hc => ⟨hy j z hz, h1 j c hc, hrel j z c hz hc⟩⟩
  | dead => simp [PV.live] at hl
  | tup vs => simp [PV.live] at hl
  | int k n => have := h.int_inv; subst this; exact single h rfl rfl rfl rfl
  | bool b => have := h.bool_inv; subst this; exact single h rfl rfl rfl rfl
  | str b => have := h.str_inv; subst this; exact single h rfl rfl rfl rfl
  | nilp => cases h with | pure _ _ h' => cases h'; exact single (.pure _ _ .nilp) rfl rfl rfl rfl
  | nilf => cases h with | pure _ _ h' => cases h'; exact single (.pure _ _ .nilf) rfl rfl rfl rfl
  | nili => cases h with | pure _ _ h' => cases h'; exact single (.pure _ _ .nili) rfl rfl rfl rfl
  | sl e t xs =>
    have : ∃ p l c, v = .slice p l c := by
      cases t with
      | own id => rcases h.sl_own with ⟨_, p, hv⟩ | ⟨b, cap, cur, _, _, hv, _⟩ <;> exact ⟨_, _, _, hv⟩
      | ro => obtain ⟨p, cap, _, _, _, hv, _⟩ := (h.sl_pure (fun id h => by cases h)).sl_inv; exact ⟨_, _, _, hv⟩
      | full => obtain ⟨p, cap, _, _, _, hv, _⟩ := (h.sl_pure (fun id h => by cases h)).sl_inv; exact ⟨_, _, _, hv⟩
    obtain ⟨p, l, c, rfl⟩ := this
    exact single h rfl rfl rfl rfl
  | ep e t xs i j => obtain ⟨b, o, fs, hv, _⟩ := h.ep_inv; subst hv; exact single h rfl rfl rfl rfl
  | ptr id off => obtain ⟨b, _, _, hv⟩ := h.ptr_inv; subst hv; exact single h rfl rfl rfl rfl
  | rp cs off => obtain ⟨b, _, _, _, hv, _⟩ := h.rp_inv; subst hv; exact single h rfl rfl rfl rfl
  | fn f cs => obtain ⟨vs, hv, _⟩ := h.fn_inv; subst hv; exact single h rfl rfl rfl rfl

/-! ### cuts -/

theorem Flat.cut {R : PV → Value → Prop} {sz : Nat} {xs : List PV} {fs : List Value} (h : Flat R sz xs fs) (l n : Nat) (hl : l ≤ n) (hn : n ≤ xs.length) :
    Flat R sz ((xs.take n).drop l) ((fs.take (n * sz)).drop (l * sz)) := by
  have hlen := h.len
  have m1 := Nat.mul_le_mul_right sz hl
  have m2 := Nat.mul_le_mul_right sz hn
  have pick : ∀ (i : Nat) (x : PV), ((xs.take n).drop l)[i]? = some x → l + i < n ∧ xs[l + i]? = some x := by
    intro i x hx
    rw [List.getElem?_drop, List.getElem?_take] at hx
    split at hx
    · exact ⟨by assumption, hx⟩
    · cases hx
  refine ⟨?_, ?_, ?_, ?_⟩
  · simp only [List.length_drop, List.length_take, Nat.min_eq_left hn, Nat.sub_mul]
    omega
  · intro i x hx
    exact h.sizes _ x (pick i x hx).2
  · intro i x j y hx hy
    exact h.cell _ x j y (pick i x hx).2 hy
  · intro i x j y c hx hy hc
    obtain ⟨h1, h2⟩ := pick i x hx
    refine h.rel (l + i) x j y c h2 hy ?_
    rw [List.getElem?_drop, List.getElem?_take] at hc
    split at hc
    · rw [Nat.add_mul, Nat.add_assoc]
      exact hc
    · cases hc

theorem run_bound {y : Nat} {k : IntKind} {n : Int} {code : BoundsCode} (h0 : 0 ≤ n) (h1 : n ≤ y) (w : World) : (Instr.sliceBound (.int k n) y code).run P w = .ok n.toNat w := by
  simp [Instr.sliceBound, asIntOf, h0, h1]

theorem optInt_some {S : St} (h : SRel P F om a w S) {d : Int} {x : Option Operand} {n : Int} (hx : optInt S d x = some n) : (x = none ∧ n = d) ∨ ∃ y k, x = some y ∧ a.eval y = .int k n := by
  unfold optInt at hx
  split at hx
  · left; exact ⟨rfl, by simpa using hx.symm⟩
  · rename_i y
    split at hx
    · rename_i k m hop
      simp only [Option.some.injEq] at hx
      subst hx
      have := opnd_VR h y
      rw [hop] at this
      exact .inr ⟨y, k, rfl, this.int_inv⟩
    · cases hx

theorem run_bounds (h : SRel P F om a w S) {isSlice : Bool} {len cap : Nat} {lo hi mx : Option Operand} {l n m : Int} (hl : optInt S 0 lo = some l) (hn : optInt S len hi = some n) (hm : optInt S len mx = some m)
    (h0 : 0 ≤ l) (h1 : l ≤ n) (h2 : n ≤ m) (h3 : m ≤ len) (hcap : len ≤ cap) (hmx : mx.isSome = true → hi.isSome = true) :
    (Instr.sliceBounds isSlice len cap (lo.map a.eval) (hi.map a.eval) (mx.map a.eval)).run P w = .ok (l.toNat, n.toNat, if mx.isSome then m.toNat else cap) w := by
  rcases optInt_some h hm with ⟨rfl, hmm⟩ | ⟨ym, km, rfl, hvm⟩
  · rcases optInt_some h hn with ⟨rfl, hnn⟩ | ⟨yn, kn, rfl, hvn⟩
    · rcases optInt_some h hl with ⟨rfl, hll⟩ | ⟨yl, kl, rfl, hvl⟩
      · simp [Instr.sliceBounds, hnn, hll]
      · have hb := run_bound (P := P) (k := kl) (code := .sliceB) h0 (show l ≤ (len : Int) by omega) w
        simp [Instr.sliceBounds, hvl, hb, hnn]
    · have hb1 := fun code => run_bound (P := P) (k := kn) (code := code) (show 0 ≤ n by omega) (show n ≤ (cap : Int) by omega) w
      rcases optInt_some h hl with ⟨rfl, hll⟩ | ⟨yl, kl, rfl, hvl⟩
      · simp [Instr.sliceBounds, hvn, hb1, hll]
      · have hb := run_bound (P := P) (k := kl) (code := .sliceB) (y := n.toNat) h0 (by omega) w
        simp [Instr.sliceBounds, hvn, hvl, hb1, hb]
  · rcases optInt_some h hn with ⟨rfl, hnn⟩ | ⟨yn, kn, rfl, hvn⟩
    · simp at hmx
    · have hb2 := fun code => run_bound (P := P) (k := km) (code := code) (show 0 ≤ m by omega) (show m ≤ (cap : Int) by omega) w
      have hb1 := fun code => run_bound (P := P) (k := kn) (code := code) (y := m.toNat) (show 0 ≤ n by omega) (by omega) w
      rcases optInt_some h hl with ⟨rfl, hll⟩ | ⟨yl, kl, rfl, hvl⟩
      · simp [Instr.sliceBounds, hvm, hvn, hb1, hb2, hll]
      · have hb := run_bound (P := P) (k := kl) (code := .slice3C) (y := n.toNat) h0 (by omega) w
        simp [Instr.sliceBounds, hvm, hvn, hvl, hb1, hb2, hb]

theorem SRel.releaseExt (h : SRel P F om a w S) {σ : Id → Sub} {rid : Id} (hrid : rid.isRow = true) (hσb : ∀ i, i.isRow = false → σ i = .keep)
    (hσ : ∀ i, σ i = .keep ∨ σ i = .frz ∨ σ i = .kill) (hσr : σ rid ≠ .keep) : Ext P F.I0 F.base om w (omNext om σ rid none) w σ := by
  refine ⟨?_, ?_, ?_, ?_, ?_⟩
  · intro b hb
    refine ⟨⟨hb.1, ?_⟩, rfl⟩
    intro i hi
    rcases omNext_some hi with ⟨_, hi⟩ | ⟨_, _, hi⟩
    · cases hi
    · exact hb.2 i hi
  · intro id hr _ b hb
    have hne : id ≠ rid := fun e => by rw [e, hrid] at hr; cases hr
    rw [omNext_keep hne (hσb id hr)]
    exact hb
  · intro id _ hk b hb
    have hne : id ≠ rid := fun e => by subst e; exact hσr hk
    rw [omNext_keep hne hk]
    exact ⟨hb, rfl⟩
  · intro id hr hf b hb
    refine ⟨⟨.inr ⟨?_, h.lt id b hb⟩, ?_⟩, rfl⟩
    · rcases h.loc id b hb with h1 | ⟨k, rfl⟩
      · exact h1
      · cases hr
    · intro i hi
      rcases omNext_some hi with ⟨_, hi⟩ | ⟨_, hk, hi⟩
      · cases hi
      · have := h.inj i id b hi hb
        subst this
        rw [hf] at hk
        cases hk
  · intro id i x _ hu
    rcases hσ id with h1 | h1 | h1 <;> rw [h1] at hu <;> cases hu

/-- A cut of a slice that reads. -/
theorem RR.cut {Im : Nat → Prop} {w : World} {e : TypeId} {t t' : Tag} {xs : List PV} {p : Option Addr} {cap : Nat} (h : RR P Im w (.sl e t xs) (.slice p xs.length cap)) {l n m : Nat} (hl : l ≤ n) (hn : n ≤ m) (hm : m ≤ cap) (hnx : n ≤ xs.length)
    (ht : t' = .ro ∨ (t' = .full ∧ m = n)) :
    RR P Im w (.sl e t' ((xs.take n).drop l)) (.slice (if m = l then p else p.map (·.add (l * P.cellsOf e))) (n - l) (m - l)) := by
  obtain ⟨p', cap', g, o, fs, heq, ht0, hc, hmx, hp, hz, hF, hcl⟩ := h.sl_inv
  cases heq
  have hlen : ((xs.take n).drop l).length = n - l := by simp; omega
  have := RR.sl_mk P (Im := Im) (w := w) (e := e) (t := t') (xs := (xs.take n).drop l) (p := if m = l then p else p.map (·.add (l * P.cellsOf e))) (cap := m - l) (g := g) (o := o + l * P.cellsOf e)
    (fs := (fs.take (n * P.cellsOf e)).drop (l * P.cellsOf e)) ?_ ?_ ?_ ?_ ?_ (hF.cut l n hl hnx) ?_
  · rw [hlen] at this
    exact this
  · rcases ht with h1 | ⟨h1, h2⟩
    · exact .inl h1
    · exact .inr ⟨h1, by rw [hlen, h2]⟩
  · rw [hlen]; omega
  · omega
  · intro hne
    have hlt : l < n := by
      rcases Nat.lt_or_ge l n with h1 | h1
      · exact h1
      · exact absurd (List.eq_nil_of_length_eq_zero (by rw [hlen]; omega)) hne
    have hxne : xs ≠ [] := fun h => by simp [h] at hnx; omega
    have := hp hxne
    rw [if_neg (by omega), this.1]
    exact ⟨by simp [add_mk], this.2⟩
  · intro hnone
    have : p = none := by
      split at hnone
      · exact hnone
      · simpa using hnone
    have := hz this
    omega
  · intro k c hk
    rw [List.getElem?_drop, List.getElem?_take] at hk
    split at hk
    · have := hcl _ _ hk
      rw [Nat.add_assoc]
      exact this
    · cases hk

theorem slice_sound (hT : TabOK P tab) (h : SRel P F om a w S) {o : Oper} (hd : ∀ t, o.dst = some t → t < F.n) {t : Nat} {x : Operand} {lo hi mx : Option Operand} (ho : o.op = .slice t x lo hi mx) {c : Prop} {f : Fx}
    (he : evSlice tab t S (opnd S x) lo hi mx = .go c f) (hc : c) : StepOK P F o a w (ap o.dst S f) := by
  have hx := opnd_VR h x
  unfold evSlice at he
  split at he
  · rename_i e sz by_ z e' tg xs hti hop
    rw [hop] at hx
    have hu := und_slice (hT t _ hti)
    split at he
    case h_2 => cases he
    rename_i l n m ie hl hn hm hte
    have hsz := run_sizeOf (hT e ie hte) w
    have hce := (hT e ie hte).cellsOf
    -- how the operation runs
    have run : ∀ (p : Option Addr) (cap : Nat), a.eval x = .slice p xs.length cap → xs.length ≤ cap → 0 ≤ l → l ≤ n → n ≤ m → m ≤ xs.length → (mx.isSome = true → hi.isSome = true) →
        (execOp a.eval o).run P w = .ok (.value (.slice (if (if mx.isSome then m.toNat else cap) = l.toNat then p else p.map (·.add (l.toNat * P.cellsOf e))) (n.toNat - l.toNat) ((if mx.isSome then m.toNat else cap) - l.toNat))) w := by
      intro p cap hv hcap h0 h1 h2 h3 h4
      have hb := run_bounds (P := P) (isSlice := true) (cap := cap) h hl hn hm h0 h1 h2 h3 hcap h4
      simp [execOp, ho, Instr.sliceAt, Instr.slice, run_underlying hu, hv, hb, hsz, hce]
    have pureCase : (∀ id, tg ≠ .own id) → ∀ t', (t' = .ro ∨ (t' = .full ∧ ((mx.isSome = true ∧ n = m) ∨ (tg = .full ∧ n = xs.length ∧ mx.isSome = false)))) →
        (e' = e ∧ 0 ≤ l ∧ l ≤ n ∧ n ≤ m ∧ m ≤ xs.length ∧ (mx.isSome = true → hi.isSome = true)) → StepOK P F o a w (S.put o.dst (.sl e t' ((xs.take n.toNat).drop l.toNat))) := by
      intro htg t' ht' hc
      obtain ⟨rfl, h0, h1, h2, h3, h4⟩ := hc
      have hR := hx.sl_pure htg
      obtain ⟨p, cap, g, o', fs, hv, ht0, hcl, hmx, hp, hz, hF, hll⟩ := hR.sl_inv
      rw [hv] at hR
      refine step_val h hd (run p cap hv hcl h0 h1 h2 h3 h4) (.pure _ _ (RR.cut (t := tg) hR (by omega) ?_ ?_ (by omega) ?_))
      · split <;> omega
      · split <;> omega
      · rcases ht' with h5 | ⟨h5, h6 | ⟨h6, h7, h8⟩⟩
        · exact .inl h5
        · refine .inr ⟨h5, ?_⟩
          rw [if_pos h6.1, h6.2]
        · refine .inr ⟨h5, ?_⟩
          rw [if_neg (by rw [h8]; simp)]
          rcases ht0 with h9 | ⟨_, h9⟩
          · rw [h6] at h9; cases h9
          · omega
    cases tg with
    | own id =>
      obtain ⟨rfl, rfl⟩ := Ev.go.inj he
      obtain ⟨⟨rfl, h0, h1, h2, h3, h4⟩, hrow⟩ := hc
      obtain ⟨t1, t2, t3⟩ := oneSub_form hrow
      have E := h.releaseExt (σ := oneSub id .frz) hrow t1 t2 t3
      have hR : RR P (Im F.I0 F.base (omNext om (oneSub id .frz) id none) w) w (.sl e' .ro xs) (a.eval x) := hx.sl_own.frz E.im (fun hr b hb => E.frz id hr (by simp [oneSub]) b hb)
      obtain ⟨p, cap, g, o', fs, hv, ht0, hcl, hmx, hp, hz, hF, hll⟩ := hR.sl_inv
      rw [hv] at hR
      refine ⟨_, _, w, .inl (run p cap hv hcl h0 h1 h2 h3 h4), h.release hrow t1 t2 t3 o.dst hd _ _ (.pure _ _ (RR.cut hR (by omega) ?_ ?_ (by omega) (.inl rfl)))⟩
      · split <;> omega
      · split <;> omega
    | ro =>
      obtain ⟨rfl, rfl⟩ := Ev.go.inj he
      refine pureCase (fun id h => by cases h) _ ?_ hc
      by_cases hq : mx.isSome = true ∧ n = m
      · right; exact ⟨by simp [hq.1, hq.2], .inl hq⟩
      · left
        rw [if_neg]
        simp only [Bool.or_eq_true, Bool.and_eq_true, decide_eq_true_eq, reduceCtorEq, false_and, or_false]
        exact hq
    | full =>
      obtain ⟨rfl, rfl⟩ := Ev.go.inj he
      refine pureCase (fun id h => by cases h) _ ?_ hc
      by_cases hq : (mx.isSome = true ∧ n = m) ∨ (n = xs.length ∧ mx.isSome = false)
      · right
        refine ⟨?_, hq.imp id fun h => ⟨rfl, h⟩⟩
        rw [if_pos]
        simp only [Bool.or_eq_true, Bool.and_eq_true, decide_eq_true_eq, Bool.not_eq_true', true_and]
        exact hq
      · left
        rw [if_neg]
        simp only [Bool.or_eq_true, Bool.and_eq_true, decide_eq_true_eq, Bool.not_eq_true', true_and]
        exact hq
  · rename_i sz by_ z s hti hop
    rw [hop] at hx
    have hu := und_str (hT t _ hti)
    split at he
    case h_2 => cases he
    rename_i l n hl hn
    obtain ⟨rfl, rfl⟩ := Ev.go.inj he
    obtain ⟨rfl, h0, h1, h2⟩ := hc
    have hb := run_bounds (P := P) (isSlice := false) (cap := s.size) (mx := none) (m := s.size) h hl hn rfl h0 h1 h2 (Int.le_refl _) (Nat.le_refl _) (fun h => by simp at h)
    refine step_val h hd ?_ (.pure _ _ (.str _))
    have hb' : (Instr.sliceBounds false s.size s.size (lo.map a.eval) (hi.map a.eval) none).run P w = .ok (l.toNat, n.toNat, s.size) w := by simpa using hb
    simp [execOp, ho, Instr.sliceAt, Instr.slice, run_underlying hu, hx.str_inv, hb']
  · cases he

end
end Go.Proofs.Ytcahjpkmldmjdaa.Ab
