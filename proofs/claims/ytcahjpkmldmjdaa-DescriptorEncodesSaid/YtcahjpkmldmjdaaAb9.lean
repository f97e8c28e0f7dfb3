/-
  Abstract values for walks without memory: the operations are sound, fifth part: append, literals, make, cuts.
-/
import Derived.Test.YtcahjpkmldmjdaaAb8
namespace Go.Proofs.Ytcahjpkmldmjdaa.Ab
open Go

section
variable {P : Program} {tab : Tab} {F : Fr} {om : Id → Option Nat} {a : Act} {w : World} {S : St}

/-- The core of an append: what it is appended to is of cells that are the call's own, or nothing. -/
theorem append_core (h : SRel P F om a w S) {σ : Id → Sub} {rid : Id} (hrid : rid.isRow = true) (hσb : ∀ i, i.isRow = false → σ i = .keep)
    (hσ : ∀ i, σ i = .keep ∨ σ i = .frz ∨ σ i = .kill) (hσr : σ rid ≠ .keep) {t tx ty e : TypeId} {I : TypeInfo} {z : Value} (ht : P.underlying t = some (.slice e)) (hI : P.info? e = some I) (hz : I.zero = some z)
    (hzl : z.cells.size = I.size) (_hpos : 0 < I.size)
    {vs vx : Value} {xs ys : List PV} {news : List Value} (hsrc : Src P I.size tx vx ys.length news w) (hflat : Flat (RR P (Im F.I0 F.base om w) w) I.size ys news)
    (hown : (xs = [] ∧ ∃ p, vs = .slice p 0 0) ∨ ∃ id0, σ id0 = .kill ∧ OwnS P F.I0 F.base om w id0 e xs vs)
    (hb : (xs.length + ys.length) * I.bytes ≤ 140737488355328) (h63 : xs.length + ys.length ≤ 9223372036854775807) (d : Option Nat) (hd : ∀ t, d = some t → t < F.n) :
    ∃ v' w' om', (Builtin.append_ #[t, tx] ty #[vs, vx]).run P w = .ok v' w' ∧ SRel P F om' (a.put d v') w' (((S.sub σ).setH rid none).put d (.sl e (.own rid) (xs ++ ys))) := by
  have hce : P.cellsOf e = I.size := by simp [Program.cellsOf, hI]
  -- a row of its own, made
  have grown : ∀ (p : Option Addr) (sCap : Nat) (olds : List Value), Flat (RR P (Im F.I0 F.base om w) w) I.size xs olds → (Builtin.firstCells I.size xs.length (.slice p xs.length sCap)).run P w.drew = .ok olds.toArray w.drew →
      sCap < xs.length + ys.length → vs = .slice p xs.length sCap →
      ∃ v' w' om', (Builtin.append_ #[t, tx] ty #[vs, vx]).run P w = .ok v' w' ∧ SRel P F om' (a.put d v') w' (((S.sub σ).setH rid none).put d (.sl e (.own rid) (xs ++ ys))) := by
    intro p sCap olds hfo hold hlt hvs
    subst hvs
    have hrun := run_append_grow_src (P := P) w t tx ty e I z ht hI hz p xs.length sCap olds hold vx ys.length news hsrc hlt (by omega) (growslice_fits hlt hb)
    have hge := grownCap_ge w (xs.length + ys.length) sCap e
    have hcm : grownCap w (xs.length + ys.length) sCap e ≤ maxLen := grownCap_le_maxLen w _ sCap e (by simp only [maxLen]; omega)
    refine ⟨_, _, _, hrun, h.row (g := w.heap.size) hrid hσb hσ hσr (.inl rfl) (h.base_le _ (Nat.le_refl _)) ?_ ?_ ?_ (by exact ⟨rfl, rfl, rfl⟩) d hd _ _ (.own _ _ _ _ (.inr ⟨w.heap.size, _, _, hrid, ?_, ?_, ?_, hcm, heap_alloc_new w.drew _, ?_, ?_⟩))⟩
    · show w.heap.size < (w.heap.push _).size
      simp
    · show w.heap.size ≤ (w.heap.push _).size
      simp
    · intro b hb _
      exact heap_alloc_old w.drew _ hb
    · simp [omNext]
    · simp
    · simpa using hge
    · rw [hce]
      have h1 := hfo.len
      have h2 := hflat.len
      simp only [Array.size_append, List.size_toArray, List.length_append, size_zeroCells, hzl, h1, h2, ← Nat.add_mul]
      congr 1
      omega
    · rw [hce]
      have hEx := h.rowExt (w' := w.drew.alloc (.cells ((olds ++ news).toArray ++ Builtin.zeroCells z.cells (grownCap w (xs.length + ys.length) sCap e - (xs.length + ys.length))) e)) (g := w.heap.size) hrid hσb hσ hσr (.inl rfl)
        (by show w.heap.size ≤ (w.heap.push _).size; simp) (fun b hb _ => heap_alloc_old w.drew _ hb)
      have hff := (hfo.append hflat).mono fun y c hr => RR.mono P hEx.im hr
      have htk : (List.take ((xs ++ ys).length * I.size) ((olds ++ news).toArray ++ Builtin.zeroCells z.cells (grownCap w (xs.length + ys.length) sCap e - (xs.length + ys.length))).toList) = olds ++ news := by
        rw [Array.toList_append]
        have hl := (hfo.append hflat).len
        rw [← hl]
        exact List.take_left
      rw [htk]
      exact hff
  -- nothing is appended to nothing
  have nothing : ∀ p, xs = [] → vs = .slice p 0 0 → ∃ v' w' om', (Builtin.append_ #[t, tx] ty #[vs, vx]).run P w = .ok v' w' ∧ SRel P F om' (a.put d v') w' (((S.sub σ).setH rid none).put d (.sl e (.own rid) (xs ++ ys))) := by
    intro p hx hv
    subst hx
    subst hv
    by_cases hy : ys = []
    · subst hy
      refine ⟨_, w, _, run_append_nothing' t tx ty e I ht hI p 0 0 vx news hsrc (Nat.le_refl _), h.release hrid hσb hσ hσr d hd _ _ (.own _ _ _ _ (.inl ⟨rfl, p, rfl⟩))⟩
    · have hyl : 0 < ys.length := List.length_pos_iff.2 hy
      refine grown p 0 [] Flat.nil ?_ (by simpa using hyl) rfl
      cases p <;> simp [Builtin.firstCells, loadCells, loadCellsFrom]
  rcases hown with ⟨hx, p, hv⟩ | ⟨id0, hk, hown⟩
  · exact nothing p hx hv
  · rcases hown with ⟨hx, p, hv⟩ | ⟨b, cap, cur, hr, hb0, hv, hc, hm, hh, hs, hF⟩
    · exact nothing p hx hv
    · subst hv
      rw [hce] at hs hF
      have hbb : F.base b := by
        rcases h.loc id0 b hb0 with h1 | ⟨k, rfl⟩
        · exact h1
        · cases hr
      by_cases hroom : xs.length + ys.length ≤ cap
      · have hfit : xs.length * I.size + news.length ≤ cur.size := by rw [hflat.len, hs, ← Nat.add_mul]; exact Nat.mul_le_mul_right _ hroom
        have hrun := run_append_room_row (P := P) (w := w) t tx ty e I ht hI b xs.length cap cur hh vx ys.length news hsrc hroom hfit
        have hEx := h.rowExt (w' := w.setRow b (cur.toList.take (xs.length * I.size) ++ news ++ cur.toList.drop (xs.length * I.size + news.length)).toArray) (g := b) hrid hσb hσ hσr (.inr ⟨id0, hk, hb0⟩)
          (by simp) (fun k hkl hne => setRow_other w b k _ hne)
        refine ⟨_, _, _, hrun, h.row (g := b) hrid hσb hσ hσr (.inr ⟨id0, hk, hb0⟩) hbb ?_ ?_ ?_ (by exact ⟨rfl, rfl, rfl⟩) d hd _ _ (.own _ _ _ _ (.inr ⟨b, cap, _, hrid, ?_, ?_, ?_, hm, setRow_heap w b cur _ e (0, 0) hh, ?_, ?_⟩))⟩
        · rw [size_setRow]; exact h.lt id0 b hb0
        · simp
        · intro k _ hne
          exact setRow_other w b k _ hne
        · simp [omNext]
        · simp
        · simpa using hroom
        · rw [hce]
          simp only [List.size_toArray, List.length_append, List.length_take, List.length_drop, Array.length_toList]
          omega
        · rw [hce]
          have hff := (hF.append hflat).mono fun y c hr => RR.mono P hEx.im hr
          have hl := (hF.append hflat).len
          have htk : List.take ((xs ++ ys).length * I.size) (cur.toList.take (xs.length * I.size) ++ news ++ cur.toList.drop (xs.length * I.size + news.length)).toArray.toList = cur.toList.take (xs.length * I.size) ++ news := by
            rw [← hl]
            exact List.take_left
          rw [htk]
          exact hff
      · refine grown (some ⟨b, 0, none⟩) cap (cur.toList.take (xs.length * I.size)) hF ?_ (by omega) rfl
        refine run_firstCells_some (P := P) w.drew I.size xs.length ⟨b, 0, none⟩ xs.length cap _ hF.len ?_
        intro j v hj
        rw [add_mk, Nat.zero_add]
        rw [cell_of_row w.drew b j cur e (0, 0) (by exact hh)]
        rw [List.getElem?_take] at hj
        split at hj
        · simpa using hj
        · cases hj

theorem twoSub_form {id0 rid : Id} (h0 : id0.isRow = true) (hr : rid.isRow = true) : (∀ i, i.isRow = false → twoSub id0 .kill rid .frz i = .keep) ∧
    (∀ i, twoSub id0 .kill rid .frz i = .keep ∨ twoSub id0 .kill rid .frz i = .frz ∨ twoSub id0 .kill rid .frz i = .kill) ∧ twoSub id0 .kill rid .frz rid ≠ .keep ∧ twoSub id0 .kill rid .frz id0 = .kill := by
  refine ⟨fun i hi => ?_, fun i => ?_, ?_, ?_⟩
  · unfold twoSub
    split
    · rename_i e; rw [e, h0] at hi; cases hi
    · split
      · rename_i e; rw [e, hr] at hi; cases hi
      · rfl
  · unfold twoSub
    split
    · exact .inr (.inr rfl)
    · split
      · exact .inr (.inl rfl)
      · exact .inl rfl
  · unfold twoSub
    split
    · simp
    · simp
  · simp [twoSub]

theorem oneSub_form {rid : Id} (hr : rid.isRow = true) : (∀ i, i.isRow = false → oneSub rid .frz i = .keep) ∧
    (∀ i, oneSub rid .frz i = .keep ∨ oneSub rid .frz i = .frz ∨ oneSub rid .frz i = .kill) ∧ oneSub rid .frz rid ≠ .keep := by
  refine ⟨fun i hi => ?_, fun i => ?_, ?_⟩
  · unfold oneSub
    split
    · rename_i e; rw [e, hr] at hi; cases hi
    · rfl
  · unfold oneSub
    split
    · exact .inr (.inl rfl)
    · exact .inl rfl
  · simp [oneSub]

theorem append_sound (hT : TabOK P tab) (h : SRel P F om a w S) {o : Oper} (hd : ∀ t, o.dst = some t → t < F.n) {r k : Nat} {cl : Call} (ho : o.op = .call cl) (hb : cl.callee = .builtin .append) {c : Prop} {f : Fx}
    (he : evAppend tab r k S cl = .go c f) (hc : c) : StepOK P F o a w (ap o.dst S f) := by
  obtain ⟨callee, args, argTypes⟩ := cl
  simp only at hb
  subst hb
  unfold evAppend at he
  split at he
  case h_2 => cases he
  rename_i s x ts tx ha ht
  have ha' : args = #[s, x] := by simpa using congrArg List.toArray ha
  have ht' : argTypes = #[ts, tx] := by simpa using congrArg List.toArray ht
  subst ha'
  subst ht'
  split at he
  case h_2 => cases he
  rename_i e sz by_ z0 hts
  split at he
  case h_2 => cases he
  rename_i i hte
  have hu := und_slice (hT ts _ hts)
  obtain ⟨I, z, hI, hIs, hIb, hIz, hzr⟩ := (hT e i hte).info
  have hzl : z.cells.size = I.size := by rw [(hzr (fun _ => False) w).cellsLen, (hT e i hte).zlen, hIs]
  have hs := opndT_VR (tab := tab) h ts s
  have hx := opndT_VR (tab := tab) h tx x
  have hce : P.cellsOf e = I.size := by simp [Program.cellsOf, hI]
  -- both arms of the destination
  have fin : ∀ (σ : Id → Sub) (xs ys : List PV), (∀ i, i.isRow = false → σ i = .keep) → (∀ i, σ i = .keep ∨ σ i = .frz ∨ σ i = .kill) → σ (.row r k) ≠ .keep →
      ((xs = [] ∧ ∃ p, a.eval s = .slice p 0 0) ∨ ∃ id0, σ id0 = .kill ∧ OwnS P F.I0 F.base om w id0 e xs (a.eval s)) →
      (∃ news, Src P I.size tx (a.eval x) ys.length news w ∧ Flat (RR P (Im F.I0 F.base om w) w) I.size ys news) →
      (xs.length + ys.length) * i.bytes ≤ 140737488355328 → xs.length + ys.length ≤ 9223372036854775807 → 0 < i.size →
      StepOK P F o a w (((S.sub σ).setH (.row r k) none).put o.dst (.sl e (.own (.row r k)) (xs ++ ys))) := by
    intro σ xs ys h1 h2 h3 h4 h5 h6 h7 h8
    obtain ⟨news, hsrc, hfl⟩ := h5
    obtain ⟨v', w', om', hrun, hrel⟩ := append_core (ty := o.type) h (rid := .row r k) rfl h1 h2 h3 hu hI hIz hzl (by omega) hsrc hfl h4 (by rw [hIb]; exact h6) h7 o.dst hd
    refine ⟨om', v', w', .inl ?_, hrel⟩
    simp [execOp, ho, resolve, invoke, builtin, hrun]
  have src : ∀ (id : Option Id) (xs : List PV), (∀ i, i.isRow = false → appSub id (.row r k) i = .keep) → (∀ i, appSub id (.row r k) i = .keep ∨ appSub id (.row r k) i = .frz ∨ appSub id (.row r k) i = .kill) → appSub id (.row r k) (.row r k) ≠ .keep →
      ((xs = [] ∧ ∃ p, a.eval s = .slice p 0 0) ∨ ∃ id0, appSub id (.row r k) id0 = .kill ∧ OwnS P F.I0 F.base om w id0 e xs (a.eval s)) →
      evAppendTo tab (.row r k) i e tx id xs (opndT tab tx S x) = .go c f → StepOK P F o a w (ap o.dst S f) := by
    intro id xs h1 h2 h3 h4 he
    unfold evAppendTo at he
    split at he
    · rename_i e' tg ys hop
      rw [hop] at hx
      split at he
      case h_2 => cases he
      rename_i e2 sz2 by2 z2 htx
      have hux := und_slice (hT tx _ htx)
      have pureCase : (∀ id, tg ≠ .own id) → (.go (e' = e ∧ (xs.length + ys.length) * i.bytes ≤ 140737488355328 ∧ xs.length + ys.length ≤ 9223372036854775807 ∧ 0 < i.size) (.act (appSub id (.row r k)) (.row r k) none (.sl e (.own (.row r k)) (xs ++ ys))) : Ev) = .go c f → StepOK P F o a w (ap o.dst S f) := by
        intro htg he
        obtain ⟨rfl, rfl⟩ := Ev.go.inj he
        obtain ⟨rfl, h5, h6, h7⟩ := hc
        have := src_of_RR (hx.sl_pure htg) hux
        rw [hce] at this
        exact fin (appSub id (.row r k)) xs ys h1 h2 h3 h4 this h5 h6 h7
      cases tg with
      | own id => cases he
      | ro => exact pureCase (fun id h => by cases h) he
      | full => exact pureCase (fun id h => by cases h) he
    · rename_i b hop
      rw [hop] at hx
      split at he
      case h_2 => cases he
      rename_i sz2 by2 z2 htx
      have hux := und_str (hT tx _ htx)
      obtain ⟨rfl, rfl⟩ := Ev.go.inj he
      obtain ⟨h5, h6, h7⟩ := hc
      have hI1 : I.size = 1 := by omega
      have := src_of_str (w := w) (P := P) hux b (R := RR P (Im F.I0 F.base om w) w) (fun n => .int _ _)
      have hxe := hx.str_inv
      have hl : ((strNums b).map (PV.int .u8)).length = b.size := by simp [strNums]
      exact fin (appSub id (.row r k)) xs _ h1 h2 h3 h4 (by rw [hI1, hxe]; exact this) (by rw [hl]; exact h6) (by rw [hl]; exact h7) (by omega)
    · cases he
  split at he
  · rename_i e' id xs hop
    rw [hop] at hs
    split at he
    case isFalse => cases he
    rename_i hee
    obtain ⟨rfl, hrow⟩ := hee
    obtain ⟨t1, t2, t3, t4⟩ := twoSub_form (rid := .row r k) hrow rfl
    exact src (some id) xs t1 t2 t3 (.inr ⟨id, t4, hs.sl_own⟩) he
  · rename_i e' hop
    rw [hop] at hs
    obtain ⟨t1, t2, t3⟩ := oneSub_form (rid := .row r k) rfl
    obtain ⟨p, cap, g, o', fs, hv, ht', hc', hm, hp, hz', hF, hl⟩ := (hs.sl_pure (fun id h => by cases h)).sl_inv
    have hcap : cap = 0 := by
      rcases ht' with h | ⟨_, h⟩
      · cases h
      · simpa using h
    subst hcap
    exact src none [] t1 t2 t3 (.inl ⟨rfl, p, hv⟩) he
  · cases he

end
end Go.Proofs.Ytcahjpkmldmjdaa.Ab
