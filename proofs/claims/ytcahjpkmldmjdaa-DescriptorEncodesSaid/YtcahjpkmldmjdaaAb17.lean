/-
  Abstract values for walks without memory: from a body to a contract, and from a contract to a call.
-/
import Derived.Test.YtcahjpkmldmjdaaAb16
namespace Go.Proofs.Ytcahjpkmldmjdaa.Ab
open Go

section
variable {P : Program} {tab : Tab} {F : Fr} {om : Id → Option Nat} {a : Act} {w : World} {S : St}

def resSem (tmps : Array Value) (r : ResultVar) : Sem Value := match r with
  | .tmp t => pure (tmps.getD t undef)
  | .cell x t => do loadVar t (← asAddr (tmps.getD x undef))

theorem results_eq (fn : Func) (tmps : Array Value) : results fn tmps = (do
    let vs ← fn.results.mapM (resSem tmps)
    pure (if h : vs.size = 1 then vs[0] else .tuple vs)) := by
  unfold results
  congr 2

theorem run_resList (hT : TabOK P tab) (h : SRel P F om a w S) : ∀ (rs : List ResultVar) (ps : List PV), resList tab S rs = some ps →
    ∃ vs : List Value, (rs.mapM (resSem a.tmps)).run P w = .ok vs w ∧ vs.length = ps.length ∧
      ∀ (j : Nat) (y : PV) (v : Value), ps[j]? = some y → vs[j]? = some v → VR P F.I0 F.base om w y v
  | [], ps, hr => by
    simp only [resList, Option.some.injEq] at hr
    subst hr
    exact ⟨[], by simp, rfl, fun j y v hj => by simp at hj⟩
  | r :: rs, ps, hr => by
    simp only [resList] at hr
    split at hr
    case h_2 => cases hr
    rename_i p ps' hp hps
    cases hr
    obtain ⟨vs, hrun, hl, hrel⟩ := run_resList hT h rs ps' hps
    have one : ∃ v, (resSem a.tmps r).run P w = .ok v w ∧ VR P F.I0 F.base om w p v := by
      cases r with
      | tmp t =>
        simp only [resOne, Option.some.injEq] at hp
        subst hp
        exact ⟨_, rfl, h.env t⟩
      | cell x t =>
        simp only [resOne] at hp
        split at hp
        case h_2 => cases hp
        rename_i i id off hti hop
        split at hp
        case h_2 => cases hp
        rename_i cs hcs
        have hx := h.env x
        rw [hop] at hx
        obtain ⟨b, hr, hb, hv⟩ := hx.ptr_inv
        obtain ⟨_, b', cur, T, hb', hh, hn, hrel'⟩ := h.box id cs hcs
        rw [hb] at hb'
        cases hb'
        obtain ⟨v, hrun, hcase⟩ := run_loadVar (hT t i hti) w b 0 cs off cur.toList (by simpa using hn) (fun k c hk => by
          rw [Nat.zero_add, cell_of_row w b k cur T (0, 0) hh]
          simpa using hk) hp
        rw [Nat.zero_add] at hrun
        refine ⟨v, ?_, part_VR (by simpa using hn) (fun j y c h1 h2 => hrel' j y c h1 (by simpa using h2)) hcase⟩
        simp only [resSem, hv, asAddr, Sem.run_bind, Sem.run_pure, Result.andThen_ok, hrun]
    obtain ⟨v, hv, hvr⟩ := one
    refine ⟨v :: vs, ?_, by simp [hl], ?_⟩
    · rw [List.mapM_cons]
      simp only [Sem.run_bind, hv, Result.andThen_ok, hrun, Sem.run_pure]
    · intro j y u hj hu
      cases j with
      | zero => simp at hj hu; subst hj; subst hu; exact hvr
      | succ j => exact hrel j y u (by simpa using hj) (by simpa using hu)

theorem run_results (hT : TabOK P tab) (h : SRel P F om a w S) {fn : Func} {ps : List PV} (hr : resList tab S fn.results.toList = some ps) :
    ∃ v, (results fn a.tmps).run P w = .ok v w ∧ VR P F.I0 F.base om w (resPV ps) v := by
  obtain ⟨vs, hrun, hl, hrel⟩ := run_resList hT h fn.results.toList ps hr
  have hm : (fn.results.mapM (resSem a.tmps)).run P w = .ok vs.toArray w := by
    rw [Array.mapM_eq_mapM_toList]
    simp only [Sem.run_map, hrun, Result.andThen_ok]
  rw [results_eq, Sem.run_bind, hm]
  simp only [Result.andThen_ok, Sem.run_pure]
  match ps, vs, hl with
  | [], [], _ => exact ⟨.tuple #[], by simp, .tup _ _ rfl (fun j y c h => by simp at h)⟩
  | [p], [v], _ => exact ⟨v, by simp, hrel 0 p v rfl rfl⟩
  | p :: q :: ps, v :: u :: vs, hl' =>
    refine ⟨.tuple (v :: u :: vs).toArray, by simp, .tup _ _ (by simpa using hl'.symm) ?_⟩
    intro j y c hj hc
    exact hrel j y c hj (by simpa using hc)

theorem endExt (h : WRel P F om w S.H) (keep : Option Id) : Ext P F.I0 F.base om w (fun i => match endSub keep i with
    | .keep => om i
    | _ => none) w (endSub keep) := by
  have hs : ∀ i b, (match endSub keep i with
    | .keep => om i
    | _ => none) = some b → om i = some b ∧ endSub keep i = .keep := by
    intro i b hi
    split at hi
    · rename_i hk; exact ⟨hi, hk⟩
    · cases hi
  refine ⟨?_, ?_, ?_, ?_, ?_⟩
  · intro b hb
    exact ⟨⟨hb.1, fun i hi => hb.2 i (hs i b hi).1⟩, rfl⟩
  · intro id hr hk b hb
    have : endSub keep id = .keep := by simp [endSub, hr]
    simp only [this]
    exact hb
  · intro id hr hk b hb
    refine ⟨?_, rfl⟩
    simp only [hk]
    exact hb
  · intro id hr hf b hb
    refine ⟨⟨.inr ⟨?_, h.lt id b hb⟩, ?_⟩, rfl⟩
    · rcases h.loc id b hb with h1 | ⟨k, rfl⟩
      · exact h1
      · cases hr
    · intro i hi
      obtain ⟨h1, h2⟩ := hs i b hi
      have := h.inj i id b h1 hb
      subst this
      rw [hf] at h2
      cases h2
  · intro id i x hr hu
    unfold endSub at hu
    rw [if_pos hr] at hu
    split at hu <;> cases hu

/-- The end of a body. -/
theorem fin_wrel (h : SRel P F om a w S) {rs : List ResultVar} {res : PV} {Hq : Id → Option (List PV)} (hT : TabOK P tab) {fn : Func} (hrs : rs = fn.results.toList) (hf : Fin tab rs res Hq S) :
    ∃ v om', (results fn a.tmps).run P w = .ok v w ∧ WRel P F om' w Hq ∧ VR P F.I0 F.base om' w res v := by
  obtain ⟨keep, ps, hkp, hps, hids, rfl, hbox⟩ := hf
  subst hrs
  obtain ⟨v, hrun, hv⟩ := run_results hT h hps
  have hE := endExt h.wrel keep
  have hv2 := VR.sub hE hv
  have hs : ∀ i b, (match endSub keep i with
    | .keep => om i
    | _ => none) = some b → om i = some b ∧ endSub keep i = .keep := by
    intro i b hi
    split at hi
    · rename_i hk; exact ⟨hi, hk⟩
    · cases hi
  have hnrow : ∀ j, keep = some j → endSub keep j = .keep := by
    intro j hj
    simp [endSub, hj]
  -- names of the end
  have him : ∀ b, Im F.I0 F.base (fun i => match endSub keep i with
      | .keep => om i
      | _ => none) w b → Im F.I0 F.base (omEnd om keep) w b ∧ w.heap[b]? = w.heap[b]? := by
    intro b hb
    refine ⟨⟨hb.1, fun i hi => ?_⟩, rfl⟩
    rcases omEnd_some hi with ⟨⟨k, rfl⟩, h1⟩ | ⟨j, hj, _, h1⟩
    · refine hb.2 (.par k) ?_
      have : endSub keep (.par k) = .keep := by simp [endSub, Id.isRow]
      simp only [this]
      exact h1
    · refine hb.2 j ?_
      simp only [hnrow j hj]
      exact h1
  have hname : ∀ id, (keep = some id ∨ ∃ k, id = .par k) → (endName keep id).isRow = id.isRow ∧ ∀ b, (match endSub keep id with
      | .keep => om id
      | _ => none) = some b → omEnd om keep (endName keep id) = some b ∧ w.heap[b]? = w.heap[b]? := by
    intro id hid
    rcases hid with hk | ⟨k, rfl⟩
    · refine ⟨?_, fun b hb => ⟨?_, rfl⟩⟩
      · unfold endName
        rw [if_pos hk]
        cases hr : id.isRow <;> simp [Id.isRow]
      · rw [omEnd_keep hk]
        exact (hs id b hb).1
    · have hne : keep ≠ some (.par k) := fun e => hkp _ e k rfl
      refine ⟨by simp [endName, hne], fun b hb => ⟨?_, rfl⟩⟩
      simp only [endName, if_neg hne]
      exact (hs _ b hb).1
  refine ⟨v, omEnd om keep, hrun, ⟨?_, ?_, ?_, ?_, ?_, h.i0, h.base_le, h.frame, h.outer⟩, VR.ren him hv2 fun id hid => hname id (hids id hid)⟩
  · intro id cs hcs
    obtain ⟨id0, cs0, hid0, hS, rfl, hci⟩ := hbox id cs hcs
    obtain ⟨hr, b, cur, T, hb, hh, hn, hrel⟩ := h.box id0 cs0 hS
    have hom : omEnd om keep id = some b ∧ id.isRow = false := by
      rcases hid0 with ⟨rfl, k, rfl⟩ | ⟨hk, rfl⟩
      · exact ⟨hb, rfl⟩
      · refine ⟨by rw [omEnd_keep hk]; exact hb, ?_⟩
        rw [(hname id0 (.inl hk)).1]; exact hr
    refine ⟨hom.2, b, cur, T, hom.1, hh, by rw [PV.rens_map, List.length_map, PV.subs_length]; exact hn, ?_⟩
    intro j y c hj hc
    obtain ⟨x, hx, rfl⟩ := PV.rens_get hj
    obtain ⟨x0, hx0, rfl⟩ := PV.subs_get hx
    obtain ⟨r1, r2, r3⟩ := hrel j x0 c hx0 hc
    exact ⟨PV.isCell_ren (PV.isCell_sub r1), r2, VR.ren him (VR.sub hE r3) fun id hid => hname id (hci id (PV.idss_mem hx hid))⟩
  · intro i j b hi hj
    rcases omEnd_some hi with ⟨hp1, h1⟩ | ⟨i', hi', rfl, h1⟩ <;> rcases omEnd_some hj with ⟨hp2, h2⟩ | ⟨j', hj', rfl, h2⟩
    · exact h.inj i j b h1 h2
    · have := h.inj i j' b h1 h2
      subst this
      obtain ⟨k, rfl⟩ := hp1
      exact absurd rfl (hkp _ hj' k)
    · have := h.inj i' j b h1 h2
      subst this
      obtain ⟨k, rfl⟩ := hp2
      exact absurd rfl (hkp _ hi' k)
    · rw [hi'] at hj'
      cases hj'
      rfl
  · intro i b hi
    rcases omEnd_some hi with ⟨_, h1⟩ | ⟨j, _, _, h1⟩
    · exact h.lt i b h1
    · exact h.lt j b h1
  · intro i b hi
    rcases omEnd_some hi with ⟨hp, _⟩ | ⟨j, hj, rfl, h1⟩
    · exact .inr hp
    · rcases h.loc j b h1 with h2 | ⟨k, rfl⟩
      · exact .inl h2
      · exact absurd rfl (hkp _ hj k)
  · intro k
    exact h.par k

/-- FROM A BODY TO A CONTRACT, told of the machine. -/
theorem can_of_body (hT : TabOK P tab) {f : Nat} {fn : Func} {c : Code} {args : List PV} {Hp : Id → Option (List PV)} {res : PV} {Hq : Id → Option (List PV)}
    (h1 : Calls1 P f) (hf : P.funcs[f]? = some fn) (hb : fn.body = some c) (hn : args.length ≤ fn.ntmps)
    (hw : (∀ y ∈ args, ∀ z ∈ y.cells, ∀ e t xs, z = .sl e t xs → xs.length ≤ 9223372036854775807) →
      ∀ (F : Fr) (om : Id → Option Nat) (a : Act) (w : World), F.n = fn.ntmps → SRel P F om a w ⟨fun t => args.getD t .dead, Hp⟩ → c.wp P (lift P F fun e S' => (∀ id, e ≠ .exit id) ∧ Fin tab fn.results.toList res Hq S') a w) : Can P f args Hp res Hq := by
  refine ⟨h1, ?_⟩
  intro F om w vs hbase hw0 hW hpar hlen hrel
  have lenOf : ∀ {y : PV} {v : Value}, VR P F.I0 F.base om w y v → ∀ e t xs, y = .sl e t xs → xs.length ≤ 9223372036854775807 := by
    intro y v hv e t xs hy
    subst hy
    have pureCase : (∀ id, t ≠ .own id) → xs.length ≤ 9223372036854775807 := fun ht => by
      obtain ⟨_, cap, _, _, _, _, _, hc, hm, _⟩ := (hv.sl_pure ht).sl_inv
      simp only [maxLen] at hm
      omega
    cases t with
    | own id =>
      rcases hv.sl_own with ⟨rfl, _⟩ | ⟨b, cap, cur, _, _, _, hc, hm, _⟩
      · simp
      · simp only [maxLen] at hm; omega
    | ro => exact pureCase (fun id h => by cases h)
    | full => exact pureCase (fun id h => by cases h)
  have hlens : ∀ y ∈ args, ∀ z ∈ y.cells, ∀ e t xs, z = .sl e t xs → xs.length ≤ 9223372036854775807 := by
    intro y hy z hz e t xs hzs
    obtain ⟨j, hj⟩ := List.mem_iff_getElem?.1 hy
    have hjl := (List.getElem?_eq_some_iff.1 hj).1
    have hv := hrel j y vs[j] hj (List.getElem?_eq_getElem (by omega))
    obtain ⟨k, hk⟩ := List.mem_iff_getElem?.1 hz
    have hlive : y.live = true := by
      cases y <;> first | rfl | (simp [PV.cells] at hz; rw [hz] at hzs; cases hzs)
    obtain ⟨g1, g2⟩ := hv.cellsAll hlive
    have hkl := (List.getElem?_eq_some_iff.1 hk).1
    exact lenOf (g2 k z _ hk (Array.getElem?_eq_getElem (by omega))).2.2 e t xs hzs
  have hS : SRel P { F with n := fn.ntmps } om { tmps := vs.toArray ++ Array.replicate (fn.ntmps - vs.toArray.size) undef, defers := [] } w ⟨fun t => args.getD t .dead, Hp⟩ := by
    refine ⟨by simp; omega, rfl, ?_, hW.box, hW.inj, hW.lt, hW.loc, hW.par, hW.i0, hW.base_le, hW.frame, hW.outer⟩
    intro t
    show VR P F.I0 F.base om w (args.getD t .dead) _
    by_cases ht : t < args.length
    · have e1 : args.getD t .dead = args[t] := by simp [List.getD, List.getElem?_eq_getElem ht]
      have htv : t < vs.length := by omega
      have e2 : (vs.toArray ++ Array.replicate (fn.ntmps - vs.toArray.size) undef).getD t undef = vs[t] := by
        simp [Array.getD_eq_getD_getElem?, Array.getElem?_append, htv]
      rw [e1, e2]
      exact hrel t _ _ (List.getElem?_eq_getElem ht) (List.getElem?_eq_getElem htv)
    · have e1 : args.getD t .dead = .dead := by simp [List.getD, List.getElem?_eq_none (Nat.le_of_not_lt ht)]
      rw [e1]
      exact .dead _
  refine calls_of_wp hf hb (wp_mono (hw hlens _ om _ w rfl hS) ?_)
  rintro e a' w' ⟨e', om', S', rfl, hr, hne, hfin⟩
  obtain ⟨v, om'', hrun, hW', hv⟩ := fin_wrel (fn := fn) hr hT rfl hfin
  cases e' with
  | normal => exact ⟨hr.defers, v, hrun, v, om'', rfl, ⟨hW'.box, hW'.inj, hW'.lt, hW'.loc, hW'.par, hW'.i0, hW'.base_le, hW'.frame, hW'.outer⟩, hv⟩
  | exit id => exact absurd rfl (hne id)
  | ret => exact ⟨hr.defers, v, hrun, v, om'', rfl, ⟨hW'.box, hW'.inj, hW'.lt, hW'.loc, hW'.par, hW'.i0, hW'.base_le, hW'.frame, hW'.outer⟩, hv⟩

/-- FROM A BODY TO A CONTRACT. -/
theorem can_of_wp (hT : TabOK P tab) (hmix : P.follows .mixedOrders = true) {f : Nat} {fn : Func} {c : Code} {args : List PV} {Hp : Id → Option (List PV)} {res : PV} {Hq : Id → Option (List PV)}
    (h1 : Calls1 P f) (hf : P.funcs[f]? = some fn) (hb : fn.body = some c) (hok : codeOK fn.ntmps c = true) (hn : args.length ≤ fn.ntmps)
    (hw : (∀ y ∈ args, ∀ z ∈ y.cells, ∀ e t xs, z = .sl e t xs → xs.length ≤ 9223372036854775807) →
      wpC P tab c (fun e S' => (∀ id, e ≠ .exit id) ∧ Fin tab fn.results.toList res Hq S') ⟨fun t => args.getD t .dead, Hp⟩) : Can P f args Hp res Hq :=
  can_of_body hT h1 hf hb hn fun hl F om a w hFn hr => wpC_sound (F := F) hT hmix c _ om a w _ (by rw [hFn]; exact hok) hr (hw hl)

end
end Go.Proofs.Ytcahjpkmldmjdaa.Ab
