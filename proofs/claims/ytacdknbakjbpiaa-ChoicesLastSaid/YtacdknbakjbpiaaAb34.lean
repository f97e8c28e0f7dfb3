/-
  Abstract values for walks without memory: numbers are copied into a row of the call's own.
-/
import Derived.Test.YtacdknbakjbpiaaAb33
namespace Go.Proofs.Ytacdknbakjbpiaa.Ab
open Go

def putL : List PV → Nat → List PV → List PV
  | xs, _, [] => xs
  | xs, j, z :: zs => putL (xs.set j z) (j + 1) zs

mutual
def PV.cp (id : Id) (j : Nat) (zs : List PV) : PV → PV
  | .sl e (.own i) xs => if i = id then .sl e (.own i) (putL xs j zs) else .sl e (.own i) xs
  | .ep e (.own i) xs a b => if i = id then .ep e (.own i) (putL xs j zs) a b else .ep e (.own i) xs a b
  | .agg cs => .agg (PV.cps id j zs cs)
  | .tup cs => .tup (PV.cps id j zs cs)
  | .fn f cs => .fn f (PV.cps id j zs cs)
  | .dead => .dead
  | .int k n => .int k n
  | .bool b => .bool b
  | .str s => .str s
  | .nilp => .nilp
  | .nilf => .nilf
  | .nili => .nili
  | .ptr i o => .ptr i o
  | .rp cs o => .rp cs o
  | .sl e .ro xs => .sl e .ro xs
  | .sl e .full xs => .sl e .full xs
  | .ep e .ro xs a b => .ep e .ro xs a b
  | .ep e .full xs a b => .ep e .full xs a b
def PV.cps (id : Id) (j : Nat) (zs : List PV) : List PV → List PV
  | [] => []
  | c :: cs => c.cp id j zs :: PV.cps id j zs cs
end

mutual
theorem PV.cp_cons (id : Id) (j : Nat) (z : PV) (zs : List PV) : ∀ p : PV, p.cp id j (z :: zs) = (p.sub (oneSub id (.upd j z))).cp id (j + 1) zs
  | .sl e (.own i) xs => by
    simp only [PV.cp, PV.sub, oneSub]
    split
    · simp [PV.cp, putL, *]
    · simp [PV.cp, *]
  | .ep e (.own i) xs a b => by
    simp only [PV.cp, PV.sub, oneSub]
    split
    · simp [PV.cp, putL, *]
    · simp [PV.cp, *]
  | .agg cs => by simp only [PV.cp, PV.sub, PV.cps_cons id j z zs cs]
  | .tup cs => by simp only [PV.cp, PV.sub, PV.cps_cons id j z zs cs]
  | .fn f cs => by simp only [PV.cp, PV.sub, PV.cps_cons id j z zs cs]
  | .dead => rfl
  | .int k n => rfl
  | .bool b => rfl
  | .str s => rfl
  | .nilp => rfl
  | .nilf => rfl
  | .nili => rfl
  | .ptr i o => by
    simp only [PV.cp, PV.sub, oneSub]
    split <;> simp [PV.cp]
    rename_i h
    split at h <;> cases h
  | .rp cs o => rfl
  | .sl e .ro xs => rfl
  | .sl e .full xs => rfl
  | .ep e .ro xs a b => rfl
  | .ep e .full xs a b => rfl
theorem PV.cps_cons (id : Id) (j : Nat) (z : PV) (zs : List PV) : ∀ ps : List PV, PV.cps id j (z :: zs) ps = PV.cps id (j + 1) zs (PV.subs (oneSub id (.upd j z)) ps)
  | [] => rfl
  | p :: ps => by simp only [PV.cps, PV.subs, PV.cp_cons id j z zs p, PV.cps_cons id j z zs ps]
end

mutual
theorem PV.cp_nil (id : Id) (j : Nat) : ∀ p : PV, p.cp id j [] = p
  | .sl e (.own i) xs => by simp [PV.cp, putL]
  | .ep e (.own i) xs a b => by simp [PV.cp, putL]
  | .agg cs => by simp only [PV.cp, PV.cps_nil id j cs]
  | .tup cs => by simp only [PV.cp, PV.cps_nil id j cs]
  | .fn f cs => by simp only [PV.cp, PV.cps_nil id j cs]
  | .dead => rfl
  | .int k n => rfl
  | .bool b => rfl
  | .str s => rfl
  | .nilp => rfl
  | .nilf => rfl
  | .nili => rfl
  | .ptr i o => rfl
  | .rp cs o => rfl
  | .sl e .ro xs => rfl
  | .sl e .full xs => rfl
  | .ep e .ro xs a b => rfl
  | .ep e .full xs a b => rfl
theorem PV.cps_nil (id : Id) (j : Nat) : ∀ ps : List PV, PV.cps id j [] ps = ps
  | [] => rfl
  | p :: ps => by simp only [PV.cps, PV.cp_nil id j p, PV.cps_nil id j ps]
end

def St.cp (S : St) (id : Id) (j : Nat) (zs : List PV) : St := ⟨fun t => (S.env t).cp id j zs, fun i => if i = id then none else (S.H i).map (PV.cps id j zs)⟩

theorem St.cp_cons (S : St) (id : Id) (j : Nat) (z : PV) (zs : List PV) : ((S.sub (oneSub id (.upd j z))).setH id none).cp id (j + 1) zs = S.cp id j (z :: zs) := by
  simp only [St.cp, St.setH, St.sub, PV.cp_cons, St.mk.injEq, true_and]
  funext i
  split
  · rfl
  · cases S.H i with
    | none => rfl
    | some cs => simp [PV.cps_cons]

theorem St.cp_nil_le (S : St) (id : Id) (j : Nat) : (S.cp id j []).le S := by
  refine ⟨fun t => .inr (by simp [St.cp, PV.cp_nil]), fun i => ?_⟩
  simp only [St.cp]
  split
  · exact .inl rfl
  · right
    cases S.H i with
    | none => rfl
    | some cs => simp [PV.cps_nil]

theorem putL_ints (kk : IntKind) : ∀ (ys : List Int) (xs : List Int) (j : Nat), putL (xs.map (PV.int kk)) j (ys.map (PV.int kk)) = (xs.take j ++ (ys.take (xs.length - j) ++ xs.drop (j + ys.length))).map (PV.int kk)
  | [], xs, j => by simp [putL]
  | y :: ys, xs, j => by
    rw [List.map_cons, putL, ← List.map_set, putL_ints kk ys]
    congr 1
    by_cases hj : j < xs.length
    · rw [List.length_set, show xs.length - j = (xs.length - (j + 1)) + 1 by omega, List.take_succ_cons, List.length_cons, show j + (ys.length + 1) = j + 1 + ys.length by omega]
      rw [List.drop_set_of_lt (by omega), List.set_eq_take_append_cons_drop, if_pos hj, List.take_append]
      simp [List.take_take, Nat.min_eq_left (Nat.le_of_lt hj), show j + 1 - j = 1 by omega]
    · rw [List.set_eq_of_length_le (by omega), show xs.length - (j + 1) = 0 by omega, show xs.length - j = 0 by omega, List.take_zero, List.take_zero, List.take_of_length_le (show xs.length ≤ j + 1 by omega), List.take_of_length_le (show xs.length ≤ j by omega),
        List.drop_eq_nil_of_le (show xs.length ≤ j + 1 + ys.length by omega), List.drop_eq_nil_of_le (show xs.length ≤ j + (y :: ys).length by simp; omega)]

/-- What stands in a row when numbers have been copied over its beginning. -/
def cpL {α : Type} (xs ys : List α) : List α := ys.take xs.length ++ xs.drop ys.length
theorem putL_cp (kk : IntKind) (xs ys : List Int) : putL (xs.map (PV.int kk)) 0 (ys.map (PV.int kk)) = (cpL xs ys).map (PV.int kk) := by
  rw [putL_ints]
  simp [cpL]

theorem World.setRow_setRow (w : World) (b : Nat) (c c' : Array Value) : (w.setRow b c).setRow b c' = w.setRow b c' := by
  unfold World.setRow
  congr 1
  apply Array.ext_getElem?
  intro i
  simp only [Array.getElem?_modify]
  split
  · cases w.heap[i]? with
    | none => rfl
    | some o => cases o <;> rfl
  · rfl

theorem World.setRow_self (w : World) (b : Nat) (c : Array Value) (e : TypeId) (hh : w.heap[b]? = some (.cells c e (0, 0))) : w.setRow b c = w := by
  have h : (w.setRow b c).heap = w.heap := by
    unfold World.setRow
    apply Array.ext_getElem?
    intro i
    simp only [Array.getElem?_modify]
    split
    · rename_i h; subst h; rw [hh]; rfl
    · rfl
  cases w with
  | mk h1 h2 h3 h4 h5 => exact congrArg (fun h => World.mk h h2 h3 h4 h5) h

theorem copy_is {ats : Array TypeId} {ty : TypeId} {cs : Array Bool} {args : Array Value} : builtin .copy ats ty cs args = (do pure (.value (← Builtin.copy_ ats ty args))) := rfl

section
variable {P : Program} {tab : Tab} {F : Fr} {om : Id → Option Nat} {a : Act} {w : World} {S : St}

theorem flat_ints {Im : Nat → Prop} {kk : IntKind} {ys : List Int} {fs : List Value} (h : Flat (RR P Im w) 1 (ys.map (PV.int kk)) fs) : fs = ys.map (Value.int kk) := by
  have hl := h.len
  simp only [List.length_map, Nat.mul_one] at hl
  refine List.ext_getElem (by simpa using hl) fun i h1 h2 => ?_
  have hi : i < ys.length := by omega
  have hx : (ys.map (PV.int kk))[i]? = some (.int kk ys[i]) := by rw [List.getElem?_map, List.getElem?_eq_getElem hi]; rfl
  have := (h.rel i _ 0 _ fs[i] hx rfl (by rw [Nat.mul_one, Nat.add_zero]; exact List.getElem?_eq_getElem h1)).int_inv
  simpa using this

/-- One number of a row is written. -/
theorem SRel.upd1 (h : SRel P F om a w S) {id : Id} {b : Nat} {cur : Array Value} {e : TypeId} {q : Nat} {kk : IntKind} {m : Int} (hrow : id.isRow = true) (hb : om id = some b) (hh : w.heap[b]? = some (.cells cur e (0, 0))) (h1 : P.cellsOf e = 1) (hq : q < cur.size) :
    SRel P F om a (w.setRow b (cur.toList.take q ++ [Value.int kk m] ++ cur.toList.drop (q + 1)).toArray) ((S.sub (oneSub id (.upd q (.int kk m)))).setH id none) := by
  have hbb : F.base ≤ b := by
    rcases h.loc id b hb with h5 | ⟨k, rfl⟩
    · exact h5
    · cases hrow
  generalize hw : (cur.toList.take q ++ [Value.int kk m] ++ cur.toList.drop (q + 1)).toArray = new
  have hnl : new.size = cur.size := by
    rw [← hw]
    simp only [List.size_toArray, List.length_append, List.length_take, List.length_drop, Array.length_toList, List.length_cons, List.length_nil]
    omega
  have hget : ∀ k, new[k]? = if k = q then some (Value.int kk m) else cur[k]? := by
    intro k
    have hql : (cur.toList.take q).length = q := by simp; omega
    rw [← hw, List.getElem?_toArray, List.append_assoc, List.getElem?_append, hql]
    split
    · rw [if_neg (by omega), List.getElem?_take, if_pos (by omega), Array.getElem?_toList]
    · split
      · rename_i hk; subst hk; simp
      · rw [List.getElem?_append, if_neg (by simp; omega), List.getElem?_drop, ← Array.getElem?_toList]
        congr 1
        simp
        omega
  have hother : ∀ b', b' ≠ b → (w.setRow b new).heap[b']? = w.heap[b']? := fun b' hne => setRow_other w b b' _ hne
  have E : Ext P F.I0 F.base om w om (w.setRow b new) (oneSub id (.upd q (.int kk m))) := by
    refine ⟨?_, fun id _ _ b hb => hb, ?_, ?_, ?_⟩
    · intro b' hb'
      have hne : b' ≠ b := fun e => hb'.2 id (by rw [e]; exact hb)
      refine ⟨⟨?_, hb'.2⟩, hother b' hne⟩
      rcases hb'.1 with h5 | h5
      · exact .inl h5
      · exact .inr ⟨h5.1, by simpa using h5.2⟩
    · intro id' _ hk b' hb'
      refine ⟨hb', hother b' fun e => ?_⟩
      subst e
      have := h.inj id' id b' hb' hb
      subst this
      simp [oneSub] at hk
    · intro id' _ hf
      unfold oneSub at hf
      split at hf <;> cases hf
    · intro id' qi x _ hu b' cur' e' hb' hh'
      unfold oneSub at hu
      split at hu
      case isFalse => cases hu
      rename_i hid
      subst hid
      cases hu
      rw [hb] at hb'
      cases hb'
      rw [hh] at hh'
      cases hh'
      refine ⟨hb, by rw [h1]; rfl, fun j y hy => ?_, new, setRow_heap w b cur _ e (0, 0) hh, hnl, fun k hk => ?_, fun j y c hy hc => ?_⟩
      · cases j with
        | zero => cases hy; rfl
        | succ j => cases hy
      · rw [h1] at hk
        rw [hget, if_neg (by omega)]
      · cases j with
        | zero =>
          cases hy
          rw [h1, Nat.mul_one, Nat.add_zero, hget, if_pos rfl] at hc
          cases hc
          exact .int _ _
        | succ j => cases hy
  exact h.step E id none h.inj (fun i b hb => by simpa using h.lt i b hb) h.loc (fun _ => rfl) (by simp) (fun b' hlt _ => hother b' (by omega)) ⟨rfl, rfl, rfl⟩
    (fun i hne _ b' hb' => ⟨hb', hother b' fun e => hne (by subst e; exact h.inj i id b' hb' hb)⟩) (fun cs hcs => by cases hcs) none (fun t h => by cases h) .dead undef (.dead _)

theorem SRel.cp {id : Id} {b : Nat} {e : TypeId} {kk : IntKind} (hrow : id.isRow = true) (hb : om id = some b) (h1 : P.cellsOf e = 1) : ∀ (ns : List Int) (j : Nat) (w : World) (S : St) (cur : Array Value), SRel P F om a w S → w.heap[b]? = some (.cells cur e (0, 0)) → j + ns.length ≤ cur.size →
    SRel P F om a (w.setRow b (cur.toList.take j ++ ns.map (Value.int kk) ++ cur.toList.drop (j + ns.length)).toArray) (S.cp id j (ns.map (PV.int kk)))
  | [], j, w, S, cur, h, hh, _ => by
    have e1 : (cur.toList.take j ++ List.map (Value.int kk) [] ++ cur.toList.drop (j + ([] : List Int).length)).toArray = cur := by simp
    have e2 : w.setRow b cur = w := World.setRow_self w b cur e hh
    rw [e1, e2]
    exact h.weak (S.cp_nil_le id j)
  | n :: ns, j, w, S, cur, h, hh, hl => by
    rw [List.length_cons] at hl
    have h2 := h.upd1 (q := j) (kk := kk) (m := n) hrow hb hh h1 (by omega)
    have hsz : (cur.toList.take j ++ [Value.int kk n] ++ cur.toList.drop (j + 1)).length = cur.size := by
      simp only [List.length_append, List.length_take, List.length_drop, Array.length_toList, List.length_cons, List.length_nil]
      omega
    have h3 := SRel.cp (kk := kk) hrow hb h1 ns (j + 1) _ _ _ h2 (setRow_heap w b cur _ e (0, 0) hh) (by rw [List.size_toArray, hsz]; omega)
    rw [St.cp_cons, World.setRow_setRow] at h3
    have hq : (cur.toList.take j ++ [Value.int kk n]).length = j + 1 := by simp; omega
    have e1 : (cur.toList.take j ++ [Value.int kk n] ++ cur.toList.drop (j + 1)).toArray.toList.take (j + 1) ++ ns.map (Value.int kk) ++ (cur.toList.take j ++ [Value.int kk n] ++ cur.toList.drop (j + 1)).toArray.toList.drop (j + 1 + ns.length)
        = cur.toList.take j ++ (n :: ns).map (Value.int kk) ++ cur.toList.drop (j + (n :: ns).length) := by
      simp only
      rw [List.take_left' hq, ← hq, List.drop_length_add_append, List.drop_drop]
      simp only [List.map_cons, List.length_cons, List.append_assoc, List.cons_append, List.nil_append]
      congr 3
      rw [hq]
      congr 1
      omega
    rw [e1] at h3
    exact h3

end

section
variable {P : Program} {tab : Tab}
variable {n : Nat} {N : St → Prop} {X : Nat → St → Prop} {R : St → Prop} {S T : St} {r k : Nat} {ops : Array Oper} {K : St → Prop} {l : List Oper}
variable {d : Nat} {op : Op} {ty : TypeId} {pos : String} {after : Array Edge} {g : Option (Nat × Bool)}

/-- Numbers are copied into a row of the call's own. -/
theorem Wr.copyL {c : Call} {x y : Operand} {tx t2 e e2 : Nat} {id : Id} {kk k2 : IntKind} {xs ys : List Int} {tg : Tag} {s1 b1 b2 : Nat} {z1 z2 : PV} (h : Wr P tab n r ops (k + 1) l K ((S.cp id 0 ((ys.take xs.length).map (PV.int kk))).set d (.int .i64 ((min ys.length xs.length : Nat) : Int))))
    (hg : runs ops S g = some true := by rfl) (hc : c.callee = .builtin .copy := by rfl) (ha : c.args.toList = [x, y] := by rfl) (hat : c.argTypes.toList = [tx, t2] := by rfl) (hts : tab tx = some ⟨.slice e, s1, b1, z1⟩ := by rfl) (hi : tab e = some ⟨.int k2, 1, b2, z2⟩ := by rfl)
    (hx : opndT tab tx S x = .sl e (.own id) (xs.map (PV.int kk)) := by rfl) (hy : opndT tab t2 S y = .sl e2 tg (ys.map (PV.int kk)) := by rfl) (he : (e2 == e) = true := by rfl) (htg : tg.isOwn = false := by rfl) (hid : id.isRow = true := by rfl) :
    Wr P tab n r ops k (⟨some d, .call c, ty, pos, after, g⟩ :: l) K S := by
  obtain rfl := of_decide_eq_true he
  obtain ⟨callee, args, argTypes⟩ := c
  simp only at hc ha hat
  subst hc
  have ha' : args = #[x, y] := by simpa using congrArg List.toArray ha
  have hat' : argTypes = #[tx, t2] := by simpa using congrArg List.toArray hat
  subst ha'
  subst hat'
  refine .stepS (S' := (S.cp id 0 ((ys.take xs.length).map (PV.int kk))).put (some d) (.int .i64 ((min ys.length xs.length : Nat) : Int))) hg (fun hT F om a w hr hd => ?_) h
  obtain ⟨I, zv, hI, hIs, hIb, hIz, hzr⟩ := (hT e2 _ hi).info
  have hce : P.cellsOf e2 = 1 := (hT e2 _ hi).cellsOf
  have hu := und_slice (hT tx _ hts)
  have hIs1 : (P.info? e2).map (·.size) = some 1 := by rw [hI]; exact congrArg some hIs
  have h1 := (opndT_VR (tab := tab) hr tx x)
  rw [hx] at h1
  have h2 := (opndT_VR (tab := tab) hr t2 y)
  rw [hy] at h2
  obtain ⟨p, cap, g', o, fs, hv, ht', hcl, hm, hp, hz', hF, hl⟩ := (h2.sl_pure (fun id h => by subst h; cases htg)).sl_inv
  rw [hce] at hF
  have hfs := flat_ints hF
  subst hfs
  simp only [List.length_map] at hv hcl
  have none_ : ∀ (pd : Option Addr) (dl dc : Nat), a.eval x = .slice pd dl dc → dl = xs.length → min ys.length xs.length = 0 →
      StepOK P F ⟨some d, .call ⟨.builtin .copy, #[x, y], #[tx, t2]⟩, ty, pos, after, g⟩ a w ((S.cp id 0 ((ys.take xs.length).map (PV.int kk))).put (some d) (.int .i64 ((min ys.length xs.length : Nat) : Int))) := by
    intro pd dl dc hxv hdl h0
    have hrun := run_copy_none (P := P) w tx t2 ty e2 pd p dl dc ys.length cap hu hIs1 (by rw [hdl]; exact h0)
    have hzs : ys.take xs.length = [] := List.eq_nil_of_length_eq_zero (by rw [List.length_take]; omega)
    refine ⟨om, goInt 0, w, .inl ?_, ?_⟩
    · simp [execOp, resolve, invoke, copy_is, hxv, hv, hrun]
    · rw [h0, hzs]
      have := (hr.weak (S.cp_nil_le id 0)).grow (w' := w) (Nat.le_refl _) (fun _ _ => rfl) ⟨rfl, rfl, rfl⟩ (some d) hd (.int .i64 0) (goInt 0) (.pure _ _ (.int _ _))
      exact this
  rcases h1.sl_own with ⟨hx0, pd, hxv⟩ | ⟨b, dc, cur, hr1, hb0, hxv, hc', hm', hh, hs, hF'⟩
  · have hx1 : xs = [] := List.map_eq_nil_iff.1 hx0
    exact none_ pd 0 0 hxv (by rw [hx1]; rfl) (by rw [hx1]; simp)
  · simp only [List.length_map] at hxv hc' hs
    by_cases h0 : min ys.length xs.length = 0
    · exact none_ _ _ _ hxv rfl h0
    · obtain ⟨hp1, _⟩ := hp (by intro hn; rw [List.map_eq_nil_iff] at hn; rw [hn] at h0; simp at h0)
      subst hp1
      rw [hce, Nat.mul_one] at hs
      have hlen : ((ys.take xs.length).map (Value.int kk)).length = min ys.length xs.length := by simp [Nat.min_comm]
      have hrun := run_copy_row (P := P) w tx t2 ty e2 b 0 xs.length dc ⟨g', o, none⟩ ys.length cap cur e2 ((ys.take xs.length).map (Value.int kk)) hu hIs1 hh hlen (fun j v hj => by
        rw [add_mk]
        refine hl j v ?_
        rw [List.getElem?_map, List.getElem?_take] at hj
        rw [List.getElem?_map]
        split at hj
        · exact hj
        · cases hj) (by rw [hlen]; omega) (fun v hv => by
        obtain ⟨n, _, rfl⟩ := List.mem_map.1 hv
        rfl)
      have hcp := SRel.cp (kk := kk) hid hb0 hce (ys.take xs.length) 0 w S cur hr hh (by rw [List.length_map] at hlen; omega)
      have hlen2 : (ys.take xs.length).length = min ys.length xs.length := by rw [List.length_map] at hlen; exact hlen
      refine ⟨om, goInt ((min ys.length xs.length : Nat) : Int), _, .inl ?_, hcp.grow (Nat.le_refl _) (fun _ _ => rfl) ⟨rfl, rfl, rfl⟩ (some d) hd _ _ (.pure _ _ (.int _ _))⟩
      rw [hlen] at hrun
      rw [hlen2]
      simp only [Nat.zero_add] at hrun ⊢
      simp [execOp, resolve, invoke, copy_is, hxv, hv, hrun]
end
end Go.Proofs.Ytacdknbakjbpiaa.Ab
