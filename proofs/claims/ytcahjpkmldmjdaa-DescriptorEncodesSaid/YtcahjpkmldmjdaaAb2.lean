/-
  Abstract values for walks without memory: values that hold rows and variables of the call's own; how they stand a step.
-/
import Derived.Test.YtcahjpkmldmjdaaAb1
namespace Go.Proofs.Ytcahjpkmldmjdaa.Ab
open Go

inductive Sub where
  | keep
  | kill
  | frz
  | upd (i : Nat) (x : PV)

mutual
def PV.sub (σ : Id → Sub) : PV → PV
  | .sl e (.own id) xs => match σ id with
    | .keep => .sl e (.own id) xs
    | .kill => .dead
    | .frz => .sl e .ro xs
    | .upd i x => .sl e (.own id) (xs.set i x)
  | .ep e (.own id) xs i j => match σ id with
    | .keep => .ep e (.own id) xs i j
    | .kill => .dead
    | .frz => .ep e .ro xs i j
    | .upd k x => .ep e (.own id) (xs.set k x) i j
  | .ptr id off => match σ id with
    | .kill => .dead
    | _ => .ptr id off
  | .agg cs => .agg (PV.subs σ cs)
  | .tup cs => .tup (PV.subs σ cs)
  | .fn f cs => .fn f (PV.subs σ cs)
  | .dead => .dead
  | .int k n => .int k n
  | .bool b => .bool b
  | .str s => .str s
  | .nilp => .nilp
  | .nilf => .nilf
  | .nili => .nili
  | .sl e .ro xs => .sl e .ro xs
  | .sl e .full xs => .sl e .full xs
  | .ep e .ro xs i j => .ep e .ro xs i j
  | .ep e .full xs i j => .ep e .full xs i j
  | .rp cs off => .rp cs off
def PV.subs (σ : Id → Sub) : List PV → List PV
  | [] => []
  | c :: cs => c.sub σ :: PV.subs σ cs
end

theorem PV.subs_map (σ : Id → Sub) (cs : List PV) : PV.subs σ cs = cs.map (PV.sub σ) := by
  induction cs with
  | nil => rfl
  | cons c cs ih => simp [PV.subs, ih]

theorem PV.subs_length (σ : Id → Sub) (cs : List PV) : (PV.subs σ cs).length = cs.length := by simp [PV.subs_map]

theorem PV.subs_get {σ : Id → Sub} {cs : List PV} {j : Nat} {y : PV} (h : (PV.subs σ cs)[j]? = some y) : ∃ x, cs[j]? = some x ∧ y = x.sub σ := by
  rw [PV.subs_map, List.getElem?_map] at h
  cases hx : cs[j]? with
  | none => simp [hx] at h
  | some x => simp [hx] at h; exact ⟨x, rfl, h.symm⟩

theorem PV.isCell_sub {σ : Id → Sub} {y : PV} (h : y.isCell = true) : (y.sub σ).isCell = true := by
  cases y with
  | sl e t xs => cases t <;> simp only [PV.sub] <;> (try split) <;> rfl
  | ep e t xs i j => cases t <;> simp only [PV.sub] <;> (try split) <;> rfl
  | ptr id off => simp only [PV.sub]; split <;> rfl
  | agg cs => simp [PV.isCell] at h
  | tup cs => simp [PV.isCell] at h
  | _ => rfl

section
variable (P : Program) (I0 : Nat → Prop) (base : Nat → Prop)

/-- Blocks that nobody changes any more. -/
def Im (om : Id → Option Nat) (w : World) (b : Nat) : Prop := (I0 b ∨ (base b ∧ b < w.heap.size)) ∧ ∀ id, om id ≠ some b

/-- A row of the call's own. -/
def OwnS (om : Id → Option Nat) (w : World) (id : Id) (e : TypeId) (xs : List PV) (v : Value) : Prop :=
  (xs = [] ∧ ∃ p, v = .slice p 0 0) ∨
  ∃ b cap cur, id.isRow = true ∧ om id = some b ∧ v = .slice (some ⟨b, 0, none⟩) xs.length cap ∧ xs.length ≤ cap ∧ cap ≤ maxLen ∧
    w.heap[b]? = some (.cells cur e (0, 0)) ∧ cur.size = cap * P.cellsOf e ∧ Flat (RR P (Im I0 base om w) w) (P.cellsOf e) xs (cur.toList.take (xs.length * P.cellsOf e))

inductive VR (om : Id → Option Nat) (w : World) : PV → Value → Prop
  | dead (v : Value) : VR om w .dead v
  | pure (p : PV) (v : Value) (h : RR P (Im I0 base om w) w p v) : VR om w p v
  | own (id : Id) (e : TypeId) (xs : List PV) (v : Value) (h : OwnS P I0 base om w id e xs v) : VR om w (.sl e (.own id) xs) v
  | ptr (id : Id) (off b : Nat) (hr : id.isRow = false) (h : om id = some b) : VR om w (.ptr id off) (.pointer (some ⟨b, off, none⟩))
  | epr (e : TypeId) (t : Tag) (xs : List PV) (i j g o cap : Nat) (h : RR P (Im I0 base om w) w (.sl e t xs) (.slice (some ⟨g, o, none⟩) xs.length cap)) (hi : i < xs.length) :
      VR om w (.ep e t xs i j) (.pointer (some ⟨g, o + i * P.cellsOf e + j, none⟩))
  | epo (e : TypeId) (id : Id) (xs : List PV) (i j b cap : Nat) (h : OwnS P I0 base om w id e xs (.slice (some ⟨b, 0, none⟩) xs.length cap)) (hi : i < xs.length) :
      VR om w (.ep e (.own id) xs i j) (.pointer (some ⟨b, i * P.cellsOf e + j, none⟩))
  | rp (cs : List PV) (off b : Nat) (cur : Array Value) (T : TypeId) (fr : Nat × Nat) (hb : Im I0 base om w b) (hc : w.heap[b]? = some (.cells cur T fr)) (hn : cur.size = cs.length)
      (h : ∀ (j : Nat) (y : PV) (c : Value), cs[j]? = some y → cur[j]? = some c → y.isCell = true ∧ RR P (Im I0 base om w) w y c) : VR om w (.rp cs off) (.pointer (some ⟨b, off, none⟩))
  | agg (cs : List PV) (vs : Array Value) (hn : cs.length = vs.size) (hy : ∀ (j : Nat) (y : PV), cs[j]? = some y → y.isCell = true)
      (h1 : ∀ (j : Nat) (c : Value), vs[j]? = some c → c.oneCell' = true)
      (h : ∀ (j : Nat) (y : PV) (c : Value), cs[j]? = some y → vs[j]? = some c → VR om w y c) : VR om w (.agg cs) (.agg vs)
  | tup (cs : List PV) (vs : Array Value) (hn : cs.length = vs.size)
      (h : ∀ (j : Nat) (y : PV) (c : Value), cs[j]? = some y → vs[j]? = some c → VR om w y c) : VR om w (.tup cs) (.tuple vs)
  | fn (f : Nat) (cs : List PV) (vs : Array Value) (hn : cs.length = vs.size)
      (h : ∀ (j : Nat) (y : PV) (c : Value), cs[j]? = some y → vs[j]? = some c → VR om w y c) : VR om w (.fn f cs) (.func (.func f) #[] vs)

/-- A variable of the call's own. -/
def BoxR (om : Id → Option Nat) (w : World) (id : Id) (cs : List PV) : Prop :=
  id.isRow = false ∧ ∃ b cur T, om id = some b ∧ w.heap[b]? = some (.cells cur T (0, 0)) ∧ cur.size = cs.length ∧
    ∀ (j : Nat) (y : PV) (c : Value), cs[j]? = some y → cur[j]? = some c → y.isCell = true ∧ c.oneCell' = true ∧ VR P I0 base om w y c

/-- What a step leaves of the elder values. -/
structure Ext (om : Id → Option Nat) (w : World) (om' : Id → Option Nat) (w' : World) (σ : Id → Sub) : Prop where
  im : ∀ b, Im I0 base om w b → Im I0 base om' w' b ∧ w'.heap[b]? = w.heap[b]?
  ptr : ∀ id, id.isRow = false → σ id ≠ .kill → ∀ b, om id = some b → om' id = some b
  row : ∀ id, id.isRow = true → σ id = .keep → ∀ b, om id = some b → om' id = some b ∧ w'.heap[b]? = w.heap[b]?
  frz : ∀ id, id.isRow = true → σ id = .frz → ∀ b, om id = some b → Im I0 base om' w' b ∧ w'.heap[b]? = w.heap[b]?
  upd : ∀ id i x, id.isRow = true → σ id = .upd i x → ∀ b cur e, om id = some b → w.heap[b]? = some (.cells cur e (0, 0)) → om' id = some b ∧ x.cells.length = P.cellsOf e ∧
    (∀ (j : Nat) (y : PV), x.cells[j]? = some y → y.isCell = true) ∧
    ∃ cur', w'.heap[b]? = some (.cells cur' e (0, 0)) ∧ cur'.size = cur.size ∧ (∀ k, (k < i * P.cellsOf e ∨ (i + 1) * P.cellsOf e ≤ k) → cur'[k]? = cur[k]?) ∧
      ∀ (j : Nat) (y : PV) (c : Value), x.cells[j]? = some y → cur'[i * P.cellsOf e + j]? = some c → RR P (Im I0 base om' w') w' y c

variable {P I0 base}

theorem OwnS.frz {om : Id → Option Nat} {w : World} {id : Id} {e : TypeId} {xs : List PV} {v : Value} {om' : Id → Option Nat} {w' : World}
    (him : ∀ b, Im I0 base om w b → Im I0 base om' w' b ∧ w'.heap[b]? = w.heap[b]?)
    (hf : id.isRow = true → ∀ b, om id = some b → Im I0 base om' w' b ∧ w'.heap[b]? = w.heap[b]?) (h : OwnS P I0 base om w id e xs v) : RR P (Im I0 base om' w') w' (.sl e .ro xs) v := by
  rcases h with ⟨rfl, p, rfl⟩ | ⟨b, cap, cur, hr, hb, rfl, hc, hm, hh, hs, hF⟩
  · exact RR.sl_mk P (g := 0) (o := 0) (fs := []) (.inl rfl) (by simp) (by simp [maxLen]) (fun h => absurd rfl h) (fun _ => rfl) Flat.nil (fun k c h => by simp at h)
  · obtain ⟨h1, h2⟩ := hf hr b hb
    refine RR.sl_mk P (g := b) (o := 0) (.inl rfl) hc hm (fun _ => ⟨rfl, h1⟩) (fun h => by simp at h) (hF.mono fun y c hr => RR.mono P him hr) ?_
    intro k c hk
    rw [Nat.zero_add, cell_of_row w' b k cur e (0, 0) (h2.trans hh)]
    rw [List.getElem?_take] at hk
    split at hk
    · simpa using hk
    · cases hk

theorem OwnS.keep {om : Id → Option Nat} {w : World} {id : Id} {e : TypeId} {xs : List PV} {v : Value} {om' : Id → Option Nat} {w' : World}
    (him : ∀ b, Im I0 base om w b → Im I0 base om' w' b ∧ w'.heap[b]? = w.heap[b]?)
    (hk : id.isRow = true → ∀ b, om id = some b → om' id = some b ∧ w'.heap[b]? = w.heap[b]?) (h : OwnS P I0 base om w id e xs v) : OwnS P I0 base om' w' id e xs v := by
  rcases h with h | ⟨b, cap, cur, hr, hb, rfl, hc, hm, hh, hs, hF⟩
  · exact .inl h
  · obtain ⟨h1, h2⟩ := hk hr b hb
    exact .inr ⟨b, cap, cur, hr, h1, rfl, hc, hm, h2.trans hh, hs, hF.mono fun y c hr => RR.mono P him hr⟩

theorem OwnS.upd {om : Id → Option Nat} {w : World} {id : Id} {e : TypeId} {xs : List PV} {v : Value} {om' : Id → Option Nat} {w' : World} {i : Nat} {x : PV} {σ : Id → Sub}
    (E : Ext P I0 base om w om' w' σ) (hσ : σ id = .upd i x) (h : OwnS P I0 base om w id e xs v) : OwnS P I0 base om' w' id e (xs.set i x) v := by
  rcases h with ⟨rfl, h⟩ | ⟨b, cap, cur, hr, hb, rfl, hc, hm, hh, hs, hF⟩
  · exact .inl ⟨by simp, h⟩
  · obtain ⟨h1, hxl, hxc, cur', h2, h3, h4, h5⟩ := E.upd id i x hr hσ b cur e hb hh
    refine .inr ⟨b, cap, cur', hr, h1, by simp, by simpa using hc, hm, h2, by omega, ⟨?_, ?_, ?_, ?_⟩⟩
    · simp only [List.length_set, List.length_take, Array.length_toList, h3, hs]
      have := Nat.mul_le_mul_right (P.cellsOf e) hc
      omega
    · intro k y hy
      rw [List.getElem?_set] at hy
      split at hy
      · split at hy
        · simp at hy; subst hy; exact hxl
        · cases hy
      · exact hF.sizes k y hy
    · intro k y j z hy hz
      rw [List.getElem?_set] at hy
      split at hy
      · split at hy
        · simp at hy; subst hy; exact hxc j z hz
        · cases hy
      · exact hF.cell k y j z hy hz
    · intro k y j z c hy hz hcc
      rw [List.getElem?_set] at hy
      have hget : cur'[k * P.cellsOf e + j]? = some c := by
        rw [List.getElem?_take] at hcc
        split at hcc
        · simpa using hcc
        · cases hcc
      split at hy
      · split at hy
        · rename_i hik hlt
          simp at hy; subst hy
          subst hik
          exact h5 j z c hz hget
        · cases hy
      · rename_i hik
        have hjs : j < P.cellsOf e := by
          have h6 := hF.sizes k y hy
          have h7 := (List.getElem?_eq_some_iff.1 hz).1
          omega
        have hout : k * P.cellsOf e + j < i * P.cellsOf e ∨ (i + 1) * P.cellsOf e ≤ k * P.cellsOf e + j := by
          rcases Nat.lt_or_gt_of_ne hik with hlt | hlt
          · right
            have := Nat.mul_le_mul_right (P.cellsOf e) (show i + 1 ≤ k by omega)
            omega
          · left
            have := Nat.mul_le_mul_right (P.cellsOf e) (show k + 1 ≤ i by omega)
            rw [Nat.add_mul, Nat.one_mul] at this
            omega
        rw [h4 _ hout] at hget
        refine RR.mono P E.im (hF.rel k y j z c hy hz ?_)
        rw [List.getElem?_take]
        have hkl := (List.getElem?_eq_some_iff.1 hy).1
        have hlt : k * P.cellsOf e + j < xs.length * P.cellsOf e := by
          have := Nat.mul_le_mul_right (P.cellsOf e) (show k + 1 ≤ xs.length by omega)
          rw [Nat.add_mul, Nat.one_mul] at this
          omega
        rw [if_pos hlt]
        simpa using hget

theorem VR.sub {om : Id → Option Nat} {w : World} {om' : Id → Option Nat} {w' : World} {σ : Id → Sub} (E : Ext P I0 base om w om' w' σ) {p : PV} {v : Value} (h : VR P I0 base om w p v) :
    VR P I0 base om' w' (p.sub σ) v := by
  induction h with
  | dead v => exact .dead v
  | pure p v h =>
    have h' := RR.mono P E.im h
    cases h with
    | sl e t xs p cap g o fs ht hc hm hp hz hf hs hl hy hr =>
      rcases ht with rfl | ⟨rfl, _⟩ <;> exact .pure _ _ h'
    | agg cs vs hn hy h =>
      simp only [PV.sub]
      have hsub : ∀ (y : PV) (c : Value), RR P (Im I0 base om w) w y c → y.isCell = true → y.sub σ = y := by
        intro y c hr hc
        cases hr with
        | sl e t xs p cap g o fs ht _ _ _ _ _ _ _ _ _ => rcases ht with rfl | ⟨rfl, _⟩ <;> rfl
        | agg cs vs _ _ _ => simp [PV.isCell] at hc
        | _ => rfl
      have hcs : PV.subs σ cs = cs := by
        rw [PV.subs_map]
        apply List.ext_getElem?
        intro j
        rw [List.getElem?_map]
        cases hj : cs[j]? with
        | none => rfl
        | some y =>
          have hjl := (List.getElem?_eq_some_iff.1 hj).1
          have hv : vs[j]? = some vs[j] := Array.getElem?_eq_getElem (by omega)
          simp [hsub y _ (h j y _ hj hv) (hy j y hj)]
      rw [hcs]
      exact .pure _ _ h'
    | _ => exact .pure _ _ h'
  | own id e xs v h =>
    simp only [PV.sub]
    split
    · rename_i hσ
      exact .own id e xs v (h.keep E.im fun hr b hb => E.row id hr hσ b hb)
    · exact .dead v
    · rename_i hσ
      exact .pure _ _ (h.frz E.im fun hr b hb => E.frz id hr hσ b hb)
    · rename_i i x hσ
      exact .own id e _ v (h.upd E hσ)
  | ptr id off b hr h =>
    simp only [PV.sub]
    split
    · exact .dead _
    · rename_i hσ
      exact .ptr id off b hr (E.ptr id hr (by simpa using hσ) b h)
  | epr e t xs i j g o cap h hi =>
    have h' := RR.mono P E.im h
    obtain ⟨_, _, _, _, _, _, ht, _⟩ := h.sl_inv
    rcases ht with rfl | ⟨rfl, _⟩ <;> exact .epr e _ xs i j g o cap h' hi
  | epo e id xs i j b cap h hi =>
    simp only [PV.sub]
    split
    · rename_i hσ
      exact .epo e id xs i j b cap (h.keep E.im fun hr b hb => E.row id hr hσ b hb) hi
    · exact .dead _
    · rename_i hσ
      have h2 := VR.epr (P := P) (I0 := I0) (base := base) (om := om') (w := w') e .ro xs i j b 0 cap (h.frz E.im fun hr b hb => E.frz id hr hσ b hb) hi
      simpa using h2
    · rename_i k x hσ
      have h2 := h.upd E hσ
      have h3 := VR.epo (P := P) (I0 := I0) (base := base) (om := om') (w := w') e id (xs.set k x) i j b cap (by simpa using h2) (by simpa using hi)
      exact h3
  | rp cs off b cur T fr hb hc hn h =>
    exact .rp cs off b cur T fr (E.im b hb).1 ((E.im b hb).2.trans hc) hn (fun j y c h1 h2 => ⟨(h j y c h1 h2).1, RR.mono P E.im (h j y c h1 h2).2⟩)
  | agg cs vs hn hy h1 h ih =>
    refine .agg _ vs (by rw [PV.subs_length]; exact hn) ?_ h1 ?_
    · intro j y hj
      obtain ⟨x, hx, rfl⟩ := PV.subs_get hj
      exact PV.isCell_sub (hy j x hx)
    · intro j y c hj hc
      obtain ⟨x, hx, rfl⟩ := PV.subs_get hj
      exact ih j x c hx hc
  | tup cs vs hn h ih =>
    refine .tup _ vs (by rw [PV.subs_length]; exact hn) ?_
    intro j y c hj hc
    obtain ⟨x, hx, rfl⟩ := PV.subs_get hj
    exact ih j x c hx hc
  | fn f cs vs hn h ih =>
    refine .fn f _ vs (by rw [PV.subs_length]; exact hn) ?_
    intro j y c hj hc
    obtain ⟨x, hx, rfl⟩ := PV.subs_get hj
    exact ih j x c hx hc
end
end Go.Proofs.Ytcahjpkmldmjdaa.Ab
