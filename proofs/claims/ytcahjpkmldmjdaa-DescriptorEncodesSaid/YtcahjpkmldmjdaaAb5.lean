/-
  Abstract values for walks without memory: the operations are sound, first part: operands, numbers, texts, tests.
-/
import Derived.Test.YtcahjpkmldmjdaaAb4
namespace Go.Proofs.Ytcahjpkmldmjdaa.Ab
open Go

section
variable {P : Program} {I0 : Nat → Prop} {base : Nat → Prop} {om : Id → Option Nat} {w : World} {v : Value}

theorem RR.int_inv {Im : Nat → Prop} {k : IntKind} {n : Int} (h : RR P Im w (.int k n) v) : v = .int k n := by
  cases h; rfl

theorem VR.int_inv {k : IntKind} {n : Int} (h : VR P I0 base om w (.int k n) v) : v = .int k n := by
  cases h with
  | pure _ _ h => cases h; rfl

theorem VR.bool_inv {b : Bool} (h : VR P I0 base om w (.bool b) v) : v = .bool b := by
  cases h with
  | pure _ _ h => cases h; rfl

theorem VR.str_inv {s : ByteArray} (h : VR P I0 base om w (.str s) v) : v = .string s := by
  cases h with
  | pure _ _ h => cases h; rfl

theorem VR.sl_pure {e : TypeId} {t : Tag} {xs : List PV} (h : VR P I0 base om w (.sl e t xs) v) (ht : ∀ id, t ≠ .own id) : RR P (Im I0 base om w) w (.sl e t xs) v := by
  cases h with
  | pure _ _ h => exact h
  | own id _ _ _ h => exact absurd rfl (ht id)

theorem VR.sl_own {e : TypeId} {id : Id} {xs : List PV} (h : VR P I0 base om w (.sl e (.own id) xs) v) : OwnS P I0 base om w id e xs v := by
  cases h with
  | pure _ _ h => obtain ⟨_, _, _, _, _, _, ht, _⟩ := h.sl_inv; rcases ht with h | ⟨h, _⟩ <;> cases h
  | own _ _ _ _ h => exact h

theorem VR.ptr_inv {id : Id} {off : Nat} (h : VR P I0 base om w (.ptr id off) v) : ∃ b, id.isRow = false ∧ om id = some b ∧ v = .pointer (some ⟨b, off, none⟩) := by
  cases h with
  | pure _ _ h => cases h
  | ptr _ _ b hr h => exact ⟨b, hr, h, rfl⟩

theorem VR.tup_inv {cs : List PV} (h : VR P I0 base om w (.tup cs) v) : ∃ vs : Array Value, v = .tuple vs ∧ cs.length = vs.size ∧
    ∀ (j : Nat) (y : PV) (c : Value), cs[j]? = some y → vs[j]? = some c → VR P I0 base om w y c := by
  cases h with
  | pure _ _ h => cases h
  | tup _ vs hn h => exact ⟨vs, rfl, hn, h⟩

theorem VR.fn_inv {f : Nat} {cs : List PV} (h : VR P I0 base om w (.fn f cs) v) : ∃ vs : Array Value, v = .func (.func f) #[] vs ∧ cs.length = vs.size ∧
    ∀ (j : Nat) (y : PV) (c : Value), cs[j]? = some y → vs[j]? = some c → VR P I0 base om w y c := by
  cases h with
  | pure _ _ h => cases h
  | fn _ _ vs hn h => exact ⟨vs, rfl, hn, h⟩

theorem VR.agg_inv {cs : List PV} (h : VR P I0 base om w (.agg cs) v) : ∃ vs : Array Value, v = .agg vs ∧ cs.length = vs.size ∧ (∀ (j : Nat) (y : PV), cs[j]? = some y → y.isCell = true) ∧
    (∀ (j : Nat) (c : Value), vs[j]? = some c → c.oneCell' = true) ∧ ∀ (j : Nat) (y : PV) (c : Value), cs[j]? = some y → vs[j]? = some c → VR P I0 base om w y c := by
  cases h with
  | pure _ _ h =>
    cases h with
    | agg _ vs hn hy h =>
      refine ⟨vs, rfl, hn, hy, fun j c hc => ?_, fun j y c h1 h2 => .pure _ _ (h j y c h1 h2)⟩
      have hj : j < cs.length := by have := (Array.getElem?_eq_some_iff.1 hc).1; omega
      exact (h j cs[j] c (List.getElem?_eq_getElem hj) hc).oneCell P (hy j _ (List.getElem?_eq_getElem hj))
  | agg _ vs hn hy h1 h => exact ⟨vs, rfl, hn, hy, h1, h⟩

theorem RR.nil_any {Im : Nat → Prop} {e e' : TypeId} (h : RR P Im w (.sl e .full []) v) : RR P Im w (.sl e' .full []) v := by
  obtain ⟨p, cap, g, o, fs, rfl, ht, hc, hm, hp, hz, hF, hl⟩ := h.sl_inv
  have hfs : fs = [] := List.eq_nil_of_length_eq_zero (by simpa using hF.len)
  subst hfs
  refine RR.sl_mk P (g := g) (o := o) (fs := []) (.inr ⟨rfl, ?_⟩) hc hm (fun h => absurd rfl h) hz Flat.nil (fun k c h => by simp at h)
  rcases ht with h | ⟨_, h⟩
  · cases h
  · exact h

theorem const1_VR (v : Value) : VR P I0 base om w (const1 v) v := by
  unfold const1
  split <;> first
    | exact .pure _ _ (.int _ _)
    | exact .pure _ _ (.bool _)
    | exact .pure _ _ (.str _)
    | exact .pure _ _ .nilp
    | exact .pure _ _ .nili
    | exact .pure _ _ .nilf
    | exact .pure _ _ (RR.sl_mk P (g := 0) (o := 0) (fs := []) (.inr ⟨rfl, rfl⟩) (by simp) (by simp [maxLen]) (fun h => absurd rfl h) (fun _ => rfl) Flat.nil (fun k c h => by simp at h))
    | exact .dead _

theorem const1_cell (v : Value) : (const1 v).isCell = true := by
  unfold const1
  split <;> rfl

theorem ofConst_VR (v : Value) : VR P I0 base om w (ofConst v) v := by
  unfold ofConst
  split
  · rename_i cs
    split
    · rename_i hall
      refine .agg _ _ (by simp) ?_ ?_ ?_
      · intro j y h
        rw [List.getElem?_map] at h
        cases hc : cs.toList[j]? with
        | none => simp [hc] at h
        | some c => simp [hc] at h; subst h; exact const1_cell c
      · intro j c hc
        exact (Array.all_eq_true_iff_forall_mem.1 hall) c (Array.mem_of_getElem? hc)
      · intro j y c h hc
        rw [List.getElem?_map, Array.getElem?_toList, hc] at h
        simp at h
        subst h
        exact const1_VR c
    · exact .dead _
  · exact const1_VR v

variable {a : Act} {S : St} {F : Fr} {tab : Tab}

theorem opnd_VR (h : SRel P F om a w S) (x : Operand) : VR P F.I0 F.base om w (opnd S x) (a.eval x) := by
  cases x with
  | tmp t => exact h.env t
  | const v => exact ofConst_VR v
  | global g => exact .dead _
  | func f => exact .fn f [] #[] rfl (fun j y c h => by simp at h)

theorem retype_VR {ty : Nat} {p : PV} (h : VR P I0 base om w p v) : VR P I0 base om w (retype tab ty p) v := by
  unfold retype
  split
  · have hr := h.sl_pure (fun id h => by cases h)
    split
    · exact .pure _ _ hr.nil_any
    · exact h
  · exact h

theorem opndT_VR (h : SRel P F om a w S) (ty : Nat) (x : Operand) : VR P F.I0 F.base om w (opndT tab ty S x) (a.eval x) := by
  unfold opndT
  split
  · exact retype_VR (ofConst_VR _)
  · exact opnd_VR h _

/-- One operation that makes a value and leaves the world. -/
theorem step_val {o : Oper} (h : SRel P F om a w S) (hd : ∀ t, o.dst = some t → t < F.n) {p : PV} (hrun : (execOp a.eval o).run P w = .ok (.value v) w) (hv : VR P F.I0 F.base om w p v) :
    StepOK P F o a w (S.put o.dst p) := ⟨om, v, w, .inl hrun, h.val _ hd _ _ hv⟩

theorem run_evInt {op : BinOp} {k : IntKind} {x y : Int} {c : Prop} {f : Fx} (h : evInt op k x y = .go c f) (hc : c) (hop : op ≠ .shl ∧ op ≠ .shr) (t : TypeId) (w : World) :
    ∃ p v, f = .val p ∧ (binOp op t (.int k x) (.int k y)).run P w = .ok v w ∧ RR P (fun _ => False) w p v := by
  cases op <;> simp only [evInt, Ev.go.injEq, reduceCtorEq] at h <;> first | exact h.elim | skip
  all_goals (obtain ⟨rfl, rfl⟩ := h)
  · exact ⟨_, _, rfl, by simp [binOp, Op.intArith], .int _ _⟩
  · exact ⟨_, _, rfl, by simp [binOp, Op.intArith], .int _ _⟩
  · exact ⟨_, _, rfl, by simp [binOp, Op.intArith], .int _ _⟩
  · exact ⟨_, _, rfl, by simp [binOp, Op.intDiv, hc], .int _ _⟩
  · exact ⟨_, _, rfl, by simp [binOp, Op.intDiv, hc], .int _ _⟩
  · exact ⟨_, _, rfl, by simp [binOp, intBits_and, bitsI], .int _ _⟩
  · exact ⟨_, _, rfl, by simp [binOp, intBits_or, bitsI], .int _ _⟩
  · exact ⟨_, _, rfl, by simp [binOp, intBits_xor, bitsI], .int _ _⟩
  · exact ⟨_, _, rfl, by simp [binOp, intBits_andNot, bitsI], .int _ _⟩
  all_goals exact ⟨_, _, rfl, by simp [binOp, Op.intCmp], .bool _⟩

theorem run_evStr {op : BinOp} {x y : ByteArray} {c : Prop} {f : Fx} (h : evStr op x y = .go c f) (hc : c) (t : TypeId) (w : World) :
    ∃ p v, f = .val p ∧ (binOp op t (.string x) (.string y)).run P w = .ok v w ∧ RR P (fun _ => False) w p v := by
  cases op <;> simp only [evStr, Ev.go.injEq, reduceCtorEq] at h <;> first | exact h.elim | skip
  all_goals (obtain ⟨rfl, rfl⟩ := h)
  · refine ⟨_, _, rfl, ?_, .str _⟩
    simp [binOp, Op.stringOp]
    omega
  all_goals exact ⟨_, _, rfl, by simp [binOp, Op.stringOp], .bool _⟩

theorem run_evBin {op : BinOp} {x y : PV} {c : Prop} {f : Fx} (h : evBin op x y = .go c f) (hc : c) (t : TypeId) (w : World) {vx vy : Value} (hx : VR P I0 base om w x vx) (hy : VR P I0 base om w y vy) :
    ∃ p v, f = .val p ∧ (binOp op t vx vy).run P w = .ok v w ∧ RR P (fun _ => False) w p v := by
  unfold evBin at h
  split at h
  · rename_i k a' k' b
    have := hx.int_inv; subst this
    have := hy.int_inv; subst this
    split at h
    · obtain ⟨rfl, rfl⟩ := Ev.go.inj h
      exact ⟨_, _, rfl, by simp [binOp, Op.shift, Int.not_lt.2 hc], .int _ _⟩
    · obtain ⟨rfl, rfl⟩ := Ev.go.inj h
      exact ⟨_, _, rfl, by simp [binOp, Op.shift, Int.not_lt.2 hc], .int _ _⟩
    · split at h
      · rename_i h1 h2 hk
        subst hk
        exact run_evInt h hc ⟨by simpa using h1, by simpa using h2⟩ t w
      · cases h
  · have := hx.str_inv; subst this
    have := hy.str_inv; subst this
    exact run_evStr h hc t w
  · cases h

end
end Go.Proofs.Ytcahjpkmldmjdaa.Ab
