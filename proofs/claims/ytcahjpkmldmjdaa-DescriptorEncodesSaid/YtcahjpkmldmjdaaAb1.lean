/-
  Abstract values for walks without memory: a value of the machine is read as a plain tree; slices read as lists.
  This text: the values, what they say of memory, and that later worlds keep it.
-/
import Derived.Orders
import Derived.Laws.AppendOwn
import Derived.KernelRfl
namespace Go.Proofs.Ytcahjpkmldmjdaa.Ab
open Go

inductive Id where
  | par (k : Nat)
  | ret (k : Nat)
  | loc (r k : Nat)
  | row (r k : Nat)
  | rrow (k : Nat)
  deriving DecidableEq

def Id.isRow : Id → Bool
  | .row _ _ => true
  | .rrow _ => true
  | _ => false

inductive Tag where
  | ro
  | full
  | own (id : Id)
  deriving DecidableEq

def Tag.isOwn : Tag → Bool
  | .own _ => true
  | _ => false

inductive PV where
  | dead
  | int (k : IntKind) (n : Int)
  | bool (b : Bool)
  | str (s : ByteArray)
  | nilp
  | nilf
  | nili
  | sl (e : TypeId) (t : Tag) (xs : List PV)
  | ep (e : TypeId) (t : Tag) (xs : List PV) (i j : Nat)
  | ptr (id : Id) (off : Nat)
  | rp (cs : List PV) (off : Nat)
  | agg (cs : List PV)
  | tup (vs : List PV)
  | fn (f : Nat) (cs : List PV)
  deriving Inhabited

/-- The cells of a value. -/
def PV.cells : PV → List PV
  | .agg cs => cs
  | v => [v]

/-- Does a value fill one cell? -/
def PV.isCell : PV → Bool
  | .agg _ => false
  | .tup _ => false
  | _ => true

section
variable (P : Program)

/-- Pure values: what they read as, by blocks that nobody changes any more. -/
inductive RR (Im : Nat → Prop) (w : World) : PV → Value → Prop
  | int (k : IntKind) (n : Int) : RR Im w (.int k n) (.int k n)
  | bool (b : Bool) : RR Im w (.bool b) (.bool b)
  | str (s : ByteArray) : RR Im w (.str s) (.string s)
  | nilp : RR Im w .nilp (.pointer none)
  | nilf : RR Im w .nilf .nilFunc
  | nili : RR Im w .nili .nilIface
  | sl (e : TypeId) (t : Tag) (xs : List PV) (p : Option Addr) (cap : Nat) (g o : Nat) (fs : List Value)
      (ht : t = .ro ∨ (t = .full ∧ cap = xs.length)) (hc : xs.length ≤ cap) (hm : cap ≤ maxLen)
      (hp : xs ≠ [] → p = some ⟨g, o, none⟩ ∧ Im g)
      (hz : p = none → cap = 0)
      (hf : fs.length = xs.length * P.cellsOf e)
      (hs : ∀ (i : Nat) (x : PV), xs[i]? = some x → x.cells.length = P.cellsOf e)
      (hl : ∀ (k : Nat) (c : Value), fs[k]? = some c → w.cell? ⟨g, o + k, none⟩ = some c)
      (hy : ∀ (i : Nat) (x : PV) (j : Nat) (y : PV), xs[i]? = some x → x.cells[j]? = some y → y.isCell = true)
      (hr : ∀ (i : Nat) (x : PV) (j : Nat) (y : PV) (c : Value), xs[i]? = some x → x.cells[j]? = some y → fs[i * P.cellsOf e + j]? = some c → RR Im w y c) :
      RR Im w (.sl e t xs) (.slice p xs.length cap)
  | agg (cs : List PV) (vs : Array Value) (hn : cs.length = vs.size) (hy : ∀ (j : Nat) (y : PV), cs[j]? = some y → y.isCell = true)
      (h : ∀ (j : Nat) (y : PV) (c : Value), cs[j]? = some y → vs[j]? = some c → RR Im w y c) : RR Im w (.agg cs) (.agg vs)

/-- Elements laid flat. -/
structure Flat (R : PV → Value → Prop) (sz : Nat) (xs : List PV) (fs : List Value) : Prop where
  len : fs.length = xs.length * sz
  sizes : ∀ (i : Nat) (x : PV), xs[i]? = some x → x.cells.length = sz
  cell : ∀ (i : Nat) (x : PV) (j : Nat) (y : PV), xs[i]? = some x → x.cells[j]? = some y → y.isCell = true
  rel : ∀ (i : Nat) (x : PV) (j : Nat) (y : PV) (c : Value), xs[i]? = some x → x.cells[j]? = some y → fs[i * sz + j]? = some c → R y c

theorem Flat.nil {R : PV → Value → Prop} {sz : Nat} : Flat R sz [] [] :=
  ⟨by simp, fun _ _ h => by simp at h, fun _ _ _ _ h => by simp at h, fun _ _ _ _ _ h => by simp at h⟩

theorem Flat.mono {R R' : PV → Value → Prop} {sz : Nat} {xs : List PV} {fs : List Value} (h : Flat R sz xs fs) (hR : ∀ y c, R y c → R' y c) : Flat R' sz xs fs :=
  ⟨h.len, h.sizes, h.cell, fun i x j y c h1 h2 h3 => hR _ _ (h.rel i x j y c h1 h2 h3)⟩

theorem Flat.append {R : PV → Value → Prop} {sz : Nat} {xs ys : List PV} {fs gs : List Value} (h : Flat R sz xs fs) (h' : Flat R sz ys gs) : Flat R sz (xs ++ ys) (fs ++ gs) := by
  have pick : ∀ (i : Nat) (x : PV), (xs ++ ys)[i]? = some x → (i < xs.length ∧ xs[i]? = some x) ∨ (xs.length ≤ i ∧ ys[i - xs.length]? = some x) := by
    intro i x hx
    rw [List.getElem?_append] at hx
    split at hx
    · exact .inl ⟨by assumption, hx⟩
    · exact .inr ⟨by omega, hx⟩
  refine ⟨by simp only [List.length_append, h.len, h'.len, Nat.add_mul], ?_, ?_, ?_⟩
  · intro i x hx
    rcases pick i x hx with ⟨_, h1⟩ | ⟨_, h1⟩
    · exact h.sizes i x h1
    · exact h'.sizes _ x h1
  · intro i x j y hx hj
    rcases pick i x hx with ⟨_, h1⟩ | ⟨_, h1⟩
    · exact h.cell i x j y h1 hj
    · exact h'.cell _ x j y h1 hj
  · intro i x j y c hx hj hc
    rcases pick i x hx with ⟨hi, h1⟩ | ⟨hi, h1⟩
    · have hjs : j < sz := by
        have := h.sizes i x h1
        have := (List.getElem?_eq_some_iff.1 hj).1
        omega
      have hlt : i * sz + j < fs.length := by
        rw [h.len]
        calc i * sz + j < i * sz + sz := by omega
          _ = (i + 1) * sz := by rw [Nat.add_mul, Nat.one_mul]
          _ ≤ xs.length * sz := Nat.mul_le_mul_right _ hi
      rw [List.getElem?_append_left hlt] at hc
      exact h.rel i x j y c h1 hj hc
    · have hge : fs.length ≤ i * sz + j := by
        rw [h.len]
        exact Nat.le_trans (Nat.mul_le_mul_right _ hi) (Nat.le_add_right _ _)
      rw [List.getElem?_append_right hge, h.len] at hc
      refine h'.rel (i - xs.length) x j y c h1 hj ?_
      rw [← hc]
      congr 1
      rw [Nat.sub_mul]
      have := Nat.mul_le_mul_right sz hi
      omega

theorem RR.mono {Im Im' : Nat → Prop} {w w' : World} (him : ∀ b, Im b → Im' b ∧ w'.heap[b]? = w.heap[b]?) {p : PV} {v : Value} (h : RR P Im w p v) : RR P Im' w' p v := by
  induction h with
  | int k n => exact .int k n
  | bool b => exact .bool b
  | str s => exact .str s
  | nilp => exact .nilp
  | nilf => exact .nilf
  | nili => exact .nili
  | sl e t xs p cap g o fs ht hc hm hp hz hf hs hl hy hr ih =>
    by_cases hx : xs = []
    · subst hx
      have hfs : fs = [] := List.eq_nil_of_length_eq_zero (by simpa using hf)
      subst hfs
      exact .sl e t [] p cap g o [] ht hc hm (fun h => absurd rfl h) hz hf hs (fun k c h => by simp at h) hy (fun i x j y c h => by simp at h)
    · have hg := (hp hx).2
      refine .sl e t xs p cap g o fs ht hc hm (fun _ => ⟨(hp hx).1, (him g hg).1⟩) hz hf hs (fun k c h => ?_) hy ih
      have := hl k c h
      rw [World.cell?_of_block (w := w) (w' := w') (a := ⟨g, o + k, none⟩) (him g hg).2]
      exact this
  | agg cs vs hn hy h ih => exact .agg cs vs hn hy ih

theorem RR.sl_inv {Im : Nat → Prop} {w : World} {e : TypeId} {t : Tag} {xs : List PV} {v : Value} (h : RR P Im w (.sl e t xs) v) :
    ∃ p cap g o fs, v = .slice p xs.length cap ∧ (t = .ro ∨ (t = .full ∧ cap = xs.length)) ∧ xs.length ≤ cap ∧ cap ≤ maxLen ∧ (xs ≠ [] → p = some ⟨g, o, none⟩ ∧ Im g) ∧ (p = none → cap = 0) ∧
      Flat (RR P Im w) (P.cellsOf e) xs fs ∧ ∀ (k : Nat) (c : Value), fs[k]? = some c → w.cell? ⟨g, o + k, none⟩ = some c := by
  cases h with
  | sl _ _ _ p cap g o fs ht hc hm hp hz hf hs hl hy hr => exact ⟨p, cap, g, o, fs, rfl, ht, hc, hm, hp, hz, ⟨hf, hs, hy, hr⟩, hl⟩

theorem RR.sl_mk {Im : Nat → Prop} {w : World} {e : TypeId} {t : Tag} {xs : List PV} {p : Option Addr} {cap : Nat} {g o : Nat} {fs : List Value}
    (ht : t = .ro ∨ (t = .full ∧ cap = xs.length)) (hc : xs.length ≤ cap) (hm : cap ≤ maxLen) (hp : xs ≠ [] → p = some ⟨g, o, none⟩ ∧ Im g) (hz : p = none → cap = 0)
    (hF : Flat (RR P Im w) (P.cellsOf e) xs fs) (hl : ∀ (k : Nat) (c : Value), fs[k]? = some c → w.cell? ⟨g, o + k, none⟩ = some c) : RR P Im w (.sl e t xs) (.slice p xs.length cap) :=
  .sl e t xs p cap g o fs ht hc hm hp hz hF.len hF.sizes hl hF.cell hF.rel

theorem RR.oneCell {Im : Nat → Prop} {w : World} {y : PV} {c : Value} (h : RR P Im w y c) (hy : y.isCell = true) : c.oneCell' = true := by
  cases h <;> first | rfl | (simp [PV.isCell] at hy)

theorem RR.cellsLen {Im : Nat → Prop} {w : World} {y : PV} {c : Value} (h : RR P Im w y c) : c.cells.size = y.cells.length := by
  cases h <;> simp [PV.cells, Value.cells, *]

theorem RR.cellsRel {Im : Nat → Prop} {w : World} {y : PV} {c : Value} (h : RR P Im w y c) : (∀ (j : Nat) (z : PV), y.cells[j]? = some z → z.isCell = true) ∧
    ∀ (j : Nat) (z : PV) (d : Value), y.cells[j]? = some z → c.cells[j]? = some d → RR P Im w z d := by
  cases h with
  | agg cs vs hn hy h => exact ⟨hy, h⟩
  | int k n => exact ⟨fun j z h => by cases j <;> simp [PV.cells] at h; subst h; rfl, fun j z d h1 h2 => by cases j <;> simp [PV.cells, Value.cells] at h1 h2; subst h1; subst h2; exact .int _ _⟩
  | bool k => exact ⟨fun j z h => by cases j <;> simp [PV.cells] at h; subst h; rfl, fun j z d h1 h2 => by cases j <;> simp [PV.cells, Value.cells] at h1 h2; subst h1; subst h2; exact .bool _⟩
  | str k => exact ⟨fun j z h => by cases j <;> simp [PV.cells] at h; subst h; rfl, fun j z d h1 h2 => by cases j <;> simp [PV.cells, Value.cells] at h1 h2; subst h1; subst h2; exact .str _⟩
  | nilp => exact ⟨fun j z h => by cases j <;> simp [PV.cells] at h; subst h; rfl, fun j z d h1 h2 => by cases j <;> simp [PV.cells, Value.cells] at h1 h2; subst h1; subst h2; exact .nilp⟩
  | nilf => exact ⟨fun j z h => by cases j <;> simp [PV.cells] at h; subst h; rfl, fun j z d h1 h2 => by cases j <;> simp [PV.cells, Value.cells] at h1 h2; subst h1; subst h2; exact .nilf⟩
  | nili => exact ⟨fun j z h => by cases j <;> simp [PV.cells] at h; subst h; rfl, fun j z d h1 h2 => by cases j <;> simp [PV.cells, Value.cells] at h1 h2; subst h1; subst h2; exact .nili⟩
  | sl e t xs p cap g o fs ht hc hm hp hz hf hs hl hy hr =>
    exact ⟨fun j z h => by cases j <;> simp [PV.cells] at h; subst h; rfl, fun j z d h1 h2 => by
      cases j <;> simp [PV.cells, Value.cells] at h1 h2; subst h1; subst h2; exact .sl e t xs p cap g o fs ht hc hm hp hz hf hs hl hy hr⟩
end

end Go.Proofs.Ytcahjpkmldmjdaa.Ab
