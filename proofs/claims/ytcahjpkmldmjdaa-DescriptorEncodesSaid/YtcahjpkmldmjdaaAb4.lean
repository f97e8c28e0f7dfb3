/-
  Abstract values for walks without memory: the table of types, and what each operation does to the state of a call.
-/
import Derived.Test.YtcahjpkmldmjdaaAb3
import Derived.Deep.AppendSrc
import Derived.Laws.MakeOwn
import Derived.Lib.ConvBytes
import Derived.WalkKit
namespace Go.Proofs.Ytcahjpkmldmjdaa.Ab
open Go

inductive TD where
  | int (k : IntKind)
  | bool
  | str
  | slice (e : Nat)
  | array (n e : Nat)
  | struct (fs : List (Nat × Nat))
  | ptr (e : Nat)
  | fn

structure TI where
  desc : TD
  size : Nat
  bytes : Nat
  zero : PV

def TD.agg : TD → Bool
  | .struct _ => true
  | .array _ _ => true
  | _ => false

def TDOk : TD → TypeDesc → Prop
  | .int k, .int k' => k = k'
  | .bool, .bool => True
  | .str, .string => True
  | .slice e, .slice e' => e = e'
  | .array n e, .array n' e' => n = n' ∧ e = e'
  | .struct fs, .struct gs => fs = gs.toList.map fun f => (f.offset, f.type)
  | .ptr e, .pointer e' => e = e'
  | .fn, .func _ _ _ => True
  | _, _ => False

structure TIOk (P : Program) (t : Nat) (i : TI) : Prop where
  und : ∃ d, P.underlying t = some d ∧ TDOk i.desc d
  info : ∃ I z, P.info? t = some I ∧ I.size = i.size ∧ I.bytes = i.bytes ∧ I.zero = some z ∧ ∀ (Im : Nat → Prop) (w : World), RR P Im w i.zero z
  zlen : i.zero.cells.length = i.size

abbrev Tab := Nat → Option TI

def TabOK (P : Program) (tab : Tab) : Prop := ∀ t i, tab t = some i → TIOk P t i

/-! ### what an operation leaves -/

inductive Fx where
  | val (v : PV)
  | wr (id : Id) (cs : List PV)
  | act (σ : Id → Sub) (id : Id) (o : Option (List PV)) (v : PV)

def ap (d : Option Nat) (S : St) : Fx → St
  | .val v => S.put d v
  | .wr id cs => (S.setH id (some cs)).put d .dead
  | .act σ id o v => ((S.sub σ).setH id o).put d v

inductive Ev where
  | go (c : Prop) (f : Fx)
  | br (b : Bool) (f g : Fx)
  | nd (c : Bool → Prop) (v : Bool → PV)
  | call (f : Nat) (args : List PV)
  | stuck

def oneSub (id : Id) (s : Sub) : Id → Sub := fun i => if i = id then s else .keep
def twoSub (id : Id) (s : Sub) (jd : Id) (r : Sub) : Id → Sub := fun i => if i = id then s else if i = jd then r else .keep

def const1 : Value → PV
  | .int k n => .int k n
  | .bool b => .bool b
  | .string s => .str s
  | .pointer none => .nilp
  | .slice none 0 0 => .sl 0 .full []
  | .nilIface => .nili
  | .nilFunc => .nilf
  | _ => .dead

def ofConst : Value → PV
  | .agg cs => if cs.all (·.oneCell') then .agg (cs.toList.map const1) else .dead
  | v => const1 v

def opnd (S : St) : Operand → PV
  | .tmp t => S.env t
  | .const v => ofConst v
  | .func f => .fn f []
  | .global _ => .dead

/-- A nil slice bears its type. -/
def retype (tab : Tab) (ty : Nat) : PV → PV
  | .sl 0 .full [] => match tab ty with
    | some ⟨.slice e, _, _, _⟩ => .sl e .full []
    | _ => .sl 0 .full []
  | v => v

def opndT (tab : Tab) (ty : Nat) (S : St) : Operand → PV
  | .const v => retype tab ty (ofConst v)
  | x => opnd S x

def bitsI (op : BinOp) (k : IntKind) (x y : Int) : Int := Go.bits op k x y

def strAt (s : ByteArray) (i : Nat) : Int := ((s.data.toList[i]?).getD 0).toNat

def mkStr (ns : List Int) : ByteArray := ns.foldl (fun r n => r.push (UInt8.ofNat n.toNat)) ByteArray.empty

def strNums (s : ByteArray) : List Int := s.data.toList.map fun b => (b.toNat : Int)

def PV.num : PV → Int
  | .int _ n => n
  | _ => 0

def PV.isU8 : PV → Bool
  | .int .u8 _ => true
  | _ => false

def PV.live : PV → Bool
  | .dead => false
  | .tup _ => false
  | _ => true

/-- No row, no variable of the call's own in it. -/
def PV.isPure1 : PV → Bool
  | .int _ _ => true
  | .bool _ => true
  | .str _ => true
  | .nilp => true
  | .nilf => true
  | .nili => true
  | .sl _ .ro _ => true
  | .sl _ .full _ => true
  | _ => false

def PV.isPure : PV → Bool
  | .agg cs => cs.all PV.isPure1
  | v => v.isPure1

/-- Its rows are shared from now on. -/
def PV.fz1 : PV → PV
  | .sl e (.own _) xs => .sl e .ro xs
  | v => v

def PV.fz : PV → PV
  | .agg cs => .agg (cs.map PV.fz1)
  | v => v.fz1

/-- Whose rows are in it. -/
def PV.owns1 : PV → List Id
  | .sl _ (.own id) _ => [id]
  | _ => []

def PV.owns : PV → List Id
  | .agg cs => cs.flatMap PV.owns1
  | v => v.owns1

def frzAll (ids : List Id) : Id → Sub := fun i => if i ∈ ids then .frz else .keep

def frzKill (ids : List Id) (jd : Id) : Id → Sub := fun i => if i = jd then .frz else if i ∈ ids then .frz else .keep

def part (i : TI) (cs : List PV) (off : Nat) : Option PV :=
  if i.desc.agg then (if off + i.size ≤ cs.length then some (.agg ((cs.drop off).take i.size)) else none) else cs[off]?

def putCells (cs : List PV) (off : Nat) (new : List PV) : List PV := cs.take off ++ new ++ cs.drop (off + new.length)

def setPart (y : PV) (j : Nat) (x : PV) : PV := match y with
  | .agg cs => .agg (putCells cs j x.cells)
  | _ => x

def evInt (op : BinOp) (k : IntKind) (a b : Int) : Ev := match op with
  | .add => .go True (.val (.int k (k.wrap (a + b))))
  | .sub => .go True (.val (.int k (k.wrap (a - b))))
  | .mul => .go True (.val (.int k (k.wrap (a * b))))
  | .quo => .go (b ≠ 0) (.val (.int k (k.wrap (a.tdiv b))))
  | .rem => .go (b ≠ 0) (.val (.int k (a.tmod b)))
  | .and => .go True (.val (.int k (bitsI .and k a b)))
  | .or => .go True (.val (.int k (bitsI .or k a b)))
  | .xor => .go True (.val (.int k (bitsI .xor k a b)))
  | .andNot => .go True (.val (.int k (bitsI .andNot k a b)))
  | .eql => .go True (.val (.bool (a == b)))
  | .neq => .go True (.val (.bool (a != b)))
  | .lss => .go True (.val (.bool (decide (a < b))))
  | .leq => .go True (.val (.bool (decide (a ≤ b))))
  | .gtr => .go True (.val (.bool (decide (a > b))))
  | .geq => .go True (.val (.bool (decide (a ≥ b))))
  | _ => .stuck

def evStr (op : BinOp) (a b : ByteArray) : Ev := match op with
  | .add => .go (a.size + b.size ≤ 9223372036854775807) (.val (.str (a ++ b)))
  | .eql => .go True (.val (.bool (a.toList == b.toList)))
  | .neq => .go True (.val (.bool (!(a.toList == b.toList))))
  | .lss => .go True (.val (.bool (Op.bytesLess a.toList b.toList)))
  | .geq => .go True (.val (.bool (!(Op.bytesLess a.toList b.toList))))
  | .leq => .go True (.val (.bool (Op.bytesLess a.toList b.toList || a.toList == b.toList)))
  | .gtr => .go True (.val (.bool (!(Op.bytesLess a.toList b.toList || a.toList == b.toList))))
  | _ => .stuck

def evBin (op : BinOp) (x y : PV) : Ev := match x, y with
  | .int k a, .int k' b => match op with
    | .shl => .go (0 ≤ b) (.val (.int k (k.wrap (a * 2 ^ (min b.toNat k.bits)))))
    | .shr => .go (0 ≤ b) (.val (.int k (a.fdiv (2 ^ (min b.toNat k.bits)))))
    | op => if k = k' then evInt op k a b else .stuck
  | .str a, .str b => evStr op a b
  | _, _ => .stuck

def evBool (op : BinOp) (a b : Bool) : Ev := match op with
  | .eql => .go True (.val (.bool (a == b)))
  | .neq => .go True (.val (.bool (!(a == b))))
  | _ => .stuck

def isNilSl : Operand → Bool
  | .const (.slice none _ _) => true
  | _ => false

def evNil (tab : Tab) (t : Nat) (op : BinOp) (x : PV) : Ev := match tab t, x with
  | some ⟨.slice _, _, _, _⟩, .sl _ _ xs => match op with
    | .eql => .nd (fun b => b = true → xs = []) (fun b => .bool b)
    | .neq => .nd (fun b => b = false → xs = []) (fun b => .bool b)
    | _ => .stuck
  | _, _ => .stuck

def evOp (tab : Tab) (t : Nat) (op : BinOp) (x y : PV) : Ev := match x, y with
  | .bool a, .bool b => match tab t with
    | some ⟨.bool, _, _, _⟩ => evBool op a b
    | _ => .stuck
  | x, y => evBin op x y

def evConv (tab : Tab) (s d : Nat) (x : PV) : Ev := match tab d, x with
  | some ⟨.int k, _, _, _⟩, .int _ n => match tab s with
    | some ⟨.int _, _, _, _⟩ => .go True (.val (.int k (k.wrap n)))
    | _ => .stuck
  | some ⟨.str, _, _, _⟩, .str b => match tab s with
    | some ⟨.str, _, _, _⟩ => .go True (.val (.str b))
    | _ => .stuck
  | some ⟨.str, _, _, _⟩, .sl e' _ xs => match tab s with
    | some ⟨.slice e, _, _, _⟩ => match tab e with
      | some ⟨.int .u8, _, _, _⟩ => .go (e' = e ∧ xs.all PV.isU8 = true) (.val (.str (mkStr (xs.map PV.num))))
      | _ => .stuck
    | _ => .stuck
  | some ⟨.slice e, _, _, _⟩, .str b => match tab s with
    | some ⟨.str, _, _, _⟩ => match tab e with
      | some ⟨.int .u8, sz, _, _⟩ => .go (sz = 1 ∧ b.size ≤ 9223372036854775807) (.val (.sl e .ro ((strNums b).map (PV.int .u8))))
      | _ => .stuck
    | _ => .stuck
  | _, _ => .stuck

/-- A slice of bytes by another name of its type: the row is shared from then on. -/
def evSame (tab : Tab) (s : Nat) (x : PV) : Ev := match tab s, x with
  | some ⟨.slice e, _, _, _⟩, .sl e' (.own id) xs => match tab e with
    | some ⟨.int .u8, _, _, _⟩ => .go (e' = e ∧ xs ≠ [] ∧ id.isRow = true) (.act (oneSub id .kill) id none (.sl e .ro xs))
    | _ => .stuck
  | _, _ => .stuck

def optInt (S : St) (d : Int) : Option Operand → Option Int
  | none => some d
  | some x => match opnd S x with
    | .int _ n => some n
    | _ => none

def evSlice (tab : Tab) (t : Nat) (S : St) (x : PV) (lo hi mx : Option Operand) : Ev := match tab t, x with
  | some ⟨.slice e, _, _, _⟩, .sl e' tg xs =>
    match optInt S 0 lo, optInt S xs.length hi, optInt S xs.length mx, tab e with
    | some l, some h, some m, some _ =>
      let ys := (xs.take h.toNat).drop l.toNat
      let c := e' = e ∧ 0 ≤ l ∧ l ≤ h ∧ h ≤ m ∧ m ≤ xs.length ∧ (mx.isSome = true → hi.isSome = true)
      match tg with
      | .own id => .go (c ∧ id.isRow = true) (.act (oneSub id .frz) id none (.sl e .ro ys))
      | tg => .go c (.val (.sl e (if (mx.isSome && decide (h = m)) || (decide (tg = .full) && decide (h = xs.length) && !mx.isSome) then .full else .ro) ys))
    | _, _, _, _ => .stuck
  | some ⟨.str, _, _, _⟩, .str s =>
    match optInt S 0 lo, optInt S s.size hi with
    | some l, some h => .go (mx = none ∧ 0 ≤ l ∧ l ≤ h ∧ h ≤ s.size) (.val (.str (s.extract l.toNat h.toNat)))
    | _, _ => .stuck
  | _, _ => .stuck

def appSub (id : Option Id) (rid : Id) : Id → Sub := match id with
  | some d => twoSub d .kill rid .frz
  | none => oneSub rid .frz

def evAppendTo (tab : Tab) (rid : Id) (i : TI) (e tx : Nat) (id : Option Id) (xs : List PV) (y : PV) : Ev := match y with
  | .sl e' tg ys => match tab tx with
    | some ⟨.slice _, _, _, _⟩ => match tg with
      | .own _ => .stuck
      | _ => .go (e' = e ∧ (xs.length + ys.length) * i.bytes ≤ 140737488355328 ∧ xs.length + ys.length ≤ 9223372036854775807 ∧ 0 < i.size) (.act (appSub id rid) rid none (.sl e (.own rid) (xs ++ ys)))
    | _ => .stuck
  | .str b => match tab tx with
    | some ⟨.str, _, _, _⟩ =>
      .go (i.size = 1 ∧ (xs.length + b.size) * i.bytes ≤ 140737488355328 ∧ xs.length + b.size ≤ 9223372036854775807) (.act (appSub id rid) rid none (.sl e (.own rid) (xs ++ (strNums b).map (PV.int .u8))))
    | _ => .stuck
  | _ => .stuck

def evAppend (tab : Tab) (r k : Nat) (S : St) (c : Call) : Ev := match c.args.toList, c.argTypes.toList with
  | [s, x], [ts, tx] => match tab ts with
    | some ⟨.slice e, _, _, _⟩ => match tab e with
      | some i => match opndT tab ts S s with
        | .sl e' (.own id) xs => if e' = e ∧ id.isRow = true then evAppendTo tab (.row r k) i e tx (some id) xs (opndT tab tx S x) else .stuck
        | .sl _ .full [] => evAppendTo tab (.row r k) i e tx none [] (opndT tab tx S x)
        | _ => .stuck
      | none => .stuck
    | _ => .stuck
  | _, _ => .stuck

def evLen (tab : Tab) (S : St) (c : Call) : Ev := match c.args.toList, c.argTypes.toList with
  | [x], [t] => match tab t, opndT tab t S x with
    | some ⟨.slice _, _, _, _⟩, .sl _ _ xs => .go True (.val (.int .i64 xs.length))
    | some ⟨.str, _, _, _⟩, .str s => .go True (.val (.int .i64 s.size))
    | some ⟨.array n _, _, _, _⟩, _ => .go True (.val (.int .i64 n))
    | _, _ => .stuck
  | _, _ => .stuck

def evMinMax (mx : Bool) (S : St) (c : Call) : Ev := match c.args.toList with
  | [x, y] => match opnd S x, opnd S y with
    | .int k a, .int k' b => .go (k = k') (.val (.int k (if mx then (if b > a then b else a) else (if b < a then b else a))))
    | _, _ => .stuck
  | _ => .stuck

def evBuildSlice (tab : Tab) (r k t n : Nat) (S : St) (parts : Array (Nat × Operand)) : Ev := match tab t with
  | some ⟨.slice e, _, _, _⟩ => match tab e with
    | some i =>
      let ys := parts.toList.map fun p => opndT tab e S p.2
      .go (parts.toList.map (·.1) = List.range n ∧ n * i.size ≤ 16777216 ∧ 0 < i.size ∧ (ys.all fun y => decide (y.cells.length = i.size) && y.fz.isPure) = true ∧ ((ys.flatMap PV.owns).all Id.isRow) = true)
        (.act (frzKill (ys.flatMap PV.owns) (.row r k)) (.row r k) none (.sl e (.own (.row r k)) (ys.map PV.fz)))
    | none => .stuck
  | _ => .stuck

def evMake (tab : Tab) (r k t : Nat) (l c : PV) : Ev := match tab t, l, c with
  | some ⟨.slice e, _, _, _⟩, .int _ n, .int _ m => match tab e with
    | some i => .go (0 ≤ n ∧ n ≤ m ∧ m ≤ 9223372036854775807 ∧ (i.bytes : Int) * m ≤ 281474976710656 ∧ 0 < i.size) (.act (oneSub (.row r k) .frz) (.row r k) none (.sl e (.own (.row r k)) (List.replicate n.toNat i.zero)))
    | none => .stuck
  | _, _, _ => .stuck

def evFieldAddr (tab : Tab) (s f : Nat) (x : PV) : Ev := match tab s with
  | some ⟨.struct fs, _, _, _⟩ => match fs[f]? with
    | some (off, ft) => match tab ft with
      | some i => match x with
        | .ptr id o => .go (0 < i.size) (.val (.ptr id (o + off)))
        | .rp cs o => .go (0 < i.size) (.val (.rp cs (o + off)))
        | .ep e tg xs q j => .go (0 < i.size) (.val (.ep e tg xs q (j + off)))
        | _ => .stuck
      | none => .stuck
    | none => .stuck
  | _ => .stuck

def evField (tab : Tab) (s f : Nat) (x : PV) : Ev := match tab s, x with
  | some ⟨.struct fs, _, _, _⟩, .agg cs => match fs[f]? with
    | some (off, ft) => match tab ft with
      | some i => match part i cs off with
        | some v => .go True (.val v)
        | none => .stuck
      | none => .stuck
    | none => .stuck
  | _, _ => .stuck

def evIndexAddr (tab : Tab) (t : Nat) (x ix : PV) : Ev := match tab t, x, ix with
  | some ⟨.slice e, _, _, _⟩, .sl e' tg xs, .int _ n => match tab e with
    | some _ => .go (e' = e ∧ 0 ≤ n ∧ n < xs.length) (.val (.ep e tg xs n.toNat 0))
    | none => .stuck
  | some ⟨.array m e, _, _, _⟩, .ptr id off, .int _ n => match tab e with
    | some i => .go (0 ≤ n ∧ n < m) (.val (.ptr id (off + n.toNat * i.size)))
    | none => .stuck
  | _, _, _ => .stuck

def evIndex (tab : Tab) (t : Nat) (x ix : PV) : Ev := match tab t, x, ix with
  | some ⟨.str, _, _, _⟩, .str s, .int _ n => .go (0 ≤ n ∧ n < s.size) (.val (.int .u8 (strAt s n.toNat)))
  | some ⟨.array m e, _, _, _⟩, .agg cs, .int _ n => match tab e with
    | some i => match part i cs (n.toNat * i.size) with
      | some v => .go (0 ≤ n ∧ n < m) (.val v)
      | none => .stuck
    | none => .stuck
  | _, _, _ => .stuck

def evLoad (tab : Tab) (t : Nat) (S : St) (x : PV) : Ev := match tab t, x with
  | some i, .ptr id off => match S.H id with
    | some cs => match part i cs off with
      | some v => .go True (.val v)
      | none => .stuck
    | none => .stuck
  | some i, .rp cs off => match part i cs off with
    | some v => .go True (.val v)
    | none => .stuck
  | some i, .ep _ _ xs q j => match xs[q]? with
    | some y => match part i y.cells j with
      | some v => .go True (.val v)
      | none => .stuck
    | none => .stuck
  | _, _ => .stuck

def evStore (tab : Tab) (t : Nat) (S : St) (x y : PV) : Ev := match tab t, x with
  | some i, .ptr id off => match S.H id with
    | some cs => .go (y.cells.length = i.size ∧ off + i.size ≤ cs.length ∧ y.live = true) (.wr id (putCells cs off y.cells))
    | none => .stuck
  | some i, .ep _ (.own id) xs q j => match xs[q]? with
    | some z => .go (y.cells.length = i.size ∧ j + i.size ≤ z.cells.length ∧ y.isPure = true ∧ id.isRow = true ∧ 0 < i.size) (.act (oneSub id (.upd q (setPart z j y))) id none .dead)
    | none => .stuck
  | _, _ => .stuck

def fillA (pl : List (Nat × Nat)) (cs : List PV) : List (Nat × PV) → Option (List PV)
  | [] => some cs
  | (i, v) :: rest => match pl[i]? with
    | some (off, n) => if v.cells.length = n ∧ off + n ≤ cs.length then fillA pl (putCells cs off v.cells) rest else none
    | none => none

def placesA (tab : Tab) : List (Nat × Nat) → Option (List (Nat × Nat))
  | [] => some []
  | (off, ft) :: fs => match tab ft, placesA tab fs with
    | some i, some pl => some ((off, i.size) :: pl)
    | _, _ => none

def partsA (tab : Tab) (S : St) (fs : List (Nat × Nat)) : List (Nat × Operand) → List (Nat × PV)
  | [] => []
  | (i, x) :: rest => (i, opndT tab ((fs[i]?.getD (0, 0)).2) S x) :: partsA tab S fs rest

def evBuild (tab : Tab) (t : Nat) (S : St) (parts : Array (Nat × Operand)) : Ev := match tab t with
  | some ⟨.struct fs, _, _, z⟩ => match placesA tab fs with
    | some pl => match fillA pl z.cells (partsA tab S fs parts.toList) with
      | some cs => .go (((partsA tab S fs parts.toList).all fun p => p.2.live) = true) (.val (.agg cs))
      | none => .stuck
    | none => .stuck
  | _ => .stuck

def ev (tab : Tab) (r k : Nat) (o : Oper) (S : St) : Ev := match o.op with
  | .move x => .go True (.val (opndT tab o.type S x))
  | .assign x => .go True (.val (opndT tab o.type S x))
  | .pick c a b => match opnd S c with
    | .bool q => .br q (.val (opnd S a)) (.val (opnd S b))
    | _ => .stuck
  | .alloc e => match tab e with
    | some i => .go True (.act (oneSub (.loc r k) .kill) (.loc r k) (some i.zero.cells) (.ptr (.loc r k) 0))
    | none => .stuck
  | .box e x => match tab e with
    | some i => .go ((opndT tab e S x).cells.length = i.size ∧ (opndT tab e S x).live = true) (.act (oneSub (.loc r k) .kill) (.loc r k) (some ((opndT tab e S x).cells.map (PV.sub (oneSub (.loc r k) .kill)))) (.ptr (.loc r k) 0))
    | none => .stuck
  | .build t parts => evBuild tab t S parts
  | .buildSlice t n parts => evBuildSlice tab r k t n S parts
  | .load t x => evLoad tab t S (opnd S x)
  | .store t x y => evStore tab t S (opnd S x) (opndT tab t S y)
  | .nilCheck x => match opnd S x with
    | .ptr id off => .go True (.val (.ptr id off))
    | .rp cs off => .go True (.val (.rp cs off))
    | _ => .stuck
  | .binOp op t x y _ => if isNilSl y then evNil tab t op (opnd S x) else evOp tab t op (opnd S x) (opnd S y)
  | .unOp op _ x => match op, opnd S x with
    | .not, .bool b => .go True (.val (.bool (!b)))
    | .neg, .int k n => .go True (.val (.int k (k.wrap (0 - n))))
    | .xor, .int k n => .go True (.val (.int k (bitsI .xor k (if k.signed then -1 else k.max) n)))
    | _, _ => .stuck
  | .convert s d x => if s = d then evSame tab s (opnd S x) else evConv tab s d (opnd S x)
  | .makeFunc (.func f) first captured => if first.size = 0 then .go True (.val (.fn f (captured.toList.map (opnd S)))) else .stuck
  | .makeSlice t l c => evMake tab r k t (opnd S l) (opnd S c)
  | .slice t x lo hi mx => evSlice tab t S (opnd S x) lo hi mx
  | .fieldAddr s x f => evFieldAddr tab s f (opnd S x)
  | .field s x f => evField tab s f (opnd S x)
  | .indexAddr t x ix => evIndexAddr tab t (opnd S x) (opnd S ix)
  | .index t x ix => evIndex tab t (opnd S x) (opnd S ix)
  | .extract x i => match opnd S x with
    | .tup vs => match vs[i]? with
      | some v => .go True (.val v)
      | none => .stuck
    | _ => .stuck
  | .call c => match c.callee with
    | .builtin .len => evLen tab S c
    | .builtin .append => evAppend tab r k S c
    | .builtin .min => evMinMax false S c
    | .builtin .max => evMinMax true S c
    | .value f => match opnd S f with
      | .fn g caps => .call g (((c.args.toList.zip c.argTypes.toList).map fun p => opndT tab p.2 S p.1) ++ caps)
      | _ => .stuck
    | _ => .stuck
  | _ => .stuck

end Go.Proofs.Ytcahjpkmldmjdaa.Ab
