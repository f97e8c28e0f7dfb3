/-
  The types of the plain functions, and how they are read.
-/
import Derived.Test.YtcahjpkmldmjdaaTab
import Derived.Test.YtcahjpkmldmjdaaAb32
namespace Go.Proofs.Ytcahjpkmldmjdaa
open Go Ab

structure S7 where
  x : Int
  y : Int
  signed : Bool
  code : Int
  deriving DecidableEq
def pv7 (x : S7) : PV := .agg [.int .i64 x.x, .int .i64 x.y, .bool x.signed, .int .u8 x.code]
structure BoundsError where
  x : Int
  y : Int
  signed : Bool
  code : Int
  deriving DecidableEq
def pv8 (x : BoundsError) : PV := .agg [.int .i64 x.x, .int .i64 x.y, .bool x.signed, .int .u8 x.code]
def pv22 (x : (List Int)) : PV := .sl 5 .ro (x.map (PV.int .u8))
structure Span where
  Lo : Int
  Hi : Int
  deriving DecidableEq
def pv124 (x : Span) : PV := .agg [.int .i64 x.Lo, .int .i64 x.Hi]
def pv89 (x : (List Span)) : PV := .sl 124 .ro (x.map pv124)
def pv59 (x : (List Int)) : PV := .sl 3 .ro (x.map (PV.int .i64))
def pv92 (x : (List (List Int))) : PV := .sl 59 .ro (x.map pv59)
structure IntSet where
  Spans : (List Span)
  deriving DecidableEq
def pv91 (x : IntSet) : PV := .agg [.sl 124 .ro (x.Spans.map pv124)]
structure Box where
  Kinds : Int
  Rates : (List Span)
  Maps : (List (List Int))
  Sizes : (List Span)
  deriving DecidableEq
def pv94 (x : Box) : PV := .agg [.int .i64 x.Kinds, .sl 124 .ro (x.Rates.map pv124), .sl 59 .ro (x.Maps.map pv59), .sl 124 .ro (x.Sizes.map pv124)]
def pv51 (x : (List Box)) : PV := .sl 94 .ro (x.map pv94)
structure Descriptor where
  ID : Int
  Name : ByteArray
  Direction : Int
  Domain : Int
  Latency : Int
  Drift : Int
  Jitter : Int
  Boxes : (List Box)
  deriving DecidableEq
def pv53 (x : Descriptor) : PV := .agg [.int .u64 x.ID, .str x.Name, .int .i64 x.Direction, .int .i64 x.Domain, .int .i64 x.Latency, .int .i64 x.Drift, .int .i64 x.Jitter, .sl 94 .ro (x.Boxes.map pv94)]
def pv60 (x : (List (List Int))) : PV := .sl 22 .ro (x.map pv22)
def pv73 (x : (List Descriptor)) : PV := .sl 53 .ro (x.map pv53)
structure Dice where
  l : (List Int)
  deriving DecidableEq
def pv122 (x : Dice) : PV := .agg [.sl 5 .ro (x.l.map (PV.int .u8))]
structure Reader where
  b : (List Int)
  at_ : Int
  bad : Bool
  deriving DecidableEq
def pv99 (x : Reader) : PV := .agg [.sl 5 .ro (x.b.map (PV.int .u8)), .int .i64 x.at_, .bool x.bad]
structure Deck where
  L : (List Int)
  At : Int
  deriving DecidableEq
def pv126 (x : Deck) : PV := .agg [.sl 3 .ro (x.L.map (PV.int .i64)), .int .i64 x.At]
def pv112 (x : (List ByteArray)) : PV := .sl 9 .ro (x.map PV.str)
structure Reader117 where
  b : (List Int)
  at_ : Int
  bad : Bool
  deriving DecidableEq
def pv117 (x : Reader117) : PV := .agg [.sl 5 .ro (x.b.map (PV.int .u8)), .int .i64 x.at_, .bool x.bad]
theorem stood124 : Try.prog.stoodInHeld 124 = false := by kernel_rfl
theorem eqg124 : Try.prog.eqGuardType Try.prog.depth 124 = false := by kernel_rfl
theorem und124 : Try.prog.underlying 124 = some (.struct (Try.prog.fieldsOf 124)) := by kernel_rfl
theorem flds124 : (Try.prog.fieldsOf 124).toList.map (fun f => (f.name, f.type, f.offset)) = [("Lo", 3, 0), ("Hi", 3, 1)] := by kernel_rfl
theorem eqf124 (d : Nat) (a0 : Int) (a1 : Int) (b0 : Int) (b1 : Int) (w : World) : (Op.eqFields (d + 1) #[.int .i64 a0, .int .i64 a1] #[.int .i64 b0, .int .i64 b1] (Try.prog.fieldsOf 124).toList).run Try.prog w = .ok ((a0 == b0) && (a1 == b1)) w := by
  have hf := flds124
  generalize (Try.prog.fieldsOf 124).toList = fs at hf
  obtain ⟨p0, fs, rfl, q0, hf⟩ := List.map_eq_cons_iff.1 hf
  obtain ⟨p1, fs, rfl, q1, hf⟩ := List.map_eq_cons_iff.1 hf
  rw [List.map_eq_nil_iff] at hf
  subst hf
  simp only [Prod.mk.injEq] at q0 q1
  simp [Op.eqFields, q0.1, q0.2.1, q0.2.2, q1.1, q1.2.1, q1.2.2, Go.part, TD.agg, run_isAgg tok3, ti3, run_equalIn_int _ _ 3 _ _ _ _ Try.underlying3]
  by_cases h0 : a0 = b0 <;> by_cases h1 : a1 = b1 <;> simp [h0, h1]
theorem eql124 (x y : Operand) (a0 : Int) (a1 : Int) (b0 : Int) (b1 : Int) (w : World) : (do eqGuard .eql 124 x y (.agg [.int .i64 a0, .int .i64 a1].toArray) (.agg [.int .i64 b0, .int .i64 b1].toArray); binOp .eql 124 (.agg [.int .i64 a0, .int .i64 a1].toArray) (.agg [.int .i64 b0, .int .i64 b1].toArray) : Sem Value).run Try.prog w = .ok (.bool ((a0 == b0) && (a1 == b1))) w := by
  simp only [Sem.run_bind, run_eqGuard_agg _ _ _ _ _ _ _ eqg124, Result.andThen_ok, run_eql_struct, run_equalIn_agg _ 9999 _ _ _ und124 stood124, eqf124 9998]
theorem neq124 (x y : Operand) (a0 : Int) (a1 : Int) (b0 : Int) (b1 : Int) (w : World) : (do eqGuard .neq 124 x y (.agg [.int .i64 a0, .int .i64 a1].toArray) (.agg [.int .i64 b0, .int .i64 b1].toArray); binOp .neq 124 (.agg [.int .i64 a0, .int .i64 a1].toArray) (.agg [.int .i64 b0, .int .i64 b1].toArray) : Sem Value).run Try.prog w = .ok (.bool (!((a0 == b0) && (a1 == b1)))) w := by
  simp only [Sem.run_bind, run_eqGuard_agg _ _ _ _ _ _ _ eqg124, Result.andThen_ok, run_neq_struct, run_equalIn_agg _ 9999 _ _ _ und124 stood124, eqf124 9998]
end Go.Proofs.Ytcahjpkmldmjdaa
