/-
  The types of the plain functions, and how they are read.
-/
import Derived.Test.YtacdknbakjbpiaaTab
import Derived.Test.YtacdknbakjbpiaaAb34
import Derived.Test.YtacdknbakjbpiaaAb36
namespace Go.Proofs.Ytacdknbakjbpiaa
open Go Ab

def pv22 (x : (List Int)) : PV := .sl 5 .ro (x.map (PV.int .u8))
def pv24 (x : (List Int)) : PV := .sl 21 .ro (x.map (PV.int .i32))
structure Ring where
  Channels : Int
  Capacity : Int
  Written : Int
  Read : Int
  Data : (List Int)
  deriving DecidableEq
def pv26 (x : Ring) : PV := .agg [.int .i64 x.Channels, .int .i64 x.Capacity, .int .i64 x.Written, .int .i64 x.Read, .sl 21 .ro (x.Data.map (PV.int .i32))]
structure Block where
  Channels : Int
  Data : (List Int)
  deriving DecidableEq
def pv32 (x : Block) : PV := .agg [.int .i64 x.Channels, .sl 21 .ro (x.Data.map (PV.int .i32))]
structure Dice where
  l : (List Int)
  deriving DecidableEq
def pv108 (x : Dice) : PV := .agg [.sl 5 .ro (x.l.map (PV.int .u8))]
def pv48 (x : (List Ring)) : PV := .sl 26 .ro (x.map pv26)
def pv50 (x : (List Block)) : PV := .sl 32 .ro (x.map pv32)
def pv51 (x : (List Int)) : PV := .sl 3 .ro (x.map (PV.int .i64))
structure Glitch where
  Kind : Int
  At : Int
  Quanta : Int
  Stream : Int
  Device : Int
  Frames : Int
  deriving DecidableEq
def pv97 (x : Glitch) : PV := .agg [.int .i64 x.Kind, .int .i64 x.At, .int .i64 x.Quanta, .int .i64 x.Stream, .int .u64 x.Device, .int .i64 x.Frames]
def pv56 (x : (List Glitch)) : PV := .sl 97 .ro (x.map pv97)
structure Recorder where
  Limit : Int
  Last : (List Glitch)
  Counts : (Nat → Int)
  Frames : Int
  Buckets : (Nat → Int)
def pv60 (x : Recorder) : PV := .agg [.int .i64 x.Limit, .sl 97 .ro (x.Last.map pv97), .int .i64 (x.Counts 0), .int .i64 (x.Counts 1), .int .i64 (x.Counts 2), .int .i64 (x.Counts 3), .int .i64 (x.Counts 4), .int .i64 x.Frames, .int .i64 (x.Buckets 0), .int .i64 (x.Buckets 1), .int .i64 (x.Buckets 2), .int .i64 (x.Buckets 3), .int .i64 (x.Buckets 4), .int .i64 (x.Buckets 5), .int .i64 (x.Buckets 6), .int .i64 (x.Buckets 7), .int .i64 (x.Buckets 8), .int .i64 (x.Buckets 9), .int .i64 (x.Buckets 10), .int .i64 (x.Buckets 11), .int .i64 (x.Buckets 12), .int .i64 (x.Buckets 13), .int .i64 (x.Buckets 14), .int .i64 (x.Buckets 15), .int .i64 (x.Buckets 16), .int .i64 (x.Buckets 17), .int .i64 (x.Buckets 18), .int .i64 (x.Buckets 19), .int .i64 (x.Buckets 20), .int .i64 (x.Buckets 21), .int .i64 (x.Buckets 22), .int .i64 (x.Buckets 23)]
def pv70 (x : (List Int)) : PV := .sl 71 .ro (x.map (PV.int .u64))
structure Choose where
  Role : ByteArray
  Set : (List Int)
  Device : Int
  deriving DecidableEq
def pv73 (x : Choose) : PV := .agg [.str x.Role, .sl 71 .ro (x.Set.map (PV.int .u64)), .int .u64 x.Device]
def pv67 (x : (List Choose)) : PV := .sl 73 .ro (x.map pv73)
structure Memory where
  Choices : (List Choose)
  deriving DecidableEq
def pv69 (x : Memory) : PV := .agg [.sl 73 .ro (x.Choices.map pv73)]
structure Deck where
  L : (List Int)
  At : Int
  deriving DecidableEq
def pv114 (x : Deck) : PV := .agg [.sl 3 .ro (x.L.map (PV.int .i64)), .int .i64 x.At]
def pv78 (x : (List Memory)) : PV := .sl 69 .ro (x.map pv69)
def pv87 (x : (List Recorder)) : PV := .sl 60 .ro (x.map pv60)
def pv124 (x : (List ByteArray)) : PV := .sl 9 .ro (x.map PV.str)
def pv132 (x : (List (List Int))) : PV := .sl 24 .ro (x.map pv24)
structure Source where
  kind : Int
  stream : Int
  device : Int
  deriving DecidableEq
def pv144 (x : Source) : PV := .agg [.int .i64 x.kind, .int .i64 x.stream, .int .u64 x.device]
theorem eqg57 : Try.prog.eqGuardType Try.prog.depth 57 = false := by kernel_rfl
theorem eqg58 : Try.prog.eqGuardType Try.prog.depth 58 = false := by kernel_rfl
theorem stood97 : Try.prog.stoodInHeld 97 = false := by kernel_rfl
theorem eqg97 : Try.prog.eqGuardType Try.prog.depth 97 = false := by kernel_rfl
theorem und97 : Try.prog.underlying 97 = some (.struct (Try.prog.fieldsOf 97)) := by kernel_rfl
theorem flds97 : (Try.prog.fieldsOf 97).toList.map (fun f => (f.name, f.type, f.offset)) = [("Kind", 3, 0), ("At", 2, 1), ("Quanta", 3, 2), ("Stream", 3, 3), ("Device", 71, 4), ("Frames", 3, 5)] := by kernel_rfl
theorem eqf97 (d : Nat) (a0 : Int) (a1 : Int) (a2 : Int) (a3 : Int) (a4 : Int) (a5 : Int) (b0 : Int) (b1 : Int) (b2 : Int) (b3 : Int) (b4 : Int) (b5 : Int) (w : World) : (Op.eqFields (d + 1) #[.int .i64 a0, .int .i64 a1, .int .i64 a2, .int .i64 a3, .int .u64 a4, .int .i64 a5] #[.int .i64 b0, .int .i64 b1, .int .i64 b2, .int .i64 b3, .int .u64 b4, .int .i64 b5] (Try.prog.fieldsOf 97).toList).run Try.prog w = .ok ((a0 == b0) && (a1 == b1) && (a2 == b2) && (a3 == b3) && (a4 == b4) && (a5 == b5)) w := by
  have hf := flds97
  generalize (Try.prog.fieldsOf 97).toList = fs at hf
  obtain ⟨p0, fs, rfl, q0, hf⟩ := List.map_eq_cons_iff.1 hf
  obtain ⟨p1, fs, rfl, q1, hf⟩ := List.map_eq_cons_iff.1 hf
  obtain ⟨p2, fs, rfl, q2, hf⟩ := List.map_eq_cons_iff.1 hf
  obtain ⟨p3, fs, rfl, q3, hf⟩ := List.map_eq_cons_iff.1 hf
  obtain ⟨p4, fs, rfl, q4, hf⟩ := List.map_eq_cons_iff.1 hf
  obtain ⟨p5, fs, rfl, q5, hf⟩ := List.map_eq_cons_iff.1 hf
  rw [List.map_eq_nil_iff] at hf
  subst hf
  simp only [Prod.mk.injEq] at q0 q1 q2 q3 q4 q5
  simp [Op.eqFields, q0.1, q0.2.1, q0.2.2, q1.1, q1.2.1, q1.2.2, q2.1, q2.2.1, q2.2.2, q3.1, q3.2.1, q3.2.2, q4.1, q4.2.1, q4.2.2, q5.1, q5.2.1, q5.2.2, Go.part, TD.agg, run_isAgg tok3, ti3, run_equalIn_int _ _ 3 _ _ _ _ Try.underlying3, run_isAgg tok2, ti2, run_equalIn_int _ _ 2 _ _ _ _ Try.underlying2, run_isAgg tok71, ti71, run_equalIn_int _ _ 71 _ _ _ _ Try.underlying71]
  by_cases h0 : a0 = b0 <;> by_cases h1 : a1 = b1 <;> by_cases h2 : a2 = b2 <;> by_cases h3 : a3 = b3 <;> by_cases h4 : a4 = b4 <;> by_cases h5 : a5 = b5 <;> simp [h0, h1, h2, h3, h4, h5]
theorem eql97 (x y : Operand) (a0 : Int) (a1 : Int) (a2 : Int) (a3 : Int) (a4 : Int) (a5 : Int) (b0 : Int) (b1 : Int) (b2 : Int) (b3 : Int) (b4 : Int) (b5 : Int) (w : World) : (do eqGuard .eql 97 x y (.agg [.int .i64 a0, .int .i64 a1, .int .i64 a2, .int .i64 a3, .int .u64 a4, .int .i64 a5].toArray) (.agg [.int .i64 b0, .int .i64 b1, .int .i64 b2, .int .i64 b3, .int .u64 b4, .int .i64 b5].toArray); binOp .eql 97 (.agg [.int .i64 a0, .int .i64 a1, .int .i64 a2, .int .i64 a3, .int .u64 a4, .int .i64 a5].toArray) (.agg [.int .i64 b0, .int .i64 b1, .int .i64 b2, .int .i64 b3, .int .u64 b4, .int .i64 b5].toArray) : Sem Value).run Try.prog w = .ok (.bool ((a0 == b0) && (a1 == b1) && (a2 == b2) && (a3 == b3) && (a4 == b4) && (a5 == b5))) w := by
  simp only [Sem.run_bind, run_eqGuard_agg _ _ _ _ _ _ _ eqg97, Result.andThen_ok, run_eql_struct, run_equalIn_agg _ 9999 _ _ _ und97 stood97, eqf97 9998]
theorem neq97 (x y : Operand) (a0 : Int) (a1 : Int) (a2 : Int) (a3 : Int) (a4 : Int) (a5 : Int) (b0 : Int) (b1 : Int) (b2 : Int) (b3 : Int) (b4 : Int) (b5 : Int) (w : World) : (do eqGuard .neq 97 x y (.agg [.int .i64 a0, .int .i64 a1, .int .i64 a2, .int .i64 a3, .int .u64 a4, .int .i64 a5].toArray) (.agg [.int .i64 b0, .int .i64 b1, .int .i64 b2, .int .i64 b3, .int .u64 b4, .int .i64 b5].toArray); binOp .neq 97 (.agg [.int .i64 a0, .int .i64 a1, .int .i64 a2, .int .i64 a3, .int .u64 a4, .int .i64 a5].toArray) (.agg [.int .i64 b0, .int .i64 b1, .int .i64 b2, .int .i64 b3, .int .u64 b4, .int .i64 b5].toArray) : Sem Value).run Try.prog w = .ok (.bool (!((a0 == b0) && (a1 == b1) && (a2 == b2) && (a3 == b3) && (a4 == b4) && (a5 == b5)))) w := by
  simp only [Sem.run_bind, run_eqGuard_agg _ _ _ _ _ _ _ eqg97, Result.andThen_ok, run_neq_struct, run_equalIn_agg _ 9999 _ _ _ und97 stood97, eqf97 9998]
theorem stood144 : Try.prog.stoodInHeld 144 = false := by kernel_rfl
theorem eqg144 : Try.prog.eqGuardType Try.prog.depth 144 = false := by kernel_rfl
theorem und144 : Try.prog.underlying 144 = some (.struct (Try.prog.fieldsOf 144)) := by kernel_rfl
theorem flds144 : (Try.prog.fieldsOf 144).toList.map (fun f => (f.name, f.type, f.offset)) = [("kind", 3, 0), ("stream", 3, 1), ("device", 71, 2)] := by kernel_rfl
theorem eqf144 (d : Nat) (a0 : Int) (a1 : Int) (a2 : Int) (b0 : Int) (b1 : Int) (b2 : Int) (w : World) : (Op.eqFields (d + 1) #[.int .i64 a0, .int .i64 a1, .int .u64 a2] #[.int .i64 b0, .int .i64 b1, .int .u64 b2] (Try.prog.fieldsOf 144).toList).run Try.prog w = .ok ((a0 == b0) && (a1 == b1) && (a2 == b2)) w := by
  have hf := flds144
  generalize (Try.prog.fieldsOf 144).toList = fs at hf
  obtain ⟨p0, fs, rfl, q0, hf⟩ := List.map_eq_cons_iff.1 hf
  obtain ⟨p1, fs, rfl, q1, hf⟩ := List.map_eq_cons_iff.1 hf
  obtain ⟨p2, fs, rfl, q2, hf⟩ := List.map_eq_cons_iff.1 hf
  rw [List.map_eq_nil_iff] at hf
  subst hf
  simp only [Prod.mk.injEq] at q0 q1 q2
  simp [Op.eqFields, q0.1, q0.2.1, q0.2.2, q1.1, q1.2.1, q1.2.2, q2.1, q2.2.1, q2.2.2, Go.part, TD.agg, run_isAgg tok3, ti3, run_equalIn_int _ _ 3 _ _ _ _ Try.underlying3, run_isAgg tok71, ti71, run_equalIn_int _ _ 71 _ _ _ _ Try.underlying71]
  by_cases h0 : a0 = b0 <;> by_cases h1 : a1 = b1 <;> by_cases h2 : a2 = b2 <;> simp [h0, h1, h2]
theorem eql144 (x y : Operand) (a0 : Int) (a1 : Int) (a2 : Int) (b0 : Int) (b1 : Int) (b2 : Int) (w : World) : (do eqGuard .eql 144 x y (.agg [.int .i64 a0, .int .i64 a1, .int .u64 a2].toArray) (.agg [.int .i64 b0, .int .i64 b1, .int .u64 b2].toArray); binOp .eql 144 (.agg [.int .i64 a0, .int .i64 a1, .int .u64 a2].toArray) (.agg [.int .i64 b0, .int .i64 b1, .int .u64 b2].toArray) : Sem Value).run Try.prog w = .ok (.bool ((a0 == b0) && (a1 == b1) && (a2 == b2))) w := by
  simp only [Sem.run_bind, run_eqGuard_agg _ _ _ _ _ _ _ eqg144, Result.andThen_ok, run_eql_struct, run_equalIn_agg _ 9999 _ _ _ und144 stood144, eqf144 9998]
theorem neq144 (x y : Operand) (a0 : Int) (a1 : Int) (a2 : Int) (b0 : Int) (b1 : Int) (b2 : Int) (w : World) : (do eqGuard .neq 144 x y (.agg [.int .i64 a0, .int .i64 a1, .int .u64 a2].toArray) (.agg [.int .i64 b0, .int .i64 b1, .int .u64 b2].toArray); binOp .neq 144 (.agg [.int .i64 a0, .int .i64 a1, .int .u64 a2].toArray) (.agg [.int .i64 b0, .int .i64 b1, .int .u64 b2].toArray) : Sem Value).run Try.prog w = .ok (.bool (!((a0 == b0) && (a1 == b1) && (a2 == b2)))) w := by
  simp only [Sem.run_bind, run_eqGuard_agg _ _ _ _ _ _ _ eqg144, Result.andThen_ok, run_neq_struct, run_equalIn_agg _ 9999 _ _ _ und144 stood144, eqf144 9998]
end Go.Proofs.Ytacdknbakjbpiaa
