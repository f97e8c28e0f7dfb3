/-
  The types that the functions of this seat use, as the walks read them.
-/
import Derived.Test.YtcahjpkmldmjdaaAb19
import Derived.Test.YtcahjpkmldmjdaaProg
import Derived.KernelRfl
namespace Go.Proofs.Ytcahjpkmldmjdaa
open Go Ab

theorem rr_nil {P : Program} {Im : Nat → Prop} {w : World} (e : Nat) : RR P Im w (.sl e .full []) (.slice none 0 0) :=
  .sl e .full [] none 0 0 0 [] (.inr ⟨rfl, rfl⟩) (Nat.le_refl _) (by decide) (fun h => absurd rfl h) (fun _ => rfl) (by simp) (fun _ _ h => by simp at h) (fun _ _ h => by simp at h) (fun _ _ _ _ h => by simp at h) (fun _ _ _ _ _ h => by simp at h)
def ti1 : TI := ⟨.fn, 1, 8, .nilf⟩
def ti2 : TI := ⟨.int .i64, 1, 8, (.int .i64 0)⟩
def ti3 : TI := ⟨.int .i64, 1, 8, (.int .i64 0)⟩
def ti4 : TI := ⟨.bool, 1, 1, (.bool false)⟩
def ti5 : TI := ⟨.int .u8, 1, 1, (.int .u8 0)⟩
def ti6 : TI := ⟨.int .u8, 1, 1, (.int .u8 0)⟩
def ti7 : TI := ⟨.struct [(0, 2), (1, 3), (2, 4), (3, 6)], 4, 24, (.agg [(.int .i64 0), (.int .i64 0), (.bool false), (.int .u8 0)])⟩
def ti8 : TI := ⟨.struct [(0, 2), (1, 3), (2, 4), (3, 6)], 4, 24, (.agg [(.int .i64 0), (.int .i64 0), (.bool false), (.int .u8 0)])⟩
def ti9 : TI := ⟨.str, 1, 16, (.str ⟨#[]⟩)⟩
def ti11 : TI := ⟨.str, 1, 16, (.str ⟨#[]⟩)⟩
def ti22 : TI := ⟨.slice 5, 1, 24, (.sl 5 .full [])⟩
def ti24 : TI := ⟨.int .u32, 1, 4, (.int .u32 0)⟩
def ti26 : TI := ⟨.int .u64, 1, 8, (.int .u64 0)⟩
def ti29 : TI := ⟨.int .u16, 1, 2, (.int .u16 0)⟩
def ti32 : TI := ⟨.int .i64, 1, 8, (.int .i64 0)⟩
def ti51 : TI := ⟨.slice 94, 1, 24, (.sl 94 .full [])⟩
def ti53 : TI := ⟨.struct [(0, 26), (1, 9), (2, 3), (3, 3), (4, 3), (5, 3), (6, 3), (7, 51)], 8, 88, (.agg [(.int .u64 0), (.str ⟨#[]⟩), (.int .i64 0), (.int .i64 0), (.int .i64 0), (.int .i64 0), (.int .i64 0), (.sl 94 .full [])])⟩
def ti59 : TI := ⟨.slice 3, 1, 24, (.sl 3 .full [])⟩
def ti60 : TI := ⟨.slice 22, 1, 24, (.sl 22 .full [])⟩
def ti73 : TI := ⟨.slice 53, 1, 24, (.sl 53 .full [])⟩
def ti86 : TI := ⟨.ptr 122, 1, 8, .nilp⟩
def ti89 : TI := ⟨.slice 124, 1, 24, (.sl 124 .full [])⟩
def ti91 : TI := ⟨.struct [(0, 89)], 1, 24, (.agg [(.sl 124 .full [])])⟩
def ti92 : TI := ⟨.slice 59, 1, 24, (.sl 59 .full [])⟩
def ti94 : TI := ⟨.struct [(0, 3), (1, 91), (2, 92), (3, 91)], 4, 80, (.agg [(.int .i64 0), (.sl 124 .full []), (.sl 59 .full []), (.sl 124 .full [])])⟩
def ti97 : TI := ⟨.ptr 99, 1, 8, .nilp⟩
def ti99 : TI := ⟨.struct [(0, 22), (1, 3), (2, 4)], 3, 40, (.agg [(.sl 5 .full []), (.int .i64 0), (.bool false)])⟩
def ti105 : TI := ⟨.ptr 126, 1, 8, .nilp⟩
def ti112 : TI := ⟨.slice 9, 1, 24, (.sl 9 .full [])⟩
def ti115 : TI := ⟨.ptr 117, 1, 8, .nilp⟩
def ti117 : TI := ⟨.struct [(0, 22), (1, 3), (2, 4)], 3, 40, (.agg [(.sl 5 .full []), (.int .i64 0), (.bool false)])⟩
def ti122 : TI := ⟨.struct [(0, 22)], 1, 24, (.agg [(.sl 5 .full [])])⟩
def ti124 : TI := ⟨.struct [(0, 3), (1, 3)], 2, 16, (.agg [(.int .i64 0), (.int .i64 0)])⟩
def ti126 : TI := ⟨.struct [(0, 59), (1, 3)], 2, 32, (.agg [(.sl 3 .full []), (.int .i64 0)])⟩
def ti128 : TI := ⟨.fn, 1, 8, .nilf⟩
def ti134 : TI := ⟨.fn, 1, 8, .nilf⟩
def tab : Tab := fun t => (bif Nat.blt t 60 then (bif Nat.blt t 11 then (bif Nat.blt t 5 then (bif Nat.blt t 3 then (bif Nat.blt t 2 then (if t = 1 then some ti1 else none) else (if t = 2 then some ti2 else none)) else (bif Nat.blt t 4 then (if t = 3 then some ti3 else none) else (if t = 4 then some ti4 else none))) else (bif Nat.blt t 7 then (bif Nat.blt t 6 then (if t = 5 then some ti5 else none) else (if t = 6 then some ti6 else none)) else (bif Nat.blt t 8 then (if t = 7 then some ti7 else none) else (bif Nat.blt t 9 then (if t = 8 then some ti8 else none) else (if t = 9 then some ti9 else none))))) else (bif Nat.blt t 29 then (bif Nat.blt t 24 then (bif Nat.blt t 22 then (if t = 11 then some ti11 else none) else (if t = 22 then some ti22 else none)) else (bif Nat.blt t 26 then (if t = 24 then some ti24 else none) else (if t = 26 then some ti26 else none))) else (bif Nat.blt t 51 then (bif Nat.blt t 32 then (if t = 29 then some ti29 else none) else (if t = 32 then some ti32 else none)) else (bif Nat.blt t 53 then (if t = 51 then some ti51 else none) else (bif Nat.blt t 59 then (if t = 53 then some ti53 else none) else (if t = 59 then some ti59 else none)))))) else (bif Nat.blt t 105 then (bif Nat.blt t 91 then (bif Nat.blt t 86 then (bif Nat.blt t 73 then (if t = 60 then some ti60 else none) else (if t = 73 then some ti73 else none)) else (bif Nat.blt t 89 then (if t = 86 then some ti86 else none) else (if t = 89 then some ti89 else none))) else (bif Nat.blt t 94 then (bif Nat.blt t 92 then (if t = 91 then some ti91 else none) else (if t = 92 then some ti92 else none)) else (bif Nat.blt t 97 then (if t = 94 then some ti94 else none) else (bif Nat.blt t 99 then (if t = 97 then some ti97 else none) else (if t = 99 then some ti99 else none))))) else (bif Nat.blt t 122 then (bif Nat.blt t 115 then (bif Nat.blt t 112 then (if t = 105 then some ti105 else none) else (if t = 112 then some ti112 else none)) else (bif Nat.blt t 117 then (if t = 115 then some ti115 else none) else (if t = 117 then some ti117 else none))) else (bif Nat.blt t 126 then (bif Nat.blt t 124 then (if t = 122 then some ti122 else none) else (if t = 124 then some ti124 else none)) else (bif Nat.blt t 128 then (if t = 126 then some ti126 else none) else (bif Nat.blt t 134 then (if t = 128 then some ti128 else none) else (if t = 134 then some ti134 else none)))))))
theorem info1 : (Try.prog.info? 1).map (fun I => (I.size, I.bytes, I.zero)) = some (1, 8, some .nilFunc) := by kernel_rfl
theorem tok1 : TIOk Try.prog 1 ti1 := by
  refine ⟨⟨_, Try.underlying1, trivial⟩, ?_, rfl⟩
  obtain ⟨I, hI, he⟩ := Option.map_eq_some_iff.1 info1
  simp only [Prod.mk.injEq] at he
  exact ⟨I, _, hI, he.1, he.2.1, he.2.2, fun Im w => (.nilf)⟩
theorem info2 : (Try.prog.info? 2).map (fun I => (I.size, I.bytes, I.zero)) = some (1, 8, some (.int .i64 0)) := by kernel_rfl
theorem tok2 : TIOk Try.prog 2 ti2 := by
  refine ⟨⟨_, Try.underlying2, rfl⟩, ?_, rfl⟩
  obtain ⟨I, hI, he⟩ := Option.map_eq_some_iff.1 info2
  simp only [Prod.mk.injEq] at he
  exact ⟨I, _, hI, he.1, he.2.1, he.2.2, fun Im w => (.int _ _)⟩
theorem info3 : (Try.prog.info? 3).map (fun I => (I.size, I.bytes, I.zero)) = some (1, 8, some (.int .i64 0)) := by kernel_rfl
theorem tok3 : TIOk Try.prog 3 ti3 := by
  refine ⟨⟨_, Try.underlying3, rfl⟩, ?_, rfl⟩
  obtain ⟨I, hI, he⟩ := Option.map_eq_some_iff.1 info3
  simp only [Prod.mk.injEq] at he
  exact ⟨I, _, hI, he.1, he.2.1, he.2.2, fun Im w => (.int _ _)⟩
theorem info4 : (Try.prog.info? 4).map (fun I => (I.size, I.bytes, I.zero)) = some (1, 1, some (.bool false)) := by kernel_rfl
theorem tok4 : TIOk Try.prog 4 ti4 := by
  refine ⟨⟨_, Try.underlying4, trivial⟩, ?_, rfl⟩
  obtain ⟨I, hI, he⟩ := Option.map_eq_some_iff.1 info4
  simp only [Prod.mk.injEq] at he
  exact ⟨I, _, hI, he.1, he.2.1, he.2.2, fun Im w => (.bool _)⟩
theorem info5 : (Try.prog.info? 5).map (fun I => (I.size, I.bytes, I.zero)) = some (1, 1, some (.int .u8 0)) := by kernel_rfl
theorem tok5 : TIOk Try.prog 5 ti5 := by
  refine ⟨⟨_, Try.underlying5, rfl⟩, ?_, rfl⟩
  obtain ⟨I, hI, he⟩ := Option.map_eq_some_iff.1 info5
  simp only [Prod.mk.injEq] at he
  exact ⟨I, _, hI, he.1, he.2.1, he.2.2, fun Im w => (.int _ _)⟩
theorem info6 : (Try.prog.info? 6).map (fun I => (I.size, I.bytes, I.zero)) = some (1, 1, some (.int .u8 0)) := by kernel_rfl
theorem tok6 : TIOk Try.prog 6 ti6 := by
  refine ⟨⟨_, Try.underlying6, rfl⟩, ?_, rfl⟩
  obtain ⟨I, hI, he⟩ := Option.map_eq_some_iff.1 info6
  simp only [Prod.mk.injEq] at he
  exact ⟨I, _, hI, he.1, he.2.1, he.2.2, fun Im w => (.int _ _)⟩
theorem info7 : (Try.prog.info? 7).map (fun I => (I.size, I.bytes, I.zero)) = some (4, 24, some (.agg #[(.int .i64 0), (.int .i64 0), (.bool false), (.int .u8 0)])) := by kernel_rfl
theorem tok7 : TIOk Try.prog 7 ti7 := by
  refine ⟨⟨_, Try.underlying7, rfl⟩, ?_, rfl⟩
  obtain ⟨I, hI, he⟩ := Option.map_eq_some_iff.1 info7
  simp only [Prod.mk.injEq] at he
  exact ⟨I, _, hI, he.1, he.2.1, he.2.2, fun Im w => (.agg _ _ rfl (by intro j y h; exact (by decide : ∀ y ∈ (PV.cells ti7.zero), PV.isCell y = true) y (List.mem_of_getElem? h)) fun j y c h1 h2 => match j, y, c, h1, h2 with
    | 0, y, c, h1, h2 => by cases h1; cases h2; exact .int _ _
    | 1, y, c, h1, h2 => by cases h1; cases h2; exact .int _ _
    | 2, y, c, h1, h2 => by cases h1; cases h2; exact .bool _
    | 3, y, c, h1, h2 => by cases h1; cases h2; exact .int _ _
    | _ + 4, y, c, h1, h2 => by cases h1)⟩
theorem info8 : (Try.prog.info? 8).map (fun I => (I.size, I.bytes, I.zero)) = some (4, 24, some (.agg #[(.int .i64 0), (.int .i64 0), (.bool false), (.int .u8 0)])) := by kernel_rfl
theorem tok8 : TIOk Try.prog 8 ti8 := by
  refine ⟨⟨_, Try.underlying8, rfl⟩, ?_, rfl⟩
  obtain ⟨I, hI, he⟩ := Option.map_eq_some_iff.1 info8
  simp only [Prod.mk.injEq] at he
  exact ⟨I, _, hI, he.1, he.2.1, he.2.2, fun Im w => (.agg _ _ rfl (by intro j y h; exact (by decide : ∀ y ∈ (PV.cells ti8.zero), PV.isCell y = true) y (List.mem_of_getElem? h)) fun j y c h1 h2 => match j, y, c, h1, h2 with
    | 0, y, c, h1, h2 => by cases h1; cases h2; exact .int _ _
    | 1, y, c, h1, h2 => by cases h1; cases h2; exact .int _ _
    | 2, y, c, h1, h2 => by cases h1; cases h2; exact .bool _
    | 3, y, c, h1, h2 => by cases h1; cases h2; exact .int _ _
    | _ + 4, y, c, h1, h2 => by cases h1)⟩
theorem info9 : (Try.prog.info? 9).map (fun I => (I.size, I.bytes, I.zero)) = some (1, 16, some (.string ⟨#[]⟩)) := by kernel_rfl
theorem tok9 : TIOk Try.prog 9 ti9 := by
  refine ⟨⟨_, Try.underlying9, trivial⟩, ?_, rfl⟩
  obtain ⟨I, hI, he⟩ := Option.map_eq_some_iff.1 info9
  simp only [Prod.mk.injEq] at he
  exact ⟨I, _, hI, he.1, he.2.1, he.2.2, fun Im w => (.str _)⟩
theorem info11 : (Try.prog.info? 11).map (fun I => (I.size, I.bytes, I.zero)) = some (1, 16, some (.string ⟨#[]⟩)) := by kernel_rfl
theorem tok11 : TIOk Try.prog 11 ti11 := by
  refine ⟨⟨_, Try.underlying11, trivial⟩, ?_, rfl⟩
  obtain ⟨I, hI, he⟩ := Option.map_eq_some_iff.1 info11
  simp only [Prod.mk.injEq] at he
  exact ⟨I, _, hI, he.1, he.2.1, he.2.2, fun Im w => (.str _)⟩
theorem info22 : (Try.prog.info? 22).map (fun I => (I.size, I.bytes, I.zero)) = some (1, 24, some (.slice none 0 0)) := by kernel_rfl
theorem tok22 : TIOk Try.prog 22 ti22 := by
  refine ⟨⟨_, Try.underlying22, rfl⟩, ?_, rfl⟩
  obtain ⟨I, hI, he⟩ := Option.map_eq_some_iff.1 info22
  simp only [Prod.mk.injEq] at he
  exact ⟨I, _, hI, he.1, he.2.1, he.2.2, fun Im w => (rr_nil _)⟩
theorem info24 : (Try.prog.info? 24).map (fun I => (I.size, I.bytes, I.zero)) = some (1, 4, some (.int .u32 0)) := by kernel_rfl
theorem tok24 : TIOk Try.prog 24 ti24 := by
  refine ⟨⟨_, Try.underlying24, rfl⟩, ?_, rfl⟩
  obtain ⟨I, hI, he⟩ := Option.map_eq_some_iff.1 info24
  simp only [Prod.mk.injEq] at he
  exact ⟨I, _, hI, he.1, he.2.1, he.2.2, fun Im w => (.int _ _)⟩
theorem info26 : (Try.prog.info? 26).map (fun I => (I.size, I.bytes, I.zero)) = some (1, 8, some (.int .u64 0)) := by kernel_rfl
theorem tok26 : TIOk Try.prog 26 ti26 := by
  refine ⟨⟨_, Try.underlying26, rfl⟩, ?_, rfl⟩
  obtain ⟨I, hI, he⟩ := Option.map_eq_some_iff.1 info26
  simp only [Prod.mk.injEq] at he
  exact ⟨I, _, hI, he.1, he.2.1, he.2.2, fun Im w => (.int _ _)⟩
theorem info29 : (Try.prog.info? 29).map (fun I => (I.size, I.bytes, I.zero)) = some (1, 2, some (.int .u16 0)) := by kernel_rfl
theorem tok29 : TIOk Try.prog 29 ti29 := by
  refine ⟨⟨_, Try.underlying29, rfl⟩, ?_, rfl⟩
  obtain ⟨I, hI, he⟩ := Option.map_eq_some_iff.1 info29
  simp only [Prod.mk.injEq] at he
  exact ⟨I, _, hI, he.1, he.2.1, he.2.2, fun Im w => (.int _ _)⟩
theorem info32 : (Try.prog.info? 32).map (fun I => (I.size, I.bytes, I.zero)) = some (1, 8, some (.int .i64 0)) := by kernel_rfl
theorem tok32 : TIOk Try.prog 32 ti32 := by
  refine ⟨⟨_, Try.underlying32, rfl⟩, ?_, rfl⟩
  obtain ⟨I, hI, he⟩ := Option.map_eq_some_iff.1 info32
  simp only [Prod.mk.injEq] at he
  exact ⟨I, _, hI, he.1, he.2.1, he.2.2, fun Im w => (.int _ _)⟩
theorem info51 : (Try.prog.info? 51).map (fun I => (I.size, I.bytes, I.zero)) = some (1, 24, some (.slice none 0 0)) := by kernel_rfl
theorem tok51 : TIOk Try.prog 51 ti51 := by
  refine ⟨⟨_, Try.underlying51, rfl⟩, ?_, rfl⟩
  obtain ⟨I, hI, he⟩ := Option.map_eq_some_iff.1 info51
  simp only [Prod.mk.injEq] at he
  exact ⟨I, _, hI, he.1, he.2.1, he.2.2, fun Im w => (rr_nil _)⟩
theorem info53 : (Try.prog.info? 53).map (fun I => (I.size, I.bytes, I.zero)) = some (8, 88, some (.agg #[(.int .u64 0), (.string ⟨#[]⟩), (.int .i64 0), (.int .i64 0), (.int .i64 0), (.int .i64 0), (.int .i64 0), (.slice none 0 0)])) := by kernel_rfl
theorem tok53 : TIOk Try.prog 53 ti53 := by
  refine ⟨⟨_, Try.underlying53, rfl⟩, ?_, rfl⟩
  obtain ⟨I, hI, he⟩ := Option.map_eq_some_iff.1 info53
  simp only [Prod.mk.injEq] at he
  exact ⟨I, _, hI, he.1, he.2.1, he.2.2, fun Im w => (.agg _ _ rfl (by intro j y h; exact (by decide : ∀ y ∈ (PV.cells ti53.zero), PV.isCell y = true) y (List.mem_of_getElem? h)) fun j y c h1 h2 => match j, y, c, h1, h2 with
    | 0, y, c, h1, h2 => by cases h1; cases h2; exact .int _ _
    | 1, y, c, h1, h2 => by cases h1; cases h2; exact .str _
    | 2, y, c, h1, h2 => by cases h1; cases h2; exact .int _ _
    | 3, y, c, h1, h2 => by cases h1; cases h2; exact .int _ _
    | 4, y, c, h1, h2 => by cases h1; cases h2; exact .int _ _
    | 5, y, c, h1, h2 => by cases h1; cases h2; exact .int _ _
    | 6, y, c, h1, h2 => by cases h1; cases h2; exact .int _ _
    | 7, y, c, h1, h2 => by cases h1; cases h2; exact rr_nil _
    | _ + 8, y, c, h1, h2 => by cases h1)⟩
theorem info59 : (Try.prog.info? 59).map (fun I => (I.size, I.bytes, I.zero)) = some (1, 24, some (.slice none 0 0)) := by kernel_rfl
theorem tok59 : TIOk Try.prog 59 ti59 := by
  refine ⟨⟨_, Try.underlying59, rfl⟩, ?_, rfl⟩
  obtain ⟨I, hI, he⟩ := Option.map_eq_some_iff.1 info59
  simp only [Prod.mk.injEq] at he
  exact ⟨I, _, hI, he.1, he.2.1, he.2.2, fun Im w => (rr_nil _)⟩
theorem info60 : (Try.prog.info? 60).map (fun I => (I.size, I.bytes, I.zero)) = some (1, 24, some (.slice none 0 0)) := by kernel_rfl
theorem tok60 : TIOk Try.prog 60 ti60 := by
  refine ⟨⟨_, Try.underlying60, rfl⟩, ?_, rfl⟩
  obtain ⟨I, hI, he⟩ := Option.map_eq_some_iff.1 info60
  simp only [Prod.mk.injEq] at he
  exact ⟨I, _, hI, he.1, he.2.1, he.2.2, fun Im w => (rr_nil _)⟩
theorem info73 : (Try.prog.info? 73).map (fun I => (I.size, I.bytes, I.zero)) = some (1, 24, some (.slice none 0 0)) := by kernel_rfl
theorem tok73 : TIOk Try.prog 73 ti73 := by
  refine ⟨⟨_, Try.underlying73, rfl⟩, ?_, rfl⟩
  obtain ⟨I, hI, he⟩ := Option.map_eq_some_iff.1 info73
  simp only [Prod.mk.injEq] at he
  exact ⟨I, _, hI, he.1, he.2.1, he.2.2, fun Im w => (rr_nil _)⟩
theorem info86 : (Try.prog.info? 86).map (fun I => (I.size, I.bytes, I.zero)) = some (1, 8, some (.pointer none)) := by kernel_rfl
theorem tok86 : TIOk Try.prog 86 ti86 := by
  refine ⟨⟨_, Try.underlying86, rfl⟩, ?_, rfl⟩
  obtain ⟨I, hI, he⟩ := Option.map_eq_some_iff.1 info86
  simp only [Prod.mk.injEq] at he
  exact ⟨I, _, hI, he.1, he.2.1, he.2.2, fun Im w => (.nilp)⟩
theorem info89 : (Try.prog.info? 89).map (fun I => (I.size, I.bytes, I.zero)) = some (1, 24, some (.slice none 0 0)) := by kernel_rfl
theorem tok89 : TIOk Try.prog 89 ti89 := by
  refine ⟨⟨_, Try.underlying89, rfl⟩, ?_, rfl⟩
  obtain ⟨I, hI, he⟩ := Option.map_eq_some_iff.1 info89
  simp only [Prod.mk.injEq] at he
  exact ⟨I, _, hI, he.1, he.2.1, he.2.2, fun Im w => (rr_nil _)⟩
theorem info91 : (Try.prog.info? 91).map (fun I => (I.size, I.bytes, I.zero)) = some (1, 24, some (.agg #[(.slice none 0 0)])) := by kernel_rfl
theorem tok91 : TIOk Try.prog 91 ti91 := by
  refine ⟨⟨_, Try.underlying91, rfl⟩, ?_, rfl⟩
  obtain ⟨I, hI, he⟩ := Option.map_eq_some_iff.1 info91
  simp only [Prod.mk.injEq] at he
  exact ⟨I, _, hI, he.1, he.2.1, he.2.2, fun Im w => (.agg _ _ rfl (by intro j y h; exact (by decide : ∀ y ∈ (PV.cells ti91.zero), PV.isCell y = true) y (List.mem_of_getElem? h)) fun j y c h1 h2 => match j, y, c, h1, h2 with
    | 0, y, c, h1, h2 => by cases h1; cases h2; exact rr_nil _
    | _ + 1, y, c, h1, h2 => by cases h1)⟩
theorem info92 : (Try.prog.info? 92).map (fun I => (I.size, I.bytes, I.zero)) = some (1, 24, some (.slice none 0 0)) := by kernel_rfl
theorem tok92 : TIOk Try.prog 92 ti92 := by
  refine ⟨⟨_, Try.underlying92, rfl⟩, ?_, rfl⟩
  obtain ⟨I, hI, he⟩ := Option.map_eq_some_iff.1 info92
  simp only [Prod.mk.injEq] at he
  exact ⟨I, _, hI, he.1, he.2.1, he.2.2, fun Im w => (rr_nil _)⟩
theorem info94 : (Try.prog.info? 94).map (fun I => (I.size, I.bytes, I.zero)) = some (4, 80, some (.agg #[(.int .i64 0), (.slice none 0 0), (.slice none 0 0), (.slice none 0 0)])) := by kernel_rfl
theorem tok94 : TIOk Try.prog 94 ti94 := by
  refine ⟨⟨_, Try.underlying94, rfl⟩, ?_, rfl⟩
  obtain ⟨I, hI, he⟩ := Option.map_eq_some_iff.1 info94
  simp only [Prod.mk.injEq] at he
  exact ⟨I, _, hI, he.1, he.2.1, he.2.2, fun Im w => (.agg _ _ rfl (by intro j y h; exact (by decide : ∀ y ∈ (PV.cells ti94.zero), PV.isCell y = true) y (List.mem_of_getElem? h)) fun j y c h1 h2 => match j, y, c, h1, h2 with
    | 0, y, c, h1, h2 => by cases h1; cases h2; exact .int _ _
    | 1, y, c, h1, h2 => by cases h1; cases h2; exact rr_nil _
    | 2, y, c, h1, h2 => by cases h1; cases h2; exact rr_nil _
    | 3, y, c, h1, h2 => by cases h1; cases h2; exact rr_nil _
    | _ + 4, y, c, h1, h2 => by cases h1)⟩
theorem info97 : (Try.prog.info? 97).map (fun I => (I.size, I.bytes, I.zero)) = some (1, 8, some (.pointer none)) := by kernel_rfl
theorem tok97 : TIOk Try.prog 97 ti97 := by
  refine ⟨⟨_, Try.underlying97, rfl⟩, ?_, rfl⟩
  obtain ⟨I, hI, he⟩ := Option.map_eq_some_iff.1 info97
  simp only [Prod.mk.injEq] at he
  exact ⟨I, _, hI, he.1, he.2.1, he.2.2, fun Im w => (.nilp)⟩
theorem info99 : (Try.prog.info? 99).map (fun I => (I.size, I.bytes, I.zero)) = some (3, 40, some (.agg #[(.slice none 0 0), (.int .i64 0), (.bool false)])) := by kernel_rfl
theorem tok99 : TIOk Try.prog 99 ti99 := by
  refine ⟨⟨_, Try.underlying99, rfl⟩, ?_, rfl⟩
  obtain ⟨I, hI, he⟩ := Option.map_eq_some_iff.1 info99
  simp only [Prod.mk.injEq] at he
  exact ⟨I, _, hI, he.1, he.2.1, he.2.2, fun Im w => (.agg _ _ rfl (by intro j y h; exact (by decide : ∀ y ∈ (PV.cells ti99.zero), PV.isCell y = true) y (List.mem_of_getElem? h)) fun j y c h1 h2 => match j, y, c, h1, h2 with
    | 0, y, c, h1, h2 => by cases h1; cases h2; exact rr_nil _
    | 1, y, c, h1, h2 => by cases h1; cases h2; exact .int _ _
    | 2, y, c, h1, h2 => by cases h1; cases h2; exact .bool _
    | _ + 3, y, c, h1, h2 => by cases h1)⟩
theorem info105 : (Try.prog.info? 105).map (fun I => (I.size, I.bytes, I.zero)) = some (1, 8, some (.pointer none)) := by kernel_rfl
theorem tok105 : TIOk Try.prog 105 ti105 := by
  refine ⟨⟨_, Try.underlying105, rfl⟩, ?_, rfl⟩
  obtain ⟨I, hI, he⟩ := Option.map_eq_some_iff.1 info105
  simp only [Prod.mk.injEq] at he
  exact ⟨I, _, hI, he.1, he.2.1, he.2.2, fun Im w => (.nilp)⟩
theorem info112 : (Try.prog.info? 112).map (fun I => (I.size, I.bytes, I.zero)) = some (1, 24, some (.slice none 0 0)) := by kernel_rfl
theorem tok112 : TIOk Try.prog 112 ti112 := by
  refine ⟨⟨_, Try.underlying112, rfl⟩, ?_, rfl⟩
  obtain ⟨I, hI, he⟩ := Option.map_eq_some_iff.1 info112
  simp only [Prod.mk.injEq] at he
  exact ⟨I, _, hI, he.1, he.2.1, he.2.2, fun Im w => (rr_nil _)⟩
theorem info115 : (Try.prog.info? 115).map (fun I => (I.size, I.bytes, I.zero)) = some (1, 8, some (.pointer none)) := by kernel_rfl
theorem tok115 : TIOk Try.prog 115 ti115 := by
  refine ⟨⟨_, Try.underlying115, rfl⟩, ?_, rfl⟩
  obtain ⟨I, hI, he⟩ := Option.map_eq_some_iff.1 info115
  simp only [Prod.mk.injEq] at he
  exact ⟨I, _, hI, he.1, he.2.1, he.2.2, fun Im w => (.nilp)⟩
theorem info117 : (Try.prog.info? 117).map (fun I => (I.size, I.bytes, I.zero)) = some (3, 40, some (.agg #[(.slice none 0 0), (.int .i64 0), (.bool false)])) := by kernel_rfl
theorem tok117 : TIOk Try.prog 117 ti117 := by
  refine ⟨⟨_, Try.underlying117, rfl⟩, ?_, rfl⟩
  obtain ⟨I, hI, he⟩ := Option.map_eq_some_iff.1 info117
  simp only [Prod.mk.injEq] at he
  exact ⟨I, _, hI, he.1, he.2.1, he.2.2, fun Im w => (.agg _ _ rfl (by intro j y h; exact (by decide : ∀ y ∈ (PV.cells ti117.zero), PV.isCell y = true) y (List.mem_of_getElem? h)) fun j y c h1 h2 => match j, y, c, h1, h2 with
    | 0, y, c, h1, h2 => by cases h1; cases h2; exact rr_nil _
    | 1, y, c, h1, h2 => by cases h1; cases h2; exact .int _ _
    | 2, y, c, h1, h2 => by cases h1; cases h2; exact .bool _
    | _ + 3, y, c, h1, h2 => by cases h1)⟩
theorem info122 : (Try.prog.info? 122).map (fun I => (I.size, I.bytes, I.zero)) = some (1, 24, some (.agg #[(.slice none 0 0)])) := by kernel_rfl
theorem tok122 : TIOk Try.prog 122 ti122 := by
  refine ⟨⟨_, Try.underlying122, rfl⟩, ?_, rfl⟩
  obtain ⟨I, hI, he⟩ := Option.map_eq_some_iff.1 info122
  simp only [Prod.mk.injEq] at he
  exact ⟨I, _, hI, he.1, he.2.1, he.2.2, fun Im w => (.agg _ _ rfl (by intro j y h; exact (by decide : ∀ y ∈ (PV.cells ti122.zero), PV.isCell y = true) y (List.mem_of_getElem? h)) fun j y c h1 h2 => match j, y, c, h1, h2 with
    | 0, y, c, h1, h2 => by cases h1; cases h2; exact rr_nil _
    | _ + 1, y, c, h1, h2 => by cases h1)⟩
theorem info124 : (Try.prog.info? 124).map (fun I => (I.size, I.bytes, I.zero)) = some (2, 16, some (.agg #[(.int .i64 0), (.int .i64 0)])) := by kernel_rfl
theorem tok124 : TIOk Try.prog 124 ti124 := by
  refine ⟨⟨_, Try.underlying124, rfl⟩, ?_, rfl⟩
  obtain ⟨I, hI, he⟩ := Option.map_eq_some_iff.1 info124
  simp only [Prod.mk.injEq] at he
  exact ⟨I, _, hI, he.1, he.2.1, he.2.2, fun Im w => (.agg _ _ rfl (by intro j y h; exact (by decide : ∀ y ∈ (PV.cells ti124.zero), PV.isCell y = true) y (List.mem_of_getElem? h)) fun j y c h1 h2 => match j, y, c, h1, h2 with
    | 0, y, c, h1, h2 => by cases h1; cases h2; exact .int _ _
    | 1, y, c, h1, h2 => by cases h1; cases h2; exact .int _ _
    | _ + 2, y, c, h1, h2 => by cases h1)⟩
theorem info126 : (Try.prog.info? 126).map (fun I => (I.size, I.bytes, I.zero)) = some (2, 32, some (.agg #[(.slice none 0 0), (.int .i64 0)])) := by kernel_rfl
theorem tok126 : TIOk Try.prog 126 ti126 := by
  refine ⟨⟨_, Try.underlying126, rfl⟩, ?_, rfl⟩
  obtain ⟨I, hI, he⟩ := Option.map_eq_some_iff.1 info126
  simp only [Prod.mk.injEq] at he
  exact ⟨I, _, hI, he.1, he.2.1, he.2.2, fun Im w => (.agg _ _ rfl (by intro j y h; exact (by decide : ∀ y ∈ (PV.cells ti126.zero), PV.isCell y = true) y (List.mem_of_getElem? h)) fun j y c h1 h2 => match j, y, c, h1, h2 with
    | 0, y, c, h1, h2 => by cases h1; cases h2; exact rr_nil _
    | 1, y, c, h1, h2 => by cases h1; cases h2; exact .int _ _
    | _ + 2, y, c, h1, h2 => by cases h1)⟩
theorem info128 : (Try.prog.info? 128).map (fun I => (I.size, I.bytes, I.zero)) = some (1, 8, some .nilFunc) := by kernel_rfl
theorem tok128 : TIOk Try.prog 128 ti128 := by
  refine ⟨⟨_, Try.underlying128, trivial⟩, ?_, rfl⟩
  obtain ⟨I, hI, he⟩ := Option.map_eq_some_iff.1 info128
  simp only [Prod.mk.injEq] at he
  exact ⟨I, _, hI, he.1, he.2.1, he.2.2, fun Im w => (.nilf)⟩
theorem info134 : (Try.prog.info? 134).map (fun I => (I.size, I.bytes, I.zero)) = some (1, 8, some .nilFunc) := by kernel_rfl
theorem tok134 : TIOk Try.prog 134 ti134 := by
  refine ⟨⟨_, Try.underlying134, trivial⟩, ?_, rfl⟩
  obtain ⟨I, hI, he⟩ := Option.map_eq_some_iff.1 info134
  simp only [Prod.mk.injEq] at he
  exact ⟨I, _, hI, he.1, he.2.1, he.2.2, fun Im w => (.nilf)⟩
theorem tabOK : TabOK Try.prog tab := by
  intro t i h
  unfold tab at h
  simp only [cond_eq_ite] at h
  repeat' (split at h)
  all_goals first | (cases h; done) | skip
  all_goals (subst_vars; cases h; first | exact tok1 | exact tok2 | exact tok3 | exact tok4 | exact tok5 | exact tok6 | exact tok7 | exact tok8 | exact tok9 | exact tok11 | exact tok22 | exact tok24 | exact tok26 | exact tok29 | exact tok32 | exact tok51 | exact tok53 | exact tok59 | exact tok60 | exact tok73 | exact tok86 | exact tok89 | exact tok91 | exact tok92 | exact tok94 | exact tok97 | exact tok99 | exact tok105 | exact tok112 | exact tok115 | exact tok117 | exact tok122 | exact tok124 | exact tok126 | exact tok128 | exact tok134)
theorem mix : Try.prog.follows .mixedOrders = true := by kernel_rfl
end Go.Proofs.Ytcahjpkmldmjdaa
