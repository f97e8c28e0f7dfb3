/-
  The types that the functions of this seat use, as the walks read them.
-/
import Derived.Test.YtacdknbakjbpiaaAb19
import Derived.Test.YtacdknbakjbpiaaProg
import Derived.KernelRfl
namespace Go.Proofs.Ytacdknbakjbpiaa
open Go Ab

theorem rr_nil {P : Program} {Im : Nat → Prop} {w : World} (e : Nat) : RR P Im w (.sl e .full []) (.slice none 0 0) :=
  .sl e .full [] none 0 0 0 [] (.inr ⟨rfl, rfl⟩) (Nat.le_refl _) (by decide) (fun h => absurd rfl h) (fun _ => rfl) (by simp) (fun _ _ h => by simp at h) (fun _ _ h => by simp at h) (fun _ _ _ _ h => by simp at h) (fun _ _ _ _ _ h => by simp at h)
def ti1 : TI := ⟨.fn, 1, 8, .nilf⟩
def ti2 : TI := ⟨.int .i64, 1, 8, (.int .i64 0)⟩
def ti3 : TI := ⟨.int .i64, 1, 8, (.int .i64 0)⟩
def ti4 : TI := ⟨.bool, 1, 1, (.bool false)⟩
def ti5 : TI := ⟨.int .u8, 1, 1, (.int .u8 0)⟩
def ti9 : TI := ⟨.str, 1, 16, (.str ⟨#[]⟩)⟩
def ti21 : TI := ⟨.int .i32, 1, 4, (.int .i32 0)⟩
def ti22 : TI := ⟨.slice 5, 1, 24, (.sl 5 .full [])⟩
def ti24 : TI := ⟨.slice 21, 1, 24, (.sl 21 .full [])⟩
def ti26 : TI := ⟨.struct [(0, 3), (1, 3), (2, 2), (3, 2), (4, 24)], 5, 56, (.agg [(.int .i64 0), (.int .i64 0), (.int .i64 0), (.int .i64 0), (.sl 21 .full [])])⟩
def ti27 : TI := ⟨.int .i64, 1, 8, (.int .i64 0)⟩
def ti30 : TI := ⟨.int .u64, 1, 8, (.int .u64 0)⟩
def ti32 : TI := ⟨.struct [(0, 3), (1, 24)], 2, 32, (.agg [(.int .i64 0), (.sl 21 .full [])])⟩
def ti40 : TI := ⟨.ptr 108, 1, 8, .nilp⟩
def ti48 : TI := ⟨.slice 26, 1, 24, (.sl 26 .full [])⟩
def ti50 : TI := ⟨.slice 32, 1, 24, (.sl 32 .full [])⟩
def ti51 : TI := ⟨.slice 3, 1, 24, (.sl 3 .full [])⟩
def ti56 : TI := ⟨.slice 97, 1, 24, (.sl 97 .full [])⟩
def ti57 : TI := ⟨.array 5 3, 5, 40, (.agg [(.int .i64 0), (.int .i64 0), (.int .i64 0), (.int .i64 0), (.int .i64 0)])⟩
def ti58 : TI := ⟨.array 24 3, 24, 192, (.agg [(.int .i64 0), (.int .i64 0), (.int .i64 0), (.int .i64 0), (.int .i64 0), (.int .i64 0), (.int .i64 0), (.int .i64 0), (.int .i64 0), (.int .i64 0), (.int .i64 0), (.int .i64 0), (.int .i64 0), (.int .i64 0), (.int .i64 0), (.int .i64 0), (.int .i64 0), (.int .i64 0), (.int .i64 0), (.int .i64 0), (.int .i64 0), (.int .i64 0), (.int .i64 0), (.int .i64 0)])⟩
def ti60 : TI := ⟨.struct [(0, 3), (1, 56), (2, 57), (7, 3), (8, 58)], 32, 272, (.agg [(.int .i64 0), (.sl 97 .full []), (.int .i64 0), (.int .i64 0), (.int .i64 0), (.int .i64 0), (.int .i64 0), (.int .i64 0), (.int .i64 0), (.int .i64 0), (.int .i64 0), (.int .i64 0), (.int .i64 0), (.int .i64 0), (.int .i64 0), (.int .i64 0), (.int .i64 0), (.int .i64 0), (.int .i64 0), (.int .i64 0), (.int .i64 0), (.int .i64 0), (.int .i64 0), (.int .i64 0), (.int .i64 0), (.int .i64 0), (.int .i64 0), (.int .i64 0), (.int .i64 0), (.int .i64 0), (.int .i64 0), (.int .i64 0)])⟩
def ti67 : TI := ⟨.slice 73, 1, 24, (.sl 73 .full [])⟩
def ti69 : TI := ⟨.struct [(0, 67)], 1, 24, (.agg [(.sl 73 .full [])])⟩
def ti70 : TI := ⟨.slice 71, 1, 24, (.sl 71 .full [])⟩
def ti71 : TI := ⟨.int .u64, 1, 8, (.int .u64 0)⟩
def ti73 : TI := ⟨.struct [(0, 9), (1, 70), (2, 71)], 3, 48, (.agg [(.str ⟨#[]⟩), (.sl 71 .full []), (.int .u64 0)])⟩
def ti74 : TI := ⟨.ptr 114, 1, 8, .nilp⟩
def ti78 : TI := ⟨.slice 69, 1, 24, (.sl 69 .full [])⟩
def ti87 : TI := ⟨.slice 60, 1, 24, (.sl 60 .full [])⟩
def ti97 : TI := ⟨.struct [(0, 3), (1, 2), (2, 3), (3, 3), (4, 71), (5, 3)], 6, 48, (.agg [(.int .i64 0), (.int .i64 0), (.int .i64 0), (.int .i64 0), (.int .u64 0), (.int .i64 0)])⟩
def ti108 : TI := ⟨.struct [(0, 22)], 1, 24, (.agg [(.sl 5 .full [])])⟩
def ti114 : TI := ⟨.struct [(0, 51), (1, 3)], 2, 32, (.agg [(.sl 3 .full []), (.int .i64 0)])⟩
def ti116 : TI := ⟨.fn, 1, 8, .nilf⟩
def ti122 : TI := ⟨.fn, 1, 8, .nilf⟩
def ti124 : TI := ⟨.slice 9, 1, 24, (.sl 9 .full [])⟩
def ti125 : TI := ⟨.fn, 1, 8, .nilf⟩
def ti128 : TI := ⟨.fn, 1, 8, .nilf⟩
def ti132 : TI := ⟨.slice 24, 1, 24, (.sl 24 .full [])⟩
def ti135 : TI := ⟨.int .u32, 1, 4, (.int .u32 0)⟩
def ti144 : TI := ⟨.struct [(0, 3), (1, 3), (2, 71)], 3, 24, (.agg [(.int .i64 0), (.int .i64 0), (.int .u64 0)])⟩
def tab : Tab := fun t => (bif Nat.blt t 60 then (bif Nat.blt t 27 then (bif Nat.blt t 9 then (bif Nat.blt t 3 then (bif Nat.blt t 2 then (if t = 1 then some ti1 else none) else (if t = 2 then some ti2 else none)) else (bif Nat.blt t 4 then (if t = 3 then some ti3 else none) else (bif Nat.blt t 5 then (if t = 4 then some ti4 else none) else (if t = 5 then some ti5 else none)))) else (bif Nat.blt t 22 then (bif Nat.blt t 21 then (if t = 9 then some ti9 else none) else (if t = 21 then some ti21 else none)) else (bif Nat.blt t 24 then (if t = 22 then some ti22 else none) else (bif Nat.blt t 26 then (if t = 24 then some ti24 else none) else (if t = 26 then some ti26 else none))))) else (bif Nat.blt t 50 then (bif Nat.blt t 32 then (bif Nat.blt t 30 then (if t = 27 then some ti27 else none) else (if t = 30 then some ti30 else none)) else (bif Nat.blt t 40 then (if t = 32 then some ti32 else none) else (bif Nat.blt t 48 then (if t = 40 then some ti40 else none) else (if t = 48 then some ti48 else none)))) else (bif Nat.blt t 56 then (bif Nat.blt t 51 then (if t = 50 then some ti50 else none) else (if t = 51 then some ti51 else none)) else (bif Nat.blt t 57 then (if t = 56 then some ti56 else none) else (bif Nat.blt t 58 then (if t = 57 then some ti57 else none) else (if t = 58 then some ti58 else none)))))) else (bif Nat.blt t 108 then (bif Nat.blt t 73 then (bif Nat.blt t 69 then (bif Nat.blt t 67 then (if t = 60 then some ti60 else none) else (if t = 67 then some ti67 else none)) else (bif Nat.blt t 70 then (if t = 69 then some ti69 else none) else (bif Nat.blt t 71 then (if t = 70 then some ti70 else none) else (if t = 71 then some ti71 else none)))) else (bif Nat.blt t 78 then (bif Nat.blt t 74 then (if t = 73 then some ti73 else none) else (if t = 74 then some ti74 else none)) else (bif Nat.blt t 87 then (if t = 78 then some ti78 else none) else (bif Nat.blt t 97 then (if t = 87 then some ti87 else none) else (if t = 97 then some ti97 else none))))) else (bif Nat.blt t 125 then (bif Nat.blt t 116 then (bif Nat.blt t 114 then (if t = 108 then some ti108 else none) else (if t = 114 then some ti114 else none)) else (bif Nat.blt t 122 then (if t = 116 then some ti116 else none) else (bif Nat.blt t 124 then (if t = 122 then some ti122 else none) else (if t = 124 then some ti124 else none)))) else (bif Nat.blt t 132 then (bif Nat.blt t 128 then (if t = 125 then some ti125 else none) else (if t = 128 then some ti128 else none)) else (bif Nat.blt t 135 then (if t = 132 then some ti132 else none) else (bif Nat.blt t 144 then (if t = 135 then some ti135 else none) else (if t = 144 then some ti144 else none)))))))
theorem info1 : (Try.prog.info? 1).map (fun I => (I.size, I.bytes, I.zero)) = some (1, 8, some .nilFunc) := by kernel_rfl
theorem tok1 : TIOk Try.prog 1 ti1 := by
  refine ⟨⟨_, Try.underlying1, trivial⟩, ?_, rfl⟩
  obtain ⟨I, hI, he⟩ := Option.map_eq_some_iff.1 info1
  simp only [Prod.mk.injEq] at he
  exact ⟨I, _, hI, he.1, he.2.1, he.2.2, fun Im w => (.nilf)⟩
theorem info2 : (Try.prog.info? 2).map (fun I => (I.size, I.bytes, I.zero)) = some (1, 8, some (.int .i64 0)) := by kernel_rfl
theorem tok2 : TIOk Try.prog 2 ti2 := by
  refine ⟨⟨_, Try.underlying2, rfl⟩, ?_, rfl⟩
  obtain ⟨I, hI, he⟩ := Option.map_eq_some_iff.1 info2
  simp only [Prod.mk.injEq] at he
  exact ⟨I, _, hI, he.1, he.2.1, he.2.2, fun Im w => (.int _ _)⟩
theorem info3 : (Try.prog.info? 3).map (fun I => (I.size, I.bytes, I.zero)) = some (1, 8, some (.int .i64 0)) := by kernel_rfl
theorem tok3 : TIOk Try.prog 3 ti3 := by
  refine ⟨⟨_, Try.underlying3, rfl⟩, ?_, rfl⟩
  obtain ⟨I, hI, he⟩ := Option.map_eq_some_iff.1 info3
  simp only [Prod.mk.injEq] at he
  exact ⟨I, _, hI, he.1, he.2.1, he.2.2, fun Im w => (.int _ _)⟩
theorem info4 : (Try.prog.info? 4).map (fun I => (I.size, I.bytes, I.zero)) = some (1, 1, some (.bool false)) := by kernel_rfl
theorem tok4 : TIOk Try.prog 4 ti4 := by
  refine ⟨⟨_, Try.underlying4, trivial⟩, ?_, rfl⟩
  obtain ⟨I, hI, he⟩ := Option.map_eq_some_iff.1 info4
  simp only [Prod.mk.injEq] at he
  exact ⟨I, _, hI, he.1, he.2.1, he.2.2, fun Im w => (.bool _)⟩
theorem info5 : (Try.prog.info? 5).map (fun I => (I.size, I.bytes, I.zero)) = some (1, 1, some (.int .u8 0)) := by kernel_rfl
theorem tok5 : TIOk Try.prog 5 ti5 := by
  refine ⟨⟨_, Try.underlying5, rfl⟩, ?_, rfl⟩
  obtain ⟨I, hI, he⟩ := Option.map_eq_some_iff.1 info5
  simp only [Prod.mk.injEq] at he
  exact ⟨I, _, hI, he.1, he.2.1, he.2.2, fun Im w => (.int _ _)⟩
theorem info9 : (Try.prog.info? 9).map (fun I => (I.size, I.bytes, I.zero)) = some (1, 16, some (.string ⟨#[]⟩)) := by kernel_rfl
theorem tok9 : TIOk Try.prog 9 ti9 := by
  refine ⟨⟨_, Try.underlying9, trivial⟩, ?_, rfl⟩
  obtain ⟨I, hI, he⟩ := Option.map_eq_some_iff.1 info9
  simp only [Prod.mk.injEq] at he
  exact ⟨I, _, hI, he.1, he.2.1, he.2.2, fun Im w => (.str _)⟩
theorem info21 : (Try.prog.info? 21).map (fun I => (I.size, I.bytes, I.zero)) = some (1, 4, some (.int .i32 0)) := by kernel_rfl
theorem tok21 : TIOk Try.prog 21 ti21 := by
  refine ⟨⟨_, Try.underlying21, rfl⟩, ?_, rfl⟩
  obtain ⟨I, hI, he⟩ := Option.map_eq_some_iff.1 info21
  simp only [Prod.mk.injEq] at he
  exact ⟨I, _, hI, he.1, he.2.1, he.2.2, fun Im w => (.int _ _)⟩
theorem info22 : (Try.prog.info? 22).map (fun I => (I.size, I.bytes, I.zero)) = some (1, 24, some (.slice none 0 0)) := by kernel_rfl
theorem tok22 : TIOk Try.prog 22 ti22 := by
  refine ⟨⟨_, Try.underlying22, rfl⟩, ?_, rfl⟩
  obtain ⟨I, hI, he⟩ := Option.map_eq_some_iff.1 info22
  simp only [Prod.mk.injEq] at he
  exact ⟨I, _, hI, he.1, he.2.1, he.2.2, fun Im w => (rr_nil _)⟩
theorem info24 : (Try.prog.info? 24).map (fun I => (I.size, I.bytes, I.zero)) = some (1, 24, some (.slice none 0 0)) := by kernel_rfl
theorem tok24 : TIOk Try.prog 24 ti24 := by
  refine ⟨⟨_, Try.underlying24, rfl⟩, ?_, rfl⟩
  obtain ⟨I, hI, he⟩ := Option.map_eq_some_iff.1 info24
  simp only [Prod.mk.injEq] at he
  exact ⟨I, _, hI, he.1, he.2.1, he.2.2, fun Im w => (rr_nil _)⟩
theorem info26 : (Try.prog.info? 26).map (fun I => (I.size, I.bytes, I.zero)) = some (5, 56, some (.agg #[(.int .i64 0), (.int .i64 0), (.int .i64 0), (.int .i64 0), (.slice none 0 0)])) := by kernel_rfl
theorem tok26 : TIOk Try.prog 26 ti26 := by
  refine ⟨⟨_, Try.underlying26, rfl⟩, ?_, rfl⟩
  obtain ⟨I, hI, he⟩ := Option.map_eq_some_iff.1 info26
  simp only [Prod.mk.injEq] at he
  exact ⟨I, _, hI, he.1, he.2.1, he.2.2, fun Im w => (.agg _ _ rfl (by intro j y h; exact (by decide : ∀ y ∈ (PV.cells ti26.zero), PV.isCell y = true) y (List.mem_of_getElem? h)) fun j y c h1 h2 => match j, y, c, h1, h2 with
    | 0, y, c, h1, h2 => by cases h1; cases h2; exact .int _ _
    | 1, y, c, h1, h2 => by cases h1; cases h2; exact .int _ _
    | 2, y, c, h1, h2 => by cases h1; cases h2; exact .int _ _
    | 3, y, c, h1, h2 => by cases h1; cases h2; exact .int _ _
    | 4, y, c, h1, h2 => by cases h1; cases h2; exact rr_nil _
    | _ + 5, y, c, h1, h2 => by cases h1)⟩
theorem info27 : (Try.prog.info? 27).map (fun I => (I.size, I.bytes, I.zero)) = some (1, 8, some (.int .i64 0)) := by kernel_rfl
theorem tok27 : TIOk Try.prog 27 ti27 := by
  refine ⟨⟨_, Try.underlying27, rfl⟩, ?_, rfl⟩
  obtain ⟨I, hI, he⟩ := Option.map_eq_some_iff.1 info27
  simp only [Prod.mk.injEq] at he
  exact ⟨I, _, hI, he.1, he.2.1, he.2.2, fun Im w => (.int _ _)⟩
theorem info30 : (Try.prog.info? 30).map (fun I => (I.size, I.bytes, I.zero)) = some (1, 8, some (.int .u64 0)) := by kernel_rfl
theorem tok30 : TIOk Try.prog 30 ti30 := by
  refine ⟨⟨_, Try.underlying30, rfl⟩, ?_, rfl⟩
  obtain ⟨I, hI, he⟩ := Option.map_eq_some_iff.1 info30
  simp only [Prod.mk.injEq] at he
  exact ⟨I, _, hI, he.1, he.2.1, he.2.2, fun Im w => (.int _ _)⟩
theorem info32 : (Try.prog.info? 32).map (fun I => (I.size, I.bytes, I.zero)) = some (2, 32, some (.agg #[(.int .i64 0), (.slice none 0 0)])) := by kernel_rfl
theorem tok32 : TIOk Try.prog 32 ti32 := by
  refine ⟨⟨_, Try.underlying32, rfl⟩, ?_, rfl⟩
  obtain ⟨I, hI, he⟩ := Option.map_eq_some_iff.1 info32
  simp only [Prod.mk.injEq] at he
  exact ⟨I, _, hI, he.1, he.2.1, he.2.2, fun Im w => (.agg _ _ rfl (by intro j y h; exact (by decide : ∀ y ∈ (PV.cells ti32.zero), PV.isCell y = true) y (List.mem_of_getElem? h)) fun j y c h1 h2 => match j, y, c, h1, h2 with
    | 0, y, c, h1, h2 => by cases h1; cases h2; exact .int _ _
    | 1, y, c, h1, h2 => by cases h1; cases h2; exact rr_nil _
    | _ + 2, y, c, h1, h2 => by cases h1)⟩
theorem info40 : (Try.prog.info? 40).map (fun I => (I.size, I.bytes, I.zero)) = some (1, 8, some (.pointer none)) := by kernel_rfl
theorem tok40 : TIOk Try.prog 40 ti40 := by
  refine ⟨⟨_, Try.underlying40, rfl⟩, ?_, rfl⟩
  obtain ⟨I, hI, he⟩ := Option.map_eq_some_iff.1 info40
  simp only [Prod.mk.injEq] at he
  exact ⟨I, _, hI, he.1, he.2.1, he.2.2, fun Im w => (.nilp)⟩
theorem info48 : (Try.prog.info? 48).map (fun I => (I.size, I.bytes, I.zero)) = some (1, 24, some (.slice none 0 0)) := by kernel_rfl
theorem tok48 : TIOk Try.prog 48 ti48 := by
  refine ⟨⟨_, Try.underlying48, rfl⟩, ?_, rfl⟩
  obtain ⟨I, hI, he⟩ := Option.map_eq_some_iff.1 info48
  simp only [Prod.mk.injEq] at he
  exact ⟨I, _, hI, he.1, he.2.1, he.2.2, fun Im w => (rr_nil _)⟩
theorem info50 : (Try.prog.info? 50).map (fun I => (I.size, I.bytes, I.zero)) = some (1, 24, some (.slice none 0 0)) := by kernel_rfl
theorem tok50 : TIOk Try.prog 50 ti50 := by
  refine ⟨⟨_, Try.underlying50, rfl⟩, ?_, rfl⟩
  obtain ⟨I, hI, he⟩ := Option.map_eq_some_iff.1 info50
  simp only [Prod.mk.injEq] at he
  exact ⟨I, _, hI, he.1, he.2.1, he.2.2, fun Im w => (rr_nil _)⟩
theorem info51 : (Try.prog.info? 51).map (fun I => (I.size, I.bytes, I.zero)) = some (1, 24, some (.slice none 0 0)) := by kernel_rfl
theorem tok51 : TIOk Try.prog 51 ti51 := by
  refine ⟨⟨_, Try.underlying51, rfl⟩, ?_, rfl⟩
  obtain ⟨I, hI, he⟩ := Option.map_eq_some_iff.1 info51
  simp only [Prod.mk.injEq] at he
  exact ⟨I, _, hI, he.1, he.2.1, he.2.2, fun Im w => (rr_nil _)⟩
theorem info56 : (Try.prog.info? 56).map (fun I => (I.size, I.bytes, I.zero)) = some (1, 24, some (.slice none 0 0)) := by kernel_rfl
theorem tok56 : TIOk Try.prog 56 ti56 := by
  refine ⟨⟨_, Try.underlying56, rfl⟩, ?_, rfl⟩
  obtain ⟨I, hI, he⟩ := Option.map_eq_some_iff.1 info56
  simp only [Prod.mk.injEq] at he
  exact ⟨I, _, hI, he.1, he.2.1, he.2.2, fun Im w => (rr_nil _)⟩
theorem info57 : (Try.prog.info? 57).map (fun I => (I.size, I.bytes, I.zero)) = some (5, 40, some (.agg #[(.int .i64 0), (.int .i64 0), (.int .i64 0), (.int .i64 0), (.int .i64 0)])) := by kernel_rfl
theorem tok57 : TIOk Try.prog 57 ti57 := by
  refine ⟨⟨_, Try.underlying57, rfl, rfl⟩, ?_, rfl⟩
  obtain ⟨I, hI, he⟩ := Option.map_eq_some_iff.1 info57
  simp only [Prod.mk.injEq] at he
  exact ⟨I, _, hI, he.1, he.2.1, he.2.2, fun Im w => (.agg _ _ rfl (by intro j y h; exact (by decide : ∀ y ∈ (PV.cells ti57.zero), PV.isCell y = true) y (List.mem_of_getElem? h)) fun j y c h1 h2 => match j, y, c, h1, h2 with
    | 0, y, c, h1, h2 => by cases h1; cases h2; exact .int _ _
    | 1, y, c, h1, h2 => by cases h1; cases h2; exact .int _ _
    | 2, y, c, h1, h2 => by cases h1; cases h2; exact .int _ _
    | 3, y, c, h1, h2 => by cases h1; cases h2; exact .int _ _
    | 4, y, c, h1, h2 => by cases h1; cases h2; exact .int _ _
    | _ + 5, y, c, h1, h2 => by cases h1)⟩
theorem info58 : (Try.prog.info? 58).map (fun I => (I.size, I.bytes, I.zero)) = some (24, 192, some (.agg #[(.int .i64 0), (.int .i64 0), (.int .i64 0), (.int .i64 0), (.int .i64 0), (.int .i64 0), (.int .i64 0), (.int .i64 0), (.int .i64 0), (.int .i64 0), (.int .i64 0), (.int .i64 0), (.int .i64 0), (.int .i64 0), (.int .i64 0), (.int .i64 0), (.int .i64 0), (.int .i64 0), (.int .i64 0), (.int .i64 0), (.int .i64 0), (.int .i64 0), (.int .i64 0), (.int .i64 0)])) := by kernel_rfl
theorem tok58 : TIOk Try.prog 58 ti58 := by
  refine ⟨⟨_, Try.underlying58, rfl, rfl⟩, ?_, rfl⟩
  obtain ⟨I, hI, he⟩ := Option.map_eq_some_iff.1 info58
  simp only [Prod.mk.injEq] at he
  exact ⟨I, _, hI, he.1, he.2.1, he.2.2, fun Im w => (.agg _ _ rfl (by intro j y h; exact (by decide : ∀ y ∈ (PV.cells ti58.zero), PV.isCell y = true) y (List.mem_of_getElem? h)) fun j y c h1 h2 => match j, y, c, h1, h2 with
    | 0, y, c, h1, h2 => by cases h1; cases h2; exact .int _ _
    | 1, y, c, h1, h2 => by cases h1; cases h2; exact .int _ _
    | 2, y, c, h1, h2 => by cases h1; cases h2; exact .int _ _
    | 3, y, c, h1, h2 => by cases h1; cases h2; exact .int _ _
    | 4, y, c, h1, h2 => by cases h1; cases h2; exact .int _ _
    | 5, y, c, h1, h2 => by cases h1; cases h2; exact .int _ _
    | 6, y, c, h1, h2 => by cases h1; cases h2; exact .int _ _
    | 7, y, c, h1, h2 => by cases h1; cases h2; exact .int _ _
    | 8, y, c, h1, h2 => by cases h1; cases h2; exact .int _ _
    | 9, y, c, h1, h2 => by cases h1; cases h2; exact .int _ _
    | 10, y, c, h1, h2 => by cases h1; cases h2; exact .int _ _
    | 11, y, c, h1, h2 => by cases h1; cases h2; exact .int _ _
    | 12, y, c, h1, h2 => by cases h1; cases h2; exact .int _ _
    | 13, y, c, h1, h2 => by cases h1; cases h2; exact .int _ _
    | 14, y, c, h1, h2 => by cases h1; cases h2; exact .int _ _
    | 15, y, c, h1, h2 => by cases h1; cases h2; exact .int _ _
    | 16, y, c, h1, h2 => by cases h1; cases h2; exact .int _ _
    | 17, y, c, h1, h2 => by cases h1; cases h2; exact .int _ _
    | 18, y, c, h1, h2 => by cases h1; cases h2; exact .int _ _
    | 19, y, c, h1, h2 => by cases h1; cases h2; exact .int _ _
    | 20, y, c, h1, h2 => by cases h1; cases h2; exact .int _ _
    | 21, y, c, h1, h2 => by cases h1; cases h2; exact .int _ _
    | 22, y, c, h1, h2 => by cases h1; cases h2; exact .int _ _
    | 23, y, c, h1, h2 => by cases h1; cases h2; exact .int _ _
    | _ + 24, y, c, h1, h2 => by cases h1)⟩
theorem info60 : (Try.prog.info? 60).map (fun I => (I.size, I.bytes, I.zero)) = some (32, 272, some (.agg #[(.int .i64 0), (.slice none 0 0), (.int .i64 0), (.int .i64 0), (.int .i64 0), (.int .i64 0), (.int .i64 0), (.int .i64 0), (.int .i64 0), (.int .i64 0), (.int .i64 0), (.int .i64 0), (.int .i64 0), (.int .i64 0), (.int .i64 0), (.int .i64 0), (.int .i64 0), (.int .i64 0), (.int .i64 0), (.int .i64 0), (.int .i64 0), (.int .i64 0), (.int .i64 0), (.int .i64 0), (.int .i64 0), (.int .i64 0), (.int .i64 0), (.int .i64 0), (.int .i64 0), (.int .i64 0), (.int .i64 0), (.int .i64 0)])) := by kernel_rfl
theorem tok60 : TIOk Try.prog 60 ti60 := by
  refine ⟨⟨_, Try.underlying60, rfl⟩, ?_, rfl⟩
  obtain ⟨I, hI, he⟩ := Option.map_eq_some_iff.1 info60
  simp only [Prod.mk.injEq] at he
  exact ⟨I, _, hI, he.1, he.2.1, he.2.2, fun Im w => (.agg _ _ rfl (by intro j y h; exact (by decide : ∀ y ∈ (PV.cells ti60.zero), PV.isCell y = true) y (List.mem_of_getElem? h)) fun j y c h1 h2 => match j, y, c, h1, h2 with
    | 0, y, c, h1, h2 => by cases h1; cases h2; exact .int _ _
    | 1, y, c, h1, h2 => by cases h1; cases h2; exact rr_nil _
    | 2, y, c, h1, h2 => by cases h1; cases h2; exact .int _ _
    | 3, y, c, h1, h2 => by cases h1; cases h2; exact .int _ _
    | 4, y, c, h1, h2 => by cases h1; cases h2; exact .int _ _
    | 5, y, c, h1, h2 => by cases h1; cases h2; exact .int _ _
    | 6, y, c, h1, h2 => by cases h1; cases h2; exact .int _ _
    | 7, y, c, h1, h2 => by cases h1; cases h2; exact .int _ _
    | 8, y, c, h1, h2 => by cases h1; cases h2; exact .int _ _
    | 9, y, c, h1, h2 => by cases h1; cases h2; exact .int _ _
    | 10, y, c, h1, h2 => by cases h1; cases h2; exact .int _ _
    | 11, y, c, h1, h2 => by cases h1; cases h2; exact .int _ _
    | 12, y, c, h1, h2 => by cases h1; cases h2; exact .int _ _
    | 13, y, c, h1, h2 => by cases h1; cases h2; exact .int _ _
    | 14, y, c, h1, h2 => by cases h1; cases h2; exact .int _ _
    | 15, y, c, h1, h2 => by cases h1; cases h2; exact .int _ _
    | 16, y, c, h1, h2 => by cases h1; cases h2; exact .int _ _
    | 17, y, c, h1, h2 => by cases h1; cases h2; exact .int _ _
    | 18, y, c, h1, h2 => by cases h1; cases h2; exact .int _ _
    | 19, y, c, h1, h2 => by cases h1; cases h2; exact .int _ _
    | 20, y, c, h1, h2 => by cases h1; cases h2; exact .int _ _
    | 21, y, c, h1, h2 => by cases h1; cases h2; exact .int _ _
    | 22, y, c, h1, h2 => by cases h1; cases h2; exact .int _ _
    | 23, y, c, h1, h2 => by cases h1; cases h2; exact .int _ _
    | 24, y, c, h1, h2 => by cases h1; cases h2; exact .int _ _
    | 25, y, c, h1, h2 => by cases h1; cases h2; exact .int _ _
    | 26, y, c, h1, h2 => by cases h1; cases h2; exact .int _ _
    | 27, y, c, h1, h2 => by cases h1; cases h2; exact .int _ _
    | 28, y, c, h1, h2 => by cases h1; cases h2; exact .int _ _
    | 29, y, c, h1, h2 => by cases h1; cases h2; exact .int _ _
    | 30, y, c, h1, h2 => by cases h1; cases h2; exact .int _ _
    | 31, y, c, h1, h2 => by cases h1; cases h2; exact .int _ _
    | _ + 32, y, c, h1, h2 => by cases h1)⟩
theorem info67 : (Try.prog.info? 67).map (fun I => (I.size, I.bytes, I.zero)) = some (1, 24, some (.slice none 0 0)) := by kernel_rfl
theorem tok67 : TIOk Try.prog 67 ti67 := by
  refine ⟨⟨_, Try.underlying67, rfl⟩, ?_, rfl⟩
  obtain ⟨I, hI, he⟩ := Option.map_eq_some_iff.1 info67
  simp only [Prod.mk.injEq] at he
  exact ⟨I, _, hI, he.1, he.2.1, he.2.2, fun Im w => (rr_nil _)⟩
theorem info69 : (Try.prog.info? 69).map (fun I => (I.size, I.bytes, I.zero)) = some (1, 24, some (.agg #[(.slice none 0 0)])) := by kernel_rfl
theorem tok69 : TIOk Try.prog 69 ti69 := by
  refine ⟨⟨_, Try.underlying69, rfl⟩, ?_, rfl⟩
  obtain ⟨I, hI, he⟩ := Option.map_eq_some_iff.1 info69
  simp only [Prod.mk.injEq] at he
  exact ⟨I, _, hI, he.1, he.2.1, he.2.2, fun Im w => (.agg _ _ rfl (by intro j y h; exact (by decide : ∀ y ∈ (PV.cells ti69.zero), PV.isCell y = true) y (List.mem_of_getElem? h)) fun j y c h1 h2 => match j, y, c, h1, h2 with
    | 0, y, c, h1, h2 => by cases h1; cases h2; exact rr_nil _
    | _ + 1, y, c, h1, h2 => by cases h1)⟩
theorem info70 : (Try.prog.info? 70).map (fun I => (I.size, I.bytes, I.zero)) = some (1, 24, some (.slice none 0 0)) := by kernel_rfl
theorem tok70 : TIOk Try.prog 70 ti70 := by
  refine ⟨⟨_, Try.underlying70, rfl⟩, ?_, rfl⟩
  obtain ⟨I, hI, he⟩ := Option.map_eq_some_iff.1 info70
  simp only [Prod.mk.injEq] at he
  exact ⟨I, _, hI, he.1, he.2.1, he.2.2, fun Im w => (rr_nil _)⟩
theorem info71 : (Try.prog.info? 71).map (fun I => (I.size, I.bytes, I.zero)) = some (1, 8, some (.int .u64 0)) := by kernel_rfl
theorem tok71 : TIOk Try.prog 71 ti71 := by
  refine ⟨⟨_, Try.underlying71, rfl⟩, ?_, rfl⟩
  obtain ⟨I, hI, he⟩ := Option.map_eq_some_iff.1 info71
  simp only [Prod.mk.injEq] at he
  exact ⟨I, _, hI, he.1, he.2.1, he.2.2, fun Im w => (.int _ _)⟩
theorem info73 : (Try.prog.info? 73).map (fun I => (I.size, I.bytes, I.zero)) = some (3, 48, some (.agg #[(.string ⟨#[]⟩), (.slice none 0 0), (.int .u64 0)])) := by kernel_rfl
theorem tok73 : TIOk Try.prog 73 ti73 := by
  refine ⟨⟨_, Try.underlying73, rfl⟩, ?_, rfl⟩
  obtain ⟨I, hI, he⟩ := Option.map_eq_some_iff.1 info73
  simp only [Prod.mk.injEq] at he
  exact ⟨I, _, hI, he.1, he.2.1, he.2.2, fun Im w => (.agg _ _ rfl (by intro j y h; exact (by decide : ∀ y ∈ (PV.cells ti73.zero), PV.isCell y = true) y (List.mem_of_getElem? h)) fun j y c h1 h2 => match j, y, c, h1, h2 with
    | 0, y, c, h1, h2 => by cases h1; cases h2; exact .str _
    | 1, y, c, h1, h2 => by cases h1; cases h2; exact rr_nil _
    | 2, y, c, h1, h2 => by cases h1; cases h2; exact .int _ _
    | _ + 3, y, c, h1, h2 => by cases h1)⟩
theorem info74 : (Try.prog.info? 74).map (fun I => (I.size, I.bytes, I.zero)) = some (1, 8, some (.pointer none)) := by kernel_rfl
theorem tok74 : TIOk Try.prog 74 ti74 := by
  refine ⟨⟨_, Try.underlying74, rfl⟩, ?_, rfl⟩
  obtain ⟨I, hI, he⟩ := Option.map_eq_some_iff.1 info74
  simp only [Prod.mk.injEq] at he
  exact ⟨I, _, hI, he.1, he.2.1, he.2.2, fun Im w => (.nilp)⟩
theorem info78 : (Try.prog.info? 78).map (fun I => (I.size, I.bytes, I.zero)) = some (1, 24, some (.slice none 0 0)) := by kernel_rfl
theorem tok78 : TIOk Try.prog 78 ti78 := by
  refine ⟨⟨_, Try.underlying78, rfl⟩, ?_, rfl⟩
  obtain ⟨I, hI, he⟩ := Option.map_eq_some_iff.1 info78
  simp only [Prod.mk.injEq] at he
  exact ⟨I, _, hI, he.1, he.2.1, he.2.2, fun Im w => (rr_nil _)⟩
theorem info87 : (Try.prog.info? 87).map (fun I => (I.size, I.bytes, I.zero)) = some (1, 24, some (.slice none 0 0)) := by kernel_rfl
theorem tok87 : TIOk Try.prog 87 ti87 := by
  refine ⟨⟨_, Try.underlying87, rfl⟩, ?_, rfl⟩
  obtain ⟨I, hI, he⟩ := Option.map_eq_some_iff.1 info87
  simp only [Prod.mk.injEq] at he
  exact ⟨I, _, hI, he.1, he.2.1, he.2.2, fun Im w => (rr_nil _)⟩
theorem info97 : (Try.prog.info? 97).map (fun I => (I.size, I.bytes, I.zero)) = some (6, 48, some (.agg #[(.int .i64 0), (.int .i64 0), (.int .i64 0), (.int .i64 0), (.int .u64 0), (.int .i64 0)])) := by kernel_rfl
theorem tok97 : TIOk Try.prog 97 ti97 := by
  refine ⟨⟨_, Try.underlying97, rfl⟩, ?_, rfl⟩
  obtain ⟨I, hI, he⟩ := Option.map_eq_some_iff.1 info97
  simp only [Prod.mk.injEq] at he
  exact ⟨I, _, hI, he.1, he.2.1, he.2.2, fun Im w => (.agg _ _ rfl (by intro j y h; exact (by decide : ∀ y ∈ (PV.cells ti97.zero), PV.isCell y = true) y (List.mem_of_getElem? h)) fun j y c h1 h2 => match j, y, c, h1, h2 with
    | 0, y, c, h1, h2 => by cases h1; cases h2; exact .int _ _
    | 1, y, c, h1, h2 => by cases h1; cases h2; exact .int _ _
    | 2, y, c, h1, h2 => by cases h1; cases h2; exact .int _ _
    | 3, y, c, h1, h2 => by cases h1; cases h2; exact .int _ _
    | 4, y, c, h1, h2 => by cases h1; cases h2; exact .int _ _
    | 5, y, c, h1, h2 => by cases h1; cases h2; exact .int _ _
    | _ + 6, y, c, h1, h2 => by cases h1)⟩
theorem info108 : (Try.prog.info? 108).map (fun I => (I.size, I.bytes, I.zero)) = some (1, 24, some (.agg #[(.slice none 0 0)])) := by kernel_rfl
theorem tok108 : TIOk Try.prog 108 ti108 := by
  refine ⟨⟨_, Try.underlying108, rfl⟩, ?_, rfl⟩
  obtain ⟨I, hI, he⟩ := Option.map_eq_some_iff.1 info108
  simp only [Prod.mk.injEq] at he
  exact ⟨I, _, hI, he.1, he.2.1, he.2.2, fun Im w => (.agg _ _ rfl (by intro j y h; exact (by decide : ∀ y ∈ (PV.cells ti108.zero), PV.isCell y = true) y (List.mem_of_getElem? h)) fun j y c h1 h2 => match j, y, c, h1, h2 with
    | 0, y, c, h1, h2 => by cases h1; cases h2; exact rr_nil _
    | _ + 1, y, c, h1, h2 => by cases h1)⟩
theorem info114 : (Try.prog.info? 114).map (fun I => (I.size, I.bytes, I.zero)) = some (2, 32, some (.agg #[(.slice none 0 0), (.int .i64 0)])) := by kernel_rfl
theorem tok114 : TIOk Try.prog 114 ti114 := by
  refine ⟨⟨_, Try.underlying114, rfl⟩, ?_, rfl⟩
  obtain ⟨I, hI, he⟩ := Option.map_eq_some_iff.1 info114
  simp only [Prod.mk.injEq] at he
  exact ⟨I, _, hI, he.1, he.2.1, he.2.2, fun Im w => (.agg _ _ rfl (by intro j y h; exact (by decide : ∀ y ∈ (PV.cells ti114.zero), PV.isCell y = true) y (List.mem_of_getElem? h)) fun j y c h1 h2 => match j, y, c, h1, h2 with
    | 0, y, c, h1, h2 => by cases h1; cases h2; exact rr_nil _
    | 1, y, c, h1, h2 => by cases h1; cases h2; exact .int _ _
    | _ + 2, y, c, h1, h2 => by cases h1)⟩
theorem info116 : (Try.prog.info? 116).map (fun I => (I.size, I.bytes, I.zero)) = some (1, 8, some .nilFunc) := by kernel_rfl
theorem tok116 : TIOk Try.prog 116 ti116 := by
  refine ⟨⟨_, Try.underlying116, trivial⟩, ?_, rfl⟩
  obtain ⟨I, hI, he⟩ := Option.map_eq_some_iff.1 info116
  simp only [Prod.mk.injEq] at he
  exact ⟨I, _, hI, he.1, he.2.1, he.2.2, fun Im w => (.nilf)⟩
theorem info122 : (Try.prog.info? 122).map (fun I => (I.size, I.bytes, I.zero)) = some (1, 8, some .nilFunc) := by kernel_rfl
theorem tok122 : TIOk Try.prog 122 ti122 := by
  refine ⟨⟨_, Try.underlying122, trivial⟩, ?_, rfl⟩
  obtain ⟨I, hI, he⟩ := Option.map_eq_some_iff.1 info122
  simp only [Prod.mk.injEq] at he
  exact ⟨I, _, hI, he.1, he.2.1, he.2.2, fun Im w => (.nilf)⟩
theorem info124 : (Try.prog.info? 124).map (fun I => (I.size, I.bytes, I.zero)) = some (1, 24, some (.slice none 0 0)) := by kernel_rfl
theorem tok124 : TIOk Try.prog 124 ti124 := by
  refine ⟨⟨_, Try.underlying124, rfl⟩, ?_, rfl⟩
  obtain ⟨I, hI, he⟩ := Option.map_eq_some_iff.1 info124
  simp only [Prod.mk.injEq] at he
  exact ⟨I, _, hI, he.1, he.2.1, he.2.2, fun Im w => (rr_nil _)⟩
theorem info125 : (Try.prog.info? 125).map (fun I => (I.size, I.bytes, I.zero)) = some (1, 8, some .nilFunc) := by kernel_rfl
theorem tok125 : TIOk Try.prog 125 ti125 := by
  refine ⟨⟨_, Try.underlying125, trivial⟩, ?_, rfl⟩
  obtain ⟨I, hI, he⟩ := Option.map_eq_some_iff.1 info125
  simp only [Prod.mk.injEq] at he
  exact ⟨I, _, hI, he.1, he.2.1, he.2.2, fun Im w => (.nilf)⟩
theorem info128 : (Try.prog.info? 128).map (fun I => (I.size, I.bytes, I.zero)) = some (1, 8, some .nilFunc) := by kernel_rfl
theorem tok128 : TIOk Try.prog 128 ti128 := by
  refine ⟨⟨_, Try.underlying128, trivial⟩, ?_, rfl⟩
  obtain ⟨I, hI, he⟩ := Option.map_eq_some_iff.1 info128
  simp only [Prod.mk.injEq] at he
  exact ⟨I, _, hI, he.1, he.2.1, he.2.2, fun Im w => (.nilf)⟩
theorem info132 : (Try.prog.info? 132).map (fun I => (I.size, I.bytes, I.zero)) = some (1, 24, some (.slice none 0 0)) := by kernel_rfl
theorem tok132 : TIOk Try.prog 132 ti132 := by
  refine ⟨⟨_, Try.underlying132, rfl⟩, ?_, rfl⟩
  obtain ⟨I, hI, he⟩ := Option.map_eq_some_iff.1 info132
  simp only [Prod.mk.injEq] at he
  exact ⟨I, _, hI, he.1, he.2.1, he.2.2, fun Im w => (rr_nil _)⟩
theorem info135 : (Try.prog.info? 135).map (fun I => (I.size, I.bytes, I.zero)) = some (1, 4, some (.int .u32 0)) := by kernel_rfl
theorem tok135 : TIOk Try.prog 135 ti135 := by
  refine ⟨⟨_, Try.underlying135, rfl⟩, ?_, rfl⟩
  obtain ⟨I, hI, he⟩ := Option.map_eq_some_iff.1 info135
  simp only [Prod.mk.injEq] at he
  exact ⟨I, _, hI, he.1, he.2.1, he.2.2, fun Im w => (.int _ _)⟩
theorem info144 : (Try.prog.info? 144).map (fun I => (I.size, I.bytes, I.zero)) = some (3, 24, some (.agg #[(.int .i64 0), (.int .i64 0), (.int .u64 0)])) := by kernel_rfl
theorem tok144 : TIOk Try.prog 144 ti144 := by
  refine ⟨⟨_, Try.underlying144, rfl⟩, ?_, rfl⟩
  obtain ⟨I, hI, he⟩ := Option.map_eq_some_iff.1 info144
  simp only [Prod.mk.injEq] at he
  exact ⟨I, _, hI, he.1, he.2.1, he.2.2, fun Im w => (.agg _ _ rfl (by intro j y h; exact (by decide : ∀ y ∈ (PV.cells ti144.zero), PV.isCell y = true) y (List.mem_of_getElem? h)) fun j y c h1 h2 => match j, y, c, h1, h2 with
    | 0, y, c, h1, h2 => by cases h1; cases h2; exact .int _ _
    | 1, y, c, h1, h2 => by cases h1; cases h2; exact .int _ _
    | 2, y, c, h1, h2 => by cases h1; cases h2; exact .int _ _
    | _ + 3, y, c, h1, h2 => by cases h1)⟩
theorem tabOK : TabOK Try.prog tab := by
  intro t i h
  unfold tab at h
  simp only [cond_eq_ite] at h
  repeat' (split at h)
  all_goals first | (cases h; done) | skip
  all_goals (subst_vars; cases h; first | exact tok1 | exact tok2 | exact tok3 | exact tok4 | exact tok5 | exact tok9 | exact tok21 | exact tok22 | exact tok24 | exact tok26 | exact tok27 | exact tok30 | exact tok32 | exact tok40 | exact tok48 | exact tok50 | exact tok51 | exact tok56 | exact tok57 | exact tok58 | exact tok60 | exact tok67 | exact tok69 | exact tok70 | exact tok71 | exact tok73 | exact tok74 | exact tok78 | exact tok87 | exact tok97 | exact tok108 | exact tok114 | exact tok116 | exact tok122 | exact tok124 | exact tok125 | exact tok128 | exact tok132 | exact tok135 | exact tok144)
theorem mix : Try.prog.follows .mixedOrders = true := by kernel_rfl
end Go.Proofs.Ytacdknbakjbpiaa
