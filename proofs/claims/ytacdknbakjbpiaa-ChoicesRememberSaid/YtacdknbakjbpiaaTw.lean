/-
  What values of the struct types look like.
-/
import Derived.Test.YtacdknbakjbpiaaTy
import Derived.Test.YtacdknbakjbpiaaAb35
namespace Go.Proofs.Ytacdknbakjbpiaa
open Go Ab

def W26 (x : Ring) : Prop := ((Lit.int .i64 x.Channels).wf = true) ∧ ((Lit.int .i64 x.Capacity).wf = true) ∧ ((Lit.int .i64 x.Written).wf = true) ∧ ((Lit.int .i64 x.Read).wf = true) ∧ (x.Data.length ≤ maxLen ∧ ∀ n ∈ x.Data, (Lit.int .i32 n).wf = true)
theorem tyC26 {cs : List PV} (h : Ty tab 26 cs) : ∃ x : Ring, cs = [.int .i64 x.Channels, .int .i64 x.Capacity, .int .i64 x.Written, .int .i64 x.Read, .sl 21 .ro (x.Data.map (PV.int .i32))] ∧ W26 x := by
  have h1 := ty_struct h rfl rfl
  obtain ⟨c2, r2, rfl, k2, g2⟩ := tyL_cons (t := 3) (ts := [3, 2, 2, 24]) h1
  obtain ⟨x3, rfl, w3⟩ := ty_int k2 rfl rfl
  obtain ⟨c4, r4, rfl, k4, g4⟩ := tyL_cons (t := 3) (ts := [2, 2, 24]) g2
  obtain ⟨x5, rfl, w5⟩ := ty_int k4 rfl rfl
  obtain ⟨c6, r6, rfl, k6, g6⟩ := tyL_cons (t := 2) (ts := [2, 24]) g4
  obtain ⟨x7, rfl, w7⟩ := ty_int k6 rfl rfl
  obtain ⟨c8, r8, rfl, k8, g8⟩ := tyL_cons (t := 2) (ts := [24]) g6
  obtain ⟨x9, rfl, w9⟩ := ty_int k8 rfl rfl
  obtain ⟨c10, r10, rfl, k10, g10⟩ := tyL_cons (t := 24) (ts := []) g8
  obtain ⟨y11, rfl, w11, z11⟩ := ty_sl k10 rfl rfl
  obtain ⟨x11, rfl, w11n⟩ := ints_of (k := .i32) rfl rfl _ z11
  obtain rfl := tyL_nil g10
  exact ⟨⟨x3, x5, x7, x9, x11⟩, rfl, w3, w5, w7, w9, ⟨by simpa using w11, w11n⟩⟩
theorem tyS26 (y : PV) (h : TyV tab 26 y) : ∃ x : Ring, y = pv26 x ∧ W26 x := by
  obtain ⟨cs, rfl, _⟩ := tyV_struct h rfl rfl
  obtain ⟨x, rfl, hw⟩ := tyC26 h.ty
  exact ⟨x, rfl, hw⟩
def W32 (x : Block) : Prop := ((Lit.int .i64 x.Channels).wf = true) ∧ (x.Data.length ≤ maxLen ∧ ∀ n ∈ x.Data, (Lit.int .i32 n).wf = true)
theorem tyC32 {cs : List PV} (h : Ty tab 32 cs) : ∃ x : Block, cs = [.int .i64 x.Channels, .sl 21 .ro (x.Data.map (PV.int .i32))] ∧ W32 x := by
  have h1 := ty_struct h rfl rfl
  obtain ⟨c2, r2, rfl, k2, g2⟩ := tyL_cons (t := 3) (ts := [24]) h1
  obtain ⟨x3, rfl, w3⟩ := ty_int k2 rfl rfl
  obtain ⟨c4, r4, rfl, k4, g4⟩ := tyL_cons (t := 24) (ts := []) g2
  obtain ⟨y5, rfl, w5, z5⟩ := ty_sl k4 rfl rfl
  obtain ⟨x5, rfl, w5n⟩ := ints_of (k := .i32) rfl rfl _ z5
  obtain rfl := tyL_nil g4
  exact ⟨⟨x3, x5⟩, rfl, w3, ⟨by simpa using w5, w5n⟩⟩
theorem tyS32 (y : PV) (h : TyV tab 32 y) : ∃ x : Block, y = pv32 x ∧ W32 x := by
  obtain ⟨cs, rfl, _⟩ := tyV_struct h rfl rfl
  obtain ⟨x, rfl, hw⟩ := tyC32 h.ty
  exact ⟨x, rfl, hw⟩
def W108 (x : Dice) : Prop := (x.l.length ≤ maxLen ∧ ∀ n ∈ x.l, (Lit.int .u8 n).wf = true)
theorem tyC108 {cs : List PV} (h : Ty tab 108 cs) : ∃ x : Dice, cs = [.sl 5 .ro (x.l.map (PV.int .u8))] ∧ W108 x := by
  have h1 := ty_struct h rfl rfl
  obtain ⟨c2, r2, rfl, k2, g2⟩ := tyL_cons (t := 22) (ts := []) h1
  obtain ⟨y3, rfl, w3, z3⟩ := ty_sl k2 rfl rfl
  obtain ⟨x3, rfl, w3n⟩ := ints_of (k := .u8) rfl rfl _ z3
  obtain rfl := tyL_nil g2
  exact ⟨⟨x3⟩, rfl, ⟨by simpa using w3, w3n⟩⟩
theorem tyS108 (y : PV) (h : TyV tab 108 y) : ∃ x : Dice, y = pv108 x ∧ W108 x := by
  obtain ⟨cs, rfl, _⟩ := tyV_struct h rfl rfl
  obtain ⟨x, rfl, hw⟩ := tyC108 h.ty
  exact ⟨x, rfl, hw⟩
def W97 (x : Glitch) : Prop := ((Lit.int .i64 x.Kind).wf = true) ∧ ((Lit.int .i64 x.At).wf = true) ∧ ((Lit.int .i64 x.Quanta).wf = true) ∧ ((Lit.int .i64 x.Stream).wf = true) ∧ ((Lit.int .u64 x.Device).wf = true) ∧ ((Lit.int .i64 x.Frames).wf = true)
theorem tyC97 {cs : List PV} (h : Ty tab 97 cs) : ∃ x : Glitch, cs = [.int .i64 x.Kind, .int .i64 x.At, .int .i64 x.Quanta, .int .i64 x.Stream, .int .u64 x.Device, .int .i64 x.Frames] ∧ W97 x := by
  have h1 := ty_struct h rfl rfl
  obtain ⟨c2, r2, rfl, k2, g2⟩ := tyL_cons (t := 3) (ts := [2, 3, 3, 71, 3]) h1
  obtain ⟨x3, rfl, w3⟩ := ty_int k2 rfl rfl
  obtain ⟨c4, r4, rfl, k4, g4⟩ := tyL_cons (t := 2) (ts := [3, 3, 71, 3]) g2
  obtain ⟨x5, rfl, w5⟩ := ty_int k4 rfl rfl
  obtain ⟨c6, r6, rfl, k6, g6⟩ := tyL_cons (t := 3) (ts := [3, 71, 3]) g4
  obtain ⟨x7, rfl, w7⟩ := ty_int k6 rfl rfl
  obtain ⟨c8, r8, rfl, k8, g8⟩ := tyL_cons (t := 3) (ts := [71, 3]) g6
  obtain ⟨x9, rfl, w9⟩ := ty_int k8 rfl rfl
  obtain ⟨c10, r10, rfl, k10, g10⟩ := tyL_cons (t := 71) (ts := [3]) g8
  obtain ⟨x11, rfl, w11⟩ := ty_int k10 rfl rfl
  obtain ⟨c12, r12, rfl, k12, g12⟩ := tyL_cons (t := 3) (ts := []) g10
  obtain ⟨x13, rfl, w13⟩ := ty_int k12 rfl rfl
  obtain rfl := tyL_nil g12
  exact ⟨⟨x3, x5, x7, x9, x11, x13⟩, rfl, w3, w5, w7, w9, w11, w13⟩
theorem tyS97 (y : PV) (h : TyV tab 97 y) : ∃ x : Glitch, y = pv97 x ∧ W97 x := by
  obtain ⟨cs, rfl, _⟩ := tyV_struct h rfl rfl
  obtain ⟨x, rfl, hw⟩ := tyC97 h.ty
  exact ⟨x, rfl, hw⟩
def W60 (x : Recorder) : Prop := ((Lit.int .i64 x.Limit).wf = true) ∧ (x.Last.length ≤ maxLen ∧ ∀ n ∈ x.Last, W97 n) ∧ ((Lit.int .i64 (x.Counts 0)).wf = true) ∧ ((Lit.int .i64 (x.Counts 1)).wf = true) ∧ ((Lit.int .i64 (x.Counts 2)).wf = true) ∧ ((Lit.int .i64 (x.Counts 3)).wf = true) ∧ ((Lit.int .i64 (x.Counts 4)).wf = true) ∧ ((Lit.int .i64 x.Frames).wf = true) ∧ ((Lit.int .i64 (x.Buckets 0)).wf = true) ∧ ((Lit.int .i64 (x.Buckets 1)).wf = true) ∧ ((Lit.int .i64 (x.Buckets 2)).wf = true) ∧ ((Lit.int .i64 (x.Buckets 3)).wf = true) ∧ ((Lit.int .i64 (x.Buckets 4)).wf = true) ∧ ((Lit.int .i64 (x.Buckets 5)).wf = true) ∧ ((Lit.int .i64 (x.Buckets 6)).wf = true) ∧ ((Lit.int .i64 (x.Buckets 7)).wf = true) ∧ ((Lit.int .i64 (x.Buckets 8)).wf = true) ∧ ((Lit.int .i64 (x.Buckets 9)).wf = true) ∧ ((Lit.int .i64 (x.Buckets 10)).wf = true) ∧ ((Lit.int .i64 (x.Buckets 11)).wf = true) ∧ ((Lit.int .i64 (x.Buckets 12)).wf = true) ∧ ((Lit.int .i64 (x.Buckets 13)).wf = true) ∧ ((Lit.int .i64 (x.Buckets 14)).wf = true) ∧ ((Lit.int .i64 (x.Buckets 15)).wf = true) ∧ ((Lit.int .i64 (x.Buckets 16)).wf = true) ∧ ((Lit.int .i64 (x.Buckets 17)).wf = true) ∧ ((Lit.int .i64 (x.Buckets 18)).wf = true) ∧ ((Lit.int .i64 (x.Buckets 19)).wf = true) ∧ ((Lit.int .i64 (x.Buckets 20)).wf = true) ∧ ((Lit.int .i64 (x.Buckets 21)).wf = true) ∧ ((Lit.int .i64 (x.Buckets 22)).wf = true) ∧ ((Lit.int .i64 (x.Buckets 23)).wf = true)
theorem tyC60 {cs : List PV} (h : Ty tab 60 cs) : ∃ x : Recorder, cs = [.int .i64 x.Limit, .sl 97 .ro (x.Last.map pv97), .int .i64 (x.Counts 0), .int .i64 (x.Counts 1), .int .i64 (x.Counts 2), .int .i64 (x.Counts 3), .int .i64 (x.Counts 4), .int .i64 x.Frames, .int .i64 (x.Buckets 0), .int .i64 (x.Buckets 1), .int .i64 (x.Buckets 2), .int .i64 (x.Buckets 3), .int .i64 (x.Buckets 4), .int .i64 (x.Buckets 5), .int .i64 (x.Buckets 6), .int .i64 (x.Buckets 7), .int .i64 (x.Buckets 8), .int .i64 (x.Buckets 9), .int .i64 (x.Buckets 10), .int .i64 (x.Buckets 11), .int .i64 (x.Buckets 12), .int .i64 (x.Buckets 13), .int .i64 (x.Buckets 14), .int .i64 (x.Buckets 15), .int .i64 (x.Buckets 16), .int .i64 (x.Buckets 17), .int .i64 (x.Buckets 18), .int .i64 (x.Buckets 19), .int .i64 (x.Buckets 20), .int .i64 (x.Buckets 21), .int .i64 (x.Buckets 22), .int .i64 (x.Buckets 23)] ∧ W60 x := by
  have h1 := ty_struct h rfl rfl
  obtain ⟨c2, r2, rfl, k2, g2⟩ := tyL_cons (t := 3) (ts := [56, 57, 3, 58]) h1
  obtain ⟨x3, rfl, w3⟩ := ty_int k2 rfl rfl
  obtain ⟨c4, r4, rfl, k4, g4⟩ := tyL_cons (t := 56) (ts := [57, 3, 58]) g2
  obtain ⟨y5, rfl, w5, z5⟩ := ty_sl k4 rfl rfl
  obtain ⟨x5, rfl, w5n⟩ := list_of tyS97 _ z5
  obtain ⟨c6, r6, rfl, k6, g6⟩ := tyL_cons (t := 57) (ts := [3, 58]) g4
  have h7 := ty_array k6 rfl rfl
  obtain ⟨c8, r8, rfl, k8, g8⟩ := tyL_cons (t := 3) (ts := [3, 3, 3, 3]) h7
  obtain ⟨x9, rfl, w9⟩ := ty_int k8 rfl rfl
  obtain ⟨c10, r10, rfl, k10, g10⟩ := tyL_cons (t := 3) (ts := [3, 3, 3]) g8
  obtain ⟨x11, rfl, w11⟩ := ty_int k10 rfl rfl
  obtain ⟨c12, r12, rfl, k12, g12⟩ := tyL_cons (t := 3) (ts := [3, 3]) g10
  obtain ⟨x13, rfl, w13⟩ := ty_int k12 rfl rfl
  obtain ⟨c14, r14, rfl, k14, g14⟩ := tyL_cons (t := 3) (ts := [3]) g12
  obtain ⟨x15, rfl, w15⟩ := ty_int k14 rfl rfl
  obtain ⟨c16, r16, rfl, k16, g16⟩ := tyL_cons (t := 3) (ts := []) g14
  obtain ⟨x17, rfl, w17⟩ := ty_int k16 rfl rfl
  obtain rfl := tyL_nil g16
  obtain ⟨c18, r18, rfl, k18, g18⟩ := tyL_cons (t := 3) (ts := [58]) g6
  obtain ⟨x19, rfl, w19⟩ := ty_int k18 rfl rfl
  obtain ⟨c20, r20, rfl, k20, g20⟩ := tyL_cons (t := 58) (ts := []) g18
  have h21 := ty_array k20 rfl rfl
  obtain ⟨c22, r22, rfl, k22, g22⟩ := tyL_cons (t := 3) (ts := [3, 3, 3, 3, 3, 3, 3, 3, 3, 3, 3, 3, 3, 3, 3, 3, 3, 3, 3, 3, 3, 3, 3]) h21
  obtain ⟨x23, rfl, w23⟩ := ty_int k22 rfl rfl
  obtain ⟨c24, r24, rfl, k24, g24⟩ := tyL_cons (t := 3) (ts := [3, 3, 3, 3, 3, 3, 3, 3, 3, 3, 3, 3, 3, 3, 3, 3, 3, 3, 3, 3, 3, 3]) g22
  obtain ⟨x25, rfl, w25⟩ := ty_int k24 rfl rfl
  obtain ⟨c26, r26, rfl, k26, g26⟩ := tyL_cons (t := 3) (ts := [3, 3, 3, 3, 3, 3, 3, 3, 3, 3, 3, 3, 3, 3, 3, 3, 3, 3, 3, 3, 3]) g24
  obtain ⟨x27, rfl, w27⟩ := ty_int k26 rfl rfl
  obtain ⟨c28, r28, rfl, k28, g28⟩ := tyL_cons (t := 3) (ts := [3, 3, 3, 3, 3, 3, 3, 3, 3, 3, 3, 3, 3, 3, 3, 3, 3, 3, 3, 3]) g26
  obtain ⟨x29, rfl, w29⟩ := ty_int k28 rfl rfl
  obtain ⟨c30, r30, rfl, k30, g30⟩ := tyL_cons (t := 3) (ts := [3, 3, 3, 3, 3, 3, 3, 3, 3, 3, 3, 3, 3, 3, 3, 3, 3, 3, 3]) g28
  obtain ⟨x31, rfl, w31⟩ := ty_int k30 rfl rfl
  obtain ⟨c32, r32, rfl, k32, g32⟩ := tyL_cons (t := 3) (ts := [3, 3, 3, 3, 3, 3, 3, 3, 3, 3, 3, 3, 3, 3, 3, 3, 3, 3]) g30
  obtain ⟨x33, rfl, w33⟩ := ty_int k32 rfl rfl
  obtain ⟨c34, r34, rfl, k34, g34⟩ := tyL_cons (t := 3) (ts := [3, 3, 3, 3, 3, 3, 3, 3, 3, 3, 3, 3, 3, 3, 3, 3, 3]) g32
  obtain ⟨x35, rfl, w35⟩ := ty_int k34 rfl rfl
  obtain ⟨c36, r36, rfl, k36, g36⟩ := tyL_cons (t := 3) (ts := [3, 3, 3, 3, 3, 3, 3, 3, 3, 3, 3, 3, 3, 3, 3, 3]) g34
  obtain ⟨x37, rfl, w37⟩ := ty_int k36 rfl rfl
  obtain ⟨c38, r38, rfl, k38, g38⟩ := tyL_cons (t := 3) (ts := [3, 3, 3, 3, 3, 3, 3, 3, 3, 3, 3, 3, 3, 3, 3]) g36
  obtain ⟨x39, rfl, w39⟩ := ty_int k38 rfl rfl
  obtain ⟨c40, r40, rfl, k40, g40⟩ := tyL_cons (t := 3) (ts := [3, 3, 3, 3, 3, 3, 3, 3, 3, 3, 3, 3, 3, 3]) g38
  obtain ⟨x41, rfl, w41⟩ := ty_int k40 rfl rfl
  obtain ⟨c42, r42, rfl, k42, g42⟩ := tyL_cons (t := 3) (ts := [3, 3, 3, 3, 3, 3, 3, 3, 3, 3, 3, 3, 3]) g40
  obtain ⟨x43, rfl, w43⟩ := ty_int k42 rfl rfl
  obtain ⟨c44, r44, rfl, k44, g44⟩ := tyL_cons (t := 3) (ts := [3, 3, 3, 3, 3, 3, 3, 3, 3, 3, 3, 3]) g42
  obtain ⟨x45, rfl, w45⟩ := ty_int k44 rfl rfl
  obtain ⟨c46, r46, rfl, k46, g46⟩ := tyL_cons (t := 3) (ts := [3, 3, 3, 3, 3, 3, 3, 3, 3, 3, 3]) g44
  obtain ⟨x47, rfl, w47⟩ := ty_int k46 rfl rfl
  obtain ⟨c48, r48, rfl, k48, g48⟩ := tyL_cons (t := 3) (ts := [3, 3, 3, 3, 3, 3, 3, 3, 3, 3]) g46
  obtain ⟨x49, rfl, w49⟩ := ty_int k48 rfl rfl
  obtain ⟨c50, r50, rfl, k50, g50⟩ := tyL_cons (t := 3) (ts := [3, 3, 3, 3, 3, 3, 3, 3, 3]) g48
  obtain ⟨x51, rfl, w51⟩ := ty_int k50 rfl rfl
  obtain ⟨c52, r52, rfl, k52, g52⟩ := tyL_cons (t := 3) (ts := [3, 3, 3, 3, 3, 3, 3, 3]) g50
  obtain ⟨x53, rfl, w53⟩ := ty_int k52 rfl rfl
  obtain ⟨c54, r54, rfl, k54, g54⟩ := tyL_cons (t := 3) (ts := [3, 3, 3, 3, 3, 3, 3]) g52
  obtain ⟨x55, rfl, w55⟩ := ty_int k54 rfl rfl
  obtain ⟨c56, r56, rfl, k56, g56⟩ := tyL_cons (t := 3) (ts := [3, 3, 3, 3, 3, 3]) g54
  obtain ⟨x57, rfl, w57⟩ := ty_int k56 rfl rfl
  obtain ⟨c58, r58, rfl, k58, g58⟩ := tyL_cons (t := 3) (ts := [3, 3, 3, 3, 3]) g56
  obtain ⟨x59, rfl, w59⟩ := ty_int k58 rfl rfl
  obtain ⟨c60, r60, rfl, k60, g60⟩ := tyL_cons (t := 3) (ts := [3, 3, 3, 3]) g58
  obtain ⟨x61, rfl, w61⟩ := ty_int k60 rfl rfl
  obtain ⟨c62, r62, rfl, k62, g62⟩ := tyL_cons (t := 3) (ts := [3, 3, 3]) g60
  obtain ⟨x63, rfl, w63⟩ := ty_int k62 rfl rfl
  obtain ⟨c64, r64, rfl, k64, g64⟩ := tyL_cons (t := 3) (ts := [3, 3]) g62
  obtain ⟨x65, rfl, w65⟩ := ty_int k64 rfl rfl
  obtain ⟨c66, r66, rfl, k66, g66⟩ := tyL_cons (t := 3) (ts := [3]) g64
  obtain ⟨x67, rfl, w67⟩ := ty_int k66 rfl rfl
  obtain ⟨c68, r68, rfl, k68, g68⟩ := tyL_cons (t := 3) (ts := []) g66
  obtain ⟨x69, rfl, w69⟩ := ty_int k68 rfl rfl
  obtain rfl := tyL_nil g68
  obtain rfl := tyL_nil g20
  exact ⟨⟨x3, x5, aOf [x9, x11, x13, x15, x17], x19, aOf [x23, x25, x27, x29, x31, x33, x35, x37, x39, x41, x43, x45, x47, x49, x51, x53, x55, x57, x59, x61, x63, x65, x67, x69]⟩, rfl, w3, ⟨by simpa using w5, w5n⟩, w9, w11, w13, w15, w17, w19, w23, w25, w27, w29, w31, w33, w35, w37, w39, w41, w43, w45, w47, w49, w51, w53, w55, w57, w59, w61, w63, w65, w67, w69⟩
theorem tyS60 (y : PV) (h : TyV tab 60 y) : ∃ x : Recorder, y = pv60 x ∧ W60 x := by
  obtain ⟨cs, rfl, _⟩ := tyV_struct h rfl rfl
  obtain ⟨x, rfl, hw⟩ := tyC60 h.ty
  exact ⟨x, rfl, hw⟩
def W73 (x : Choose) : Prop := (x.Role.size ≤ maxLen) ∧ (x.Set.length ≤ maxLen ∧ ∀ n ∈ x.Set, (Lit.int .u64 n).wf = true) ∧ ((Lit.int .u64 x.Device).wf = true)
theorem tyC73 {cs : List PV} (h : Ty tab 73 cs) : ∃ x : Choose, cs = [.str x.Role, .sl 71 .ro (x.Set.map (PV.int .u64)), .int .u64 x.Device] ∧ W73 x := by
  have h1 := ty_struct h rfl rfl
  obtain ⟨c2, r2, rfl, k2, g2⟩ := tyL_cons (t := 9) (ts := [70, 71]) h1
  obtain ⟨x3, rfl, w3⟩ := ty_str k2 rfl rfl
  obtain ⟨c4, r4, rfl, k4, g4⟩ := tyL_cons (t := 70) (ts := [71]) g2
  obtain ⟨y5, rfl, w5, z5⟩ := ty_sl k4 rfl rfl
  obtain ⟨x5, rfl, w5n⟩ := ints_of (k := .u64) rfl rfl _ z5
  obtain ⟨c6, r6, rfl, k6, g6⟩ := tyL_cons (t := 71) (ts := []) g4
  obtain ⟨x7, rfl, w7⟩ := ty_int k6 rfl rfl
  obtain rfl := tyL_nil g6
  exact ⟨⟨x3, x5, x7⟩, rfl, w3, ⟨by simpa using w5, w5n⟩, w7⟩
theorem tyS73 (y : PV) (h : TyV tab 73 y) : ∃ x : Choose, y = pv73 x ∧ W73 x := by
  obtain ⟨cs, rfl, _⟩ := tyV_struct h rfl rfl
  obtain ⟨x, rfl, hw⟩ := tyC73 h.ty
  exact ⟨x, rfl, hw⟩
def W69 (x : Memory) : Prop := (x.Choices.length ≤ maxLen ∧ ∀ n ∈ x.Choices, W73 n)
theorem tyC69 {cs : List PV} (h : Ty tab 69 cs) : ∃ x : Memory, cs = [.sl 73 .ro (x.Choices.map pv73)] ∧ W69 x := by
  have h1 := ty_struct h rfl rfl
  obtain ⟨c2, r2, rfl, k2, g2⟩ := tyL_cons (t := 67) (ts := []) h1
  obtain ⟨y3, rfl, w3, z3⟩ := ty_sl k2 rfl rfl
  obtain ⟨x3, rfl, w3n⟩ := list_of tyS73 _ z3
  obtain rfl := tyL_nil g2
  exact ⟨⟨x3⟩, rfl, ⟨by simpa using w3, w3n⟩⟩
theorem tyS69 (y : PV) (h : TyV tab 69 y) : ∃ x : Memory, y = pv69 x ∧ W69 x := by
  obtain ⟨cs, rfl, _⟩ := tyV_struct h rfl rfl
  obtain ⟨x, rfl, hw⟩ := tyC69 h.ty
  exact ⟨x, rfl, hw⟩
def W114 (x : Deck) : Prop := (x.L.length ≤ maxLen ∧ ∀ n ∈ x.L, (Lit.int .i64 n).wf = true) ∧ ((Lit.int .i64 x.At).wf = true)
theorem tyC114 {cs : List PV} (h : Ty tab 114 cs) : ∃ x : Deck, cs = [.sl 3 .ro (x.L.map (PV.int .i64)), .int .i64 x.At] ∧ W114 x := by
  have h1 := ty_struct h rfl rfl
  obtain ⟨c2, r2, rfl, k2, g2⟩ := tyL_cons (t := 51) (ts := [3]) h1
  obtain ⟨y3, rfl, w3, z3⟩ := ty_sl k2 rfl rfl
  obtain ⟨x3, rfl, w3n⟩ := ints_of (k := .i64) rfl rfl _ z3
  obtain ⟨c4, r4, rfl, k4, g4⟩ := tyL_cons (t := 3) (ts := []) g2
  obtain ⟨x5, rfl, w5⟩ := ty_int k4 rfl rfl
  obtain rfl := tyL_nil g4
  exact ⟨⟨x3, x5⟩, rfl, ⟨by simpa using w3, w3n⟩, w5⟩
theorem tyS114 (y : PV) (h : TyV tab 114 y) : ∃ x : Deck, y = pv114 x ∧ W114 x := by
  obtain ⟨cs, rfl, _⟩ := tyV_struct h rfl rfl
  obtain ⟨x, rfl, hw⟩ := tyC114 h.ty
  exact ⟨x, rfl, hw⟩
def W144 (x : Source) : Prop := ((Lit.int .i64 x.kind).wf = true) ∧ ((Lit.int .i64 x.stream).wf = true) ∧ ((Lit.int .u64 x.device).wf = true)
theorem tyC144 {cs : List PV} (h : Ty tab 144 cs) : ∃ x : Source, cs = [.int .i64 x.kind, .int .i64 x.stream, .int .u64 x.device] ∧ W144 x := by
  have h1 := ty_struct h rfl rfl
  obtain ⟨c2, r2, rfl, k2, g2⟩ := tyL_cons (t := 3) (ts := [3, 71]) h1
  obtain ⟨x3, rfl, w3⟩ := ty_int k2 rfl rfl
  obtain ⟨c4, r4, rfl, k4, g4⟩ := tyL_cons (t := 3) (ts := [71]) g2
  obtain ⟨x5, rfl, w5⟩ := ty_int k4 rfl rfl
  obtain ⟨c6, r6, rfl, k6, g6⟩ := tyL_cons (t := 71) (ts := []) g4
  obtain ⟨x7, rfl, w7⟩ := ty_int k6 rfl rfl
  obtain rfl := tyL_nil g6
  exact ⟨⟨x3, x5, x7⟩, rfl, w3, w5, w7⟩
theorem tyS144 (y : PV) (h : TyV tab 144 y) : ∃ x : Source, y = pv144 x ∧ W144 x := by
  obtain ⟨cs, rfl, _⟩ := tyV_struct h rfl rfl
  obtain ⟨x, rfl, hw⟩ := tyC144 h.ty
  exact ⟨x, rfl, hw⟩
theorem tyA48 {y : PV} (h : TyV tab 48 y) : ∃ l : List Ring, y = .sl 26 .ro (l.map pv26) ∧ l.length ≤ maxLen ∧ ∀ x ∈ l, W26 x := by
  obtain ⟨xs, rfl, hl, hx⟩ := tyV_sl h rfl rfl
  obtain ⟨l, rfl, hw⟩ := list_of tyS26 xs hx
  exact ⟨l, rfl, by simpa using hl, hw⟩
theorem tyA50 {y : PV} (h : TyV tab 50 y) : ∃ l : List Block, y = .sl 32 .ro (l.map pv32) ∧ l.length ≤ maxLen ∧ ∀ x ∈ l, W32 x := by
  obtain ⟨xs, rfl, hl, hx⟩ := tyV_sl h rfl rfl
  obtain ⟨l, rfl, hw⟩ := list_of tyS32 xs hx
  exact ⟨l, rfl, by simpa using hl, hw⟩
theorem tyA56 {y : PV} (h : TyV tab 56 y) : ∃ l : List Glitch, y = .sl 97 .ro (l.map pv97) ∧ l.length ≤ maxLen ∧ ∀ x ∈ l, W97 x := by
  obtain ⟨xs, rfl, hl, hx⟩ := tyV_sl h rfl rfl
  obtain ⟨l, rfl, hw⟩ := list_of tyS97 xs hx
  exact ⟨l, rfl, by simpa using hl, hw⟩
theorem tyA67 {y : PV} (h : TyV tab 67 y) : ∃ l : List Choose, y = .sl 73 .ro (l.map pv73) ∧ l.length ≤ maxLen ∧ ∀ x ∈ l, W73 x := by
  obtain ⟨xs, rfl, hl, hx⟩ := tyV_sl h rfl rfl
  obtain ⟨l, rfl, hw⟩ := list_of tyS73 xs hx
  exact ⟨l, rfl, by simpa using hl, hw⟩
theorem tyA78 {y : PV} (h : TyV tab 78 y) : ∃ l : List Memory, y = .sl 69 .ro (l.map pv69) ∧ l.length ≤ maxLen ∧ ∀ x ∈ l, W69 x := by
  obtain ⟨xs, rfl, hl, hx⟩ := tyV_sl h rfl rfl
  obtain ⟨l, rfl, hw⟩ := list_of tyS69 xs hx
  exact ⟨l, rfl, by simpa using hl, hw⟩
theorem tyA87 {y : PV} (h : TyV tab 87 y) : ∃ l : List Recorder, y = .sl 60 .ro (l.map pv60) ∧ l.length ≤ maxLen ∧ ∀ x ∈ l, W60 x := by
  obtain ⟨xs, rfl, hl, hx⟩ := tyV_sl h rfl rfl
  obtain ⟨l, rfl, hw⟩ := list_of tyS60 xs hx
  exact ⟨l, rfl, by simpa using hl, hw⟩
end Go.Proofs.Ytacdknbakjbpiaa
