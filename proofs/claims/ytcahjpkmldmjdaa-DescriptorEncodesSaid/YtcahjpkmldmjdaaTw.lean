/-
  What values of the struct types look like.
-/
import Derived.Test.YtcahjpkmldmjdaaTy
import Derived.Test.YtcahjpkmldmjdaaAb35
namespace Go.Proofs.Ytcahjpkmldmjdaa
open Go Ab

def W59 (x : List Int) : Prop := x.length ≤ maxLen ∧ ∀ n ∈ x, (Lit.int .i64 n).wf = true
theorem tyS59 (y : PV) (h : TyV tab 59 y) : ∃ x : List Int, y = pv59 x ∧ W59 x := by
  obtain ⟨x, rfl, hl, hw⟩ := tyV_ints (k := .i64) h rfl rfl rfl rfl
  exact ⟨x, rfl, hl, hw⟩
def W22 (x : List Int) : Prop := x.length ≤ maxLen ∧ ∀ n ∈ x, (Lit.int .u8 n).wf = true
theorem tyS22 (y : PV) (h : TyV tab 22 y) : ∃ x : List Int, y = pv22 x ∧ W22 x := by
  obtain ⟨x, rfl, hl, hw⟩ := tyV_ints (k := .u8) h rfl rfl rfl rfl
  exact ⟨x, rfl, hl, hw⟩
def W7 (x : S7) : Prop := ((Lit.int .i64 x.x).wf = true) ∧ ((Lit.int .i64 x.y).wf = true) ∧ ((Lit.int .u8 x.code).wf = true)
theorem tyC7 {cs : List PV} (h : Ty tab 7 cs) : ∃ x : S7, cs = [.int .i64 x.x, .int .i64 x.y, .bool x.signed, .int .u8 x.code] ∧ W7 x := by
  have h1 := ty_struct h rfl rfl
  obtain ⟨c2, r2, rfl, k2, g2⟩ := tyL_cons (t := 2) (ts := [3, 4, 6]) h1
  obtain ⟨x3, rfl, w3⟩ := ty_int k2 rfl rfl
  obtain ⟨c4, r4, rfl, k4, g4⟩ := tyL_cons (t := 3) (ts := [4, 6]) g2
  obtain ⟨x5, rfl, w5⟩ := ty_int k4 rfl rfl
  obtain ⟨c6, r6, rfl, k6, g6⟩ := tyL_cons (t := 4) (ts := [6]) g4
  obtain ⟨x7, rfl⟩ := ty_bool k6 rfl rfl
  obtain ⟨c8, r8, rfl, k8, g8⟩ := tyL_cons (t := 6) (ts := []) g6
  obtain ⟨x9, rfl, w9⟩ := ty_int k8 rfl rfl
  obtain rfl := tyL_nil g8
  exact ⟨⟨x3, x5, x7, x9⟩, rfl, w3, w5, w9⟩
theorem tyS7 (y : PV) (h : TyV tab 7 y) : ∃ x : S7, y = pv7 x ∧ W7 x := by
  obtain ⟨cs, rfl, _⟩ := tyV_struct h rfl rfl
  obtain ⟨x, rfl, hw⟩ := tyC7 h.ty
  exact ⟨x, rfl, hw⟩
def W8 (x : BoundsError) : Prop := ((Lit.int .i64 x.x).wf = true) ∧ ((Lit.int .i64 x.y).wf = true) ∧ ((Lit.int .u8 x.code).wf = true)
theorem tyC8 {cs : List PV} (h : Ty tab 8 cs) : ∃ x : BoundsError, cs = [.int .i64 x.x, .int .i64 x.y, .bool x.signed, .int .u8 x.code] ∧ W8 x := by
  have h1 := ty_struct h rfl rfl
  obtain ⟨c2, r2, rfl, k2, g2⟩ := tyL_cons (t := 2) (ts := [3, 4, 6]) h1
  obtain ⟨x3, rfl, w3⟩ := ty_int k2 rfl rfl
  obtain ⟨c4, r4, rfl, k4, g4⟩ := tyL_cons (t := 3) (ts := [4, 6]) g2
  obtain ⟨x5, rfl, w5⟩ := ty_int k4 rfl rfl
  obtain ⟨c6, r6, rfl, k6, g6⟩ := tyL_cons (t := 4) (ts := [6]) g4
  obtain ⟨x7, rfl⟩ := ty_bool k6 rfl rfl
  obtain ⟨c8, r8, rfl, k8, g8⟩ := tyL_cons (t := 6) (ts := []) g6
  obtain ⟨x9, rfl, w9⟩ := ty_int k8 rfl rfl
  obtain rfl := tyL_nil g8
  exact ⟨⟨x3, x5, x7, x9⟩, rfl, w3, w5, w9⟩
theorem tyS8 (y : PV) (h : TyV tab 8 y) : ∃ x : BoundsError, y = pv8 x ∧ W8 x := by
  obtain ⟨cs, rfl, _⟩ := tyV_struct h rfl rfl
  obtain ⟨x, rfl, hw⟩ := tyC8 h.ty
  exact ⟨x, rfl, hw⟩
def W124 (x : Span) : Prop := ((Lit.int .i64 x.Lo).wf = true) ∧ ((Lit.int .i64 x.Hi).wf = true)
theorem tyC124 {cs : List PV} (h : Ty tab 124 cs) : ∃ x : Span, cs = [.int .i64 x.Lo, .int .i64 x.Hi] ∧ W124 x := by
  have h1 := ty_struct h rfl rfl
  obtain ⟨c2, r2, rfl, k2, g2⟩ := tyL_cons (t := 3) (ts := [3]) h1
  obtain ⟨x3, rfl, w3⟩ := ty_int k2 rfl rfl
  obtain ⟨c4, r4, rfl, k4, g4⟩ := tyL_cons (t := 3) (ts := []) g2
  obtain ⟨x5, rfl, w5⟩ := ty_int k4 rfl rfl
  obtain rfl := tyL_nil g4
  exact ⟨⟨x3, x5⟩, rfl, w3, w5⟩
theorem tyS124 (y : PV) (h : TyV tab 124 y) : ∃ x : Span, y = pv124 x ∧ W124 x := by
  obtain ⟨cs, rfl, _⟩ := tyV_struct h rfl rfl
  obtain ⟨x, rfl, hw⟩ := tyC124 h.ty
  exact ⟨x, rfl, hw⟩
def W91 (x : IntSet) : Prop := (x.Spans.length ≤ maxLen ∧ ∀ n ∈ x.Spans, W124 n)
theorem tyC91 {cs : List PV} (h : Ty tab 91 cs) : ∃ x : IntSet, cs = [.sl 124 .ro (x.Spans.map pv124)] ∧ W91 x := by
  have h1 := ty_struct h rfl rfl
  obtain ⟨c2, r2, rfl, k2, g2⟩ := tyL_cons (t := 89) (ts := []) h1
  obtain ⟨y3, rfl, w3, z3⟩ := ty_sl k2 rfl rfl
  obtain ⟨x3, rfl, w3n⟩ := list_of tyS124 _ z3
  obtain rfl := tyL_nil g2
  exact ⟨⟨x3⟩, rfl, ⟨by simpa using w3, w3n⟩⟩
theorem tyS91 (y : PV) (h : TyV tab 91 y) : ∃ x : IntSet, y = pv91 x ∧ W91 x := by
  obtain ⟨cs, rfl, _⟩ := tyV_struct h rfl rfl
  obtain ⟨x, rfl, hw⟩ := tyC91 h.ty
  exact ⟨x, rfl, hw⟩
def W94 (x : Box) : Prop := ((Lit.int .i64 x.Kinds).wf = true) ∧ (x.Rates.length ≤ maxLen ∧ ∀ n ∈ x.Rates, W124 n) ∧ (x.Maps.length ≤ maxLen ∧ ∀ n ∈ x.Maps, W59 n) ∧ (x.Sizes.length ≤ maxLen ∧ ∀ n ∈ x.Sizes, W124 n)
theorem tyC94 {cs : List PV} (h : Ty tab 94 cs) : ∃ x : Box, cs = [.int .i64 x.Kinds, .sl 124 .ro (x.Rates.map pv124), .sl 59 .ro (x.Maps.map pv59), .sl 124 .ro (x.Sizes.map pv124)] ∧ W94 x := by
  have h1 := ty_struct h rfl rfl
  obtain ⟨c2, r2, rfl, k2, g2⟩ := tyL_cons (t := 3) (ts := [91, 92, 91]) h1
  obtain ⟨x3, rfl, w3⟩ := ty_int k2 rfl rfl
  obtain ⟨c4, r4, rfl, k4, g4⟩ := tyL_cons (t := 91) (ts := [92, 91]) g2
  have h5 := ty_struct k4 rfl rfl
  obtain ⟨c6, r6, rfl, k6, g6⟩ := tyL_cons (t := 89) (ts := []) h5
  obtain ⟨y7, rfl, w7, z7⟩ := ty_sl k6 rfl rfl
  obtain ⟨x7, rfl, w7n⟩ := list_of tyS124 _ z7
  obtain rfl := tyL_nil g6
  obtain ⟨c8, r8, rfl, k8, g8⟩ := tyL_cons (t := 92) (ts := [91]) g4
  obtain ⟨y9, rfl, w9, z9⟩ := ty_sl k8 rfl rfl
  obtain ⟨x9, rfl, w9n⟩ := list_of tyS59 _ z9
  obtain ⟨c10, r10, rfl, k10, g10⟩ := tyL_cons (t := 91) (ts := []) g8
  have h11 := ty_struct k10 rfl rfl
  obtain ⟨c12, r12, rfl, k12, g12⟩ := tyL_cons (t := 89) (ts := []) h11
  obtain ⟨y13, rfl, w13, z13⟩ := ty_sl k12 rfl rfl
  obtain ⟨x13, rfl, w13n⟩ := list_of tyS124 _ z13
  obtain rfl := tyL_nil g12
  obtain rfl := tyL_nil g10
  exact ⟨⟨x3, x7, x9, x13⟩, rfl, w3, ⟨by simpa using w7, w7n⟩, ⟨by simpa using w9, w9n⟩, ⟨by simpa using w13, w13n⟩⟩
theorem tyS94 (y : PV) (h : TyV tab 94 y) : ∃ x : Box, y = pv94 x ∧ W94 x := by
  obtain ⟨cs, rfl, _⟩ := tyV_struct h rfl rfl
  obtain ⟨x, rfl, hw⟩ := tyC94 h.ty
  exact ⟨x, rfl, hw⟩
def W53 (x : Descriptor) : Prop := ((Lit.int .u64 x.ID).wf = true) ∧ (x.Name.size ≤ maxLen) ∧ ((Lit.int .i64 x.Direction).wf = true) ∧ ((Lit.int .i64 x.Domain).wf = true) ∧ ((Lit.int .i64 x.Latency).wf = true) ∧ ((Lit.int .i64 x.Drift).wf = true) ∧ ((Lit.int .i64 x.Jitter).wf = true) ∧ (x.Boxes.length ≤ maxLen ∧ ∀ n ∈ x.Boxes, W94 n)
theorem tyC53 {cs : List PV} (h : Ty tab 53 cs) : ∃ x : Descriptor, cs = [.int .u64 x.ID, .str x.Name, .int .i64 x.Direction, .int .i64 x.Domain, .int .i64 x.Latency, .int .i64 x.Drift, .int .i64 x.Jitter, .sl 94 .ro (x.Boxes.map pv94)] ∧ W53 x := by
  have h1 := ty_struct h rfl rfl
  obtain ⟨c2, r2, rfl, k2, g2⟩ := tyL_cons (t := 26) (ts := [9, 3, 3, 3, 3, 3, 51]) h1
  obtain ⟨x3, rfl, w3⟩ := ty_int k2 rfl rfl
  obtain ⟨c4, r4, rfl, k4, g4⟩ := tyL_cons (t := 9) (ts := [3, 3, 3, 3, 3, 51]) g2
  obtain ⟨x5, rfl, w5⟩ := ty_str k4 rfl rfl
  obtain ⟨c6, r6, rfl, k6, g6⟩ := tyL_cons (t := 3) (ts := [3, 3, 3, 3, 51]) g4
  obtain ⟨x7, rfl, w7⟩ := ty_int k6 rfl rfl
  obtain ⟨c8, r8, rfl, k8, g8⟩ := tyL_cons (t := 3) (ts := [3, 3, 3, 51]) g6
  obtain ⟨x9, rfl, w9⟩ := ty_int k8 rfl rfl
  obtain ⟨c10, r10, rfl, k10, g10⟩ := tyL_cons (t := 3) (ts := [3, 3, 51]) g8
  obtain ⟨x11, rfl, w11⟩ := ty_int k10 rfl rfl
  obtain ⟨c12, r12, rfl, k12, g12⟩ := tyL_cons (t := 3) (ts := [3, 51]) g10
  obtain ⟨x13, rfl, w13⟩ := ty_int k12 rfl rfl
  obtain ⟨c14, r14, rfl, k14, g14⟩ := tyL_cons (t := 3) (ts := [51]) g12
  obtain ⟨x15, rfl, w15⟩ := ty_int k14 rfl rfl
  obtain ⟨c16, r16, rfl, k16, g16⟩ := tyL_cons (t := 51) (ts := []) g14
  obtain ⟨y17, rfl, w17, z17⟩ := ty_sl k16 rfl rfl
  obtain ⟨x17, rfl, w17n⟩ := list_of tyS94 _ z17
  obtain rfl := tyL_nil g16
  exact ⟨⟨x3, x5, x7, x9, x11, x13, x15, x17⟩, rfl, w3, w5, w7, w9, w11, w13, w15, ⟨by simpa using w17, w17n⟩⟩
theorem tyS53 (y : PV) (h : TyV tab 53 y) : ∃ x : Descriptor, y = pv53 x ∧ W53 x := by
  obtain ⟨cs, rfl, _⟩ := tyV_struct h rfl rfl
  obtain ⟨x, rfl, hw⟩ := tyC53 h.ty
  exact ⟨x, rfl, hw⟩
def W122 (x : Dice) : Prop := (x.l.length ≤ maxLen ∧ ∀ n ∈ x.l, (Lit.int .u8 n).wf = true)
theorem tyC122 {cs : List PV} (h : Ty tab 122 cs) : ∃ x : Dice, cs = [.sl 5 .ro (x.l.map (PV.int .u8))] ∧ W122 x := by
  have h1 := ty_struct h rfl rfl
  obtain ⟨c2, r2, rfl, k2, g2⟩ := tyL_cons (t := 22) (ts := []) h1
  obtain ⟨y3, rfl, w3, z3⟩ := ty_sl k2 rfl rfl
  obtain ⟨x3, rfl, w3n⟩ := ints_of (k := .u8) rfl rfl _ z3
  obtain rfl := tyL_nil g2
  exact ⟨⟨x3⟩, rfl, ⟨by simpa using w3, w3n⟩⟩
theorem tyS122 (y : PV) (h : TyV tab 122 y) : ∃ x : Dice, y = pv122 x ∧ W122 x := by
  obtain ⟨cs, rfl, _⟩ := tyV_struct h rfl rfl
  obtain ⟨x, rfl, hw⟩ := tyC122 h.ty
  exact ⟨x, rfl, hw⟩
def W99 (x : Reader) : Prop := (x.b.length ≤ maxLen ∧ ∀ n ∈ x.b, (Lit.int .u8 n).wf = true) ∧ ((Lit.int .i64 x.at_).wf = true)
theorem tyC99 {cs : List PV} (h : Ty tab 99 cs) : ∃ x : Reader, cs = [.sl 5 .ro (x.b.map (PV.int .u8)), .int .i64 x.at_, .bool x.bad] ∧ W99 x := by
  have h1 := ty_struct h rfl rfl
  obtain ⟨c2, r2, rfl, k2, g2⟩ := tyL_cons (t := 22) (ts := [3, 4]) h1
  obtain ⟨y3, rfl, w3, z3⟩ := ty_sl k2 rfl rfl
  obtain ⟨x3, rfl, w3n⟩ := ints_of (k := .u8) rfl rfl _ z3
  obtain ⟨c4, r4, rfl, k4, g4⟩ := tyL_cons (t := 3) (ts := [4]) g2
  obtain ⟨x5, rfl, w5⟩ := ty_int k4 rfl rfl
  obtain ⟨c6, r6, rfl, k6, g6⟩ := tyL_cons (t := 4) (ts := []) g4
  obtain ⟨x7, rfl⟩ := ty_bool k6 rfl rfl
  obtain rfl := tyL_nil g6
  exact ⟨⟨x3, x5, x7⟩, rfl, ⟨by simpa using w3, w3n⟩, w5⟩
theorem tyS99 (y : PV) (h : TyV tab 99 y) : ∃ x : Reader, y = pv99 x ∧ W99 x := by
  obtain ⟨cs, rfl, _⟩ := tyV_struct h rfl rfl
  obtain ⟨x, rfl, hw⟩ := tyC99 h.ty
  exact ⟨x, rfl, hw⟩
def W126 (x : Deck) : Prop := (x.L.length ≤ maxLen ∧ ∀ n ∈ x.L, (Lit.int .i64 n).wf = true) ∧ ((Lit.int .i64 x.At).wf = true)
theorem tyC126 {cs : List PV} (h : Ty tab 126 cs) : ∃ x : Deck, cs = [.sl 3 .ro (x.L.map (PV.int .i64)), .int .i64 x.At] ∧ W126 x := by
  have h1 := ty_struct h rfl rfl
  obtain ⟨c2, r2, rfl, k2, g2⟩ := tyL_cons (t := 59) (ts := [3]) h1
  obtain ⟨y3, rfl, w3, z3⟩ := ty_sl k2 rfl rfl
  obtain ⟨x3, rfl, w3n⟩ := ints_of (k := .i64) rfl rfl _ z3
  obtain ⟨c4, r4, rfl, k4, g4⟩ := tyL_cons (t := 3) (ts := []) g2
  obtain ⟨x5, rfl, w5⟩ := ty_int k4 rfl rfl
  obtain rfl := tyL_nil g4
  exact ⟨⟨x3, x5⟩, rfl, ⟨by simpa using w3, w3n⟩, w5⟩
theorem tyS126 (y : PV) (h : TyV tab 126 y) : ∃ x : Deck, y = pv126 x ∧ W126 x := by
  obtain ⟨cs, rfl, _⟩ := tyV_struct h rfl rfl
  obtain ⟨x, rfl, hw⟩ := tyC126 h.ty
  exact ⟨x, rfl, hw⟩
def W117 (x : Reader117) : Prop := (x.b.length ≤ maxLen ∧ ∀ n ∈ x.b, (Lit.int .u8 n).wf = true) ∧ ((Lit.int .i64 x.at_).wf = true)
theorem tyC117 {cs : List PV} (h : Ty tab 117 cs) : ∃ x : Reader117, cs = [.sl 5 .ro (x.b.map (PV.int .u8)), .int .i64 x.at_, .bool x.bad] ∧ W117 x := by
  have h1 := ty_struct h rfl rfl
  obtain ⟨c2, r2, rfl, k2, g2⟩ := tyL_cons (t := 22) (ts := [3, 4]) h1
  obtain ⟨y3, rfl, w3, z3⟩ := ty_sl k2 rfl rfl
  obtain ⟨x3, rfl, w3n⟩ := ints_of (k := .u8) rfl rfl _ z3
  obtain ⟨c4, r4, rfl, k4, g4⟩ := tyL_cons (t := 3) (ts := [4]) g2
  obtain ⟨x5, rfl, w5⟩ := ty_int k4 rfl rfl
  obtain ⟨c6, r6, rfl, k6, g6⟩ := tyL_cons (t := 4) (ts := []) g4
  obtain ⟨x7, rfl⟩ := ty_bool k6 rfl rfl
  obtain rfl := tyL_nil g6
  exact ⟨⟨x3, x5, x7⟩, rfl, ⟨by simpa using w3, w3n⟩, w5⟩
theorem tyS117 (y : PV) (h : TyV tab 117 y) : ∃ x : Reader117, y = pv117 x ∧ W117 x := by
  obtain ⟨cs, rfl, _⟩ := tyV_struct h rfl rfl
  obtain ⟨x, rfl, hw⟩ := tyC117 h.ty
  exact ⟨x, rfl, hw⟩
theorem tyA89 {y : PV} (h : TyV tab 89 y) : ∃ l : List Span, y = .sl 124 .ro (l.map pv124) ∧ l.length ≤ maxLen ∧ ∀ x ∈ l, W124 x := by
  obtain ⟨xs, rfl, hl, hx⟩ := tyV_sl h rfl rfl
  obtain ⟨l, rfl, hw⟩ := list_of tyS124 xs hx
  exact ⟨l, rfl, by simpa using hl, hw⟩
theorem tyA51 {y : PV} (h : TyV tab 51 y) : ∃ l : List Box, y = .sl 94 .ro (l.map pv94) ∧ l.length ≤ maxLen ∧ ∀ x ∈ l, W94 x := by
  obtain ⟨xs, rfl, hl, hx⟩ := tyV_sl h rfl rfl
  obtain ⟨l, rfl, hw⟩ := list_of tyS94 xs hx
  exact ⟨l, rfl, by simpa using hl, hw⟩
theorem tyA73 {y : PV} (h : TyV tab 73 y) : ∃ l : List Descriptor, y = .sl 53 .ro (l.map pv53) ∧ l.length ≤ maxLen ∧ ∀ x ∈ l, W53 x := by
  obtain ⟨xs, rfl, hl, hx⟩ := tyV_sl h rfl rfl
  obtain ⟨l, rfl, hw⟩ := list_of tyS53 xs hx
  exact ⟨l, rfl, by simpa using hl, hw⟩
end Go.Proofs.Ytcahjpkmldmjdaa
