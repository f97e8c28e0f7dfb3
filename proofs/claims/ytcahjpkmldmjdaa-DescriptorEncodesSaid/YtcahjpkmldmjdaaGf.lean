/-
  Plain functions of descriptor, soundserviceref11, and that the code does what they say.
-/
import Derived.Test.YtcahjpkmldmjdaaGd
namespace Go.Proofs.Ytcahjpkmldmjdaa
open Go Ab
/- (*soundservice/descriptor.reader).note -/
def f73 (_n : Nat) (a0 : Reader) (a1 : Int) (a2 : Int) : Option Reader :=
  if (a2 != (0 : Int)) then (
  some (⟨a0.b, a0.at_, true⟩ : Reader))
  else (
  some (⟨a0.b, a1, a0.bad⟩ : Reader))
set_option maxHeartbeats 4000000 in
set_option maxRecDepth 100000 in
theorem g73 {n : Nat} {a0 : Reader} {a1 : Int} {a2 : Int} {r : Reader} (h : f73 n a0 a1 a2 = some r) :
    Ab.Can Try.prog 73 [.ptr (.par 0) 0, .int .i64 a1, .int .i64 a2] (lookH [(.par 0, [.sl 5 .ro (a0.b.map (PV.int .u8)), .int .i64 a0.at_, .bool a0.bad])]) (.tup []) (lookH [(.par 0, [.sl 5 .ro (r.b.map (PV.int .u8)), .int .i64 r.at_, .bool r.bad])]) := by
  refine can_of tabOK mix Try.call73 Try.func73 rfl (by kernel_rfl) (by show _ ≤ 15; simp) fun _ => ?_
  rw [f73] at h
  refine .seq ?_
  refine .seq ?_
  refine .region ?_
  refine .move ?_
  refine .val ?_
  refine .nil ?_
  refine .cond (fun hc2 => ?_) (fun hc2 => ?_)
  · replace h := (if_pos hc2).symm.trans h
    refine .seq ?_
    refine .region ?_
    refine .move ?_
    refine .val ?_
    refine .val ?_
    refine .wrL (cs := [.sl 5 .ro (a0.b.map (PV.int .u8)), .int .i64 a0.at_, .bool true]) ?_
    refine .nil ?_
    cases h
    exact .ret (fin_gen none (.par .nil))
  · replace h := (if_neg (nt hc2)).symm.trans h
    refine .skip ?_
    refine .region ?_
    refine .move ?_
    refine .move ?_
    refine .val ?_
    refine .val ?_
    refine .wrL (cs := [.sl 5 .ro (a0.b.map (PV.int .u8)), .int .i64 a1, .bool a0.bad]) ?_
    refine .nil ?_
    cases h
    exact fin_gen none (.par .nil)

/- (*soundservice/descriptor.reader).text -/
def f74 (n : Nat) (a0 : Reader) : Option (ByteArray × Reader) :=
  (f31 n a0.b a0.at_).bind fun y1 =>
  (f73 n (⟨a0.b, a0.at_, a0.bad⟩ : Reader) y1.2.1 y1.2.2).bind fun y2 =>
  some (y1.1, (⟨y2.b, y2.at_, y2.bad⟩ : Reader))
set_option maxHeartbeats 4000000 in
set_option maxRecDepth 100000 in
theorem g74 {n : Nat} {a0 : Reader} {r : (ByteArray × Reader)} (h : f74 n a0 = some r) :
    Ab.Can Try.prog 74 [.ptr (.par 0) 0] (lookH [(.par 0, [.sl 5 .ro (a0.b.map (PV.int .u8)), .int .i64 a0.at_, .bool a0.bad])]) (.str r.1) (lookH [(.par 0, [.sl 5 .ro (r.2.b.map (PV.int .u8)), .int .i64 r.2.at_, .bool r.2.bad])]) := by
  refine can_of tabOK mix Try.call74 Try.func74 rfl (by kernel_rfl) (by show _ ≤ 24; simp) fun _ => ?_
  rw [f74] at h
  refine .seq ?_
  refine .region ?_
  refine .assign ?_
  refine .nil ?_
  refine .seq ?_
  obtain ⟨y1, hy1, h⟩ := bindE h
  refine .draw [] [[], [], [], [], [], [], [], [], [], [], [], [], [], [], [], []] [[], [], [], [], [], [], [], [], [], [], [], [], [], [], [], []] [[]]
    [(0, 0), (1, 0), (2, 0), (3, 0), (4, 0), (5, 0), (6, 0), (7, 0), (8, 0), (9, 0), (10, 0), (11, 0), (12, 0), (13, 0), (14, 0), (15, 0)] [] 0
    [⟨[(7, .ptr (.par 0) 0), (8, .ptr (.par 0) 0), (9, .ptr (.par 0) 0), (10, .sl 5 .ro (a0.b.map (PV.int .u8))), (11, .ptr (.par 0) 0), (12, .ptr (.par 0) 0), (13, .ptr (.par 0) 1), (14, .int .i64 a0.at_), (15, .tup [.str y1.1, .int .i64 y1.2.1, .int .i64 y1.2.2]), (6, .tup [.str y1.1, .int .i64 y1.2.1, .int .i64 y1.2.2]), (16, .str y1.1), (17, .int .i64 y1.2.1), (18, .int .i64 y1.2.2), (3, .str y1.1), (4, .int .i64 y1.2.1), (5, .int .i64 y1.2.2), (0, .ptr (.par 0) 0)], [], [((.par 0), [.sl 5 .ro (a0.b.map (PV.int .u8)), .int .i64 a0.at_, .bool a0.bad])]⟩]
    [(0, .ptr (.par 0) 0)]
    (.cons [0] [] (fun _ _ h => .move (h _)) rfl rfl <|
    .cons [7] [] (fun _ _ h => .val (h _)) rfl rfl <|
    .cons [8] [] (fun _ _ h => .val (h _)) rfl rfl <|
    .cons [9] [] (fun _ _ h => .val (h _)) rfl rfl <|
    .cons [0] [] (fun _ _ h => .move (h _)) rfl rfl <|
    .cons [11] [] (fun _ _ h => .val (h _)) rfl rfl <|
    .cons [12] [] (fun _ _ h => .val (h _)) rfl rfl <|
    .cons [13] [] (fun _ _ h => .val (h _)) rfl rfl <|
    .cons [10, 14] [] (fun _ _ h => .cP (g31 hy1) (h _)) rfl rfl <|
    .cons [15] [] (fun _ _ h => .move (h _)) rfl rfl <|
    .cons [6] [] (fun _ _ h => .val (h _)) rfl rfl <|
    .cons [6] [] (fun _ _ h => .val (h _)) rfl rfl <|
    .cons [6] [] (fun _ _ h => .val (h _)) rfl rfl <|
    .cons [16] [] (fun _ _ h => .assign (h _)) rfl rfl <|
    .cons [17] [] (fun _ _ h => .assign (h _)) rfl rfl <|
    .cons [18] [] (fun _ _ h => .assign (h _)) rfl rfl <|
    .nil)
    (.nil)
    (by kernel_rfl) rfl (.cons rfl (.nil)) (.nil) (.cons rfl (.nil)) ?_
  refine .imp (T := St.of [(0, .ptr (.par 0) 0), (3, .str y1.1), (4, .int .i64 y1.2.1), (5, .int .i64 y1.2.2)] [((.par 0), [.sl 5 .ro (a0.b.map (PV.int .u8)), .int .i64 a0.at_, .bool a0.bad])]) (imp_of (.cons rfl (.cons rfl (.cons rfl (.cons rfl (.nil))))) (.cons rfl (.nil))) ?_
  refine .seq ?_
  refine .region ?_
  refine .move ?_
  refine .move ?_
  refine .move ?_
  obtain ⟨y2, hy2, h⟩ := bindE h
  refine .cH (.par 0) (g73 hy2) ?_
  refine .nil ?_
  refine .seq ?_
  refine .region ?_
  refine .move ?_
  refine .assign ?_
  refine .nil ?_
  cases h
  exact .ret (fin_gen none (.par .nil))

/- (*soundservice/descriptor.reader).short -/
def f75 (n : Nat) (a0 : Reader) : Option (Int × Reader) :=
  (f32 n a0.b a0.at_).bind fun y1 =>
  (f73 n (⟨a0.b, a0.at_, a0.bad⟩ : Reader) y1.2.1 y1.2.2).bind fun y2 =>
  some (w64 (y1.1), (⟨y2.b, y2.at_, y2.bad⟩ : Reader))
set_option maxHeartbeats 4000000 in
set_option maxRecDepth 100000 in
theorem g75 {n : Nat} {a0 : Reader} {r : (Int × Reader)} (h : f75 n a0 = some r) :
    Ab.Can Try.prog 75 [.ptr (.par 0) 0] (lookH [(.par 0, [.sl 5 .ro (a0.b.map (PV.int .u8)), .int .i64 a0.at_, .bool a0.bad])]) (.int .i64 r.1) (lookH [(.par 0, [.sl 5 .ro (r.2.b.map (PV.int .u8)), .int .i64 r.2.at_, .bool r.2.bad])]) := by
  refine can_of tabOK mix Try.call75 Try.func75 rfl (by kernel_rfl) (by show _ ≤ 25; simp) fun _ => ?_
  rw [f75] at h
  refine .seq ?_
  refine .region ?_
  refine .assign ?_
  refine .nil ?_
  refine .seq ?_
  obtain ⟨y1, hy1, h⟩ := bindE h
  refine .draw [] [[], [], [], [], [], [], [], [], [], [], [], [], [], [], [], []] [[], [], [], [], [], [], [], [], [], [], [], [], [], [], [], []] [[]]
    [(0, 0), (1, 0), (2, 0), (3, 0), (4, 0), (5, 0), (6, 0), (7, 0), (8, 0), (9, 0), (10, 0), (11, 0), (12, 0), (13, 0), (14, 0), (15, 0)] [] 0
    [⟨[(7, .ptr (.par 0) 0), (8, .ptr (.par 0) 0), (9, .ptr (.par 0) 0), (10, .sl 5 .ro (a0.b.map (PV.int .u8))), (11, .ptr (.par 0) 0), (12, .ptr (.par 0) 0), (13, .ptr (.par 0) 1), (14, .int .i64 a0.at_), (15, .tup [.int .u16 y1.1, .int .i64 y1.2.1, .int .i64 y1.2.2]), (6, .tup [.int .u16 y1.1, .int .i64 y1.2.1, .int .i64 y1.2.2]), (16, .int .u16 y1.1), (17, .int .i64 y1.2.1), (18, .int .i64 y1.2.2), (3, .int .u16 y1.1), (4, .int .i64 y1.2.1), (5, .int .i64 y1.2.2), (0, .ptr (.par 0) 0)], [], [((.par 0), [.sl 5 .ro (a0.b.map (PV.int .u8)), .int .i64 a0.at_, .bool a0.bad])]⟩]
    [(0, .ptr (.par 0) 0)]
    (.cons [0] [] (fun _ _ h => .move (h _)) rfl rfl <|
    .cons [7] [] (fun _ _ h => .val (h _)) rfl rfl <|
    .cons [8] [] (fun _ _ h => .val (h _)) rfl rfl <|
    .cons [9] [] (fun _ _ h => .val (h _)) rfl rfl <|
    .cons [0] [] (fun _ _ h => .move (h _)) rfl rfl <|
    .cons [11] [] (fun _ _ h => .val (h _)) rfl rfl <|
    .cons [12] [] (fun _ _ h => .val (h _)) rfl rfl <|
    .cons [13] [] (fun _ _ h => .val (h _)) rfl rfl <|
    .cons [10, 14] [] (fun _ _ h => .cP (g32 hy1) (h _)) rfl rfl <|
    .cons [15] [] (fun _ _ h => .move (h _)) rfl rfl <|
    .cons [6] [] (fun _ _ h => .val (h _)) rfl rfl <|
    .cons [6] [] (fun _ _ h => .val (h _)) rfl rfl <|
    .cons [6] [] (fun _ _ h => .val (h _)) rfl rfl <|
    .cons [16] [] (fun _ _ h => .assign (h _)) rfl rfl <|
    .cons [17] [] (fun _ _ h => .assign (h _)) rfl rfl <|
    .cons [18] [] (fun _ _ h => .assign (h _)) rfl rfl <|
    .nil)
    (.nil)
    (by kernel_rfl) rfl (.cons rfl (.nil)) (.nil) (.cons rfl (.nil)) ?_
  refine .imp (T := St.of [(0, .ptr (.par 0) 0), (3, .int .u16 y1.1), (4, .int .i64 y1.2.1), (5, .int .i64 y1.2.2)] [((.par 0), [.sl 5 .ro (a0.b.map (PV.int .u8)), .int .i64 a0.at_, .bool a0.bad])]) (imp_of (.cons rfl (.cons rfl (.cons rfl (.cons rfl (.nil))))) (.cons rfl (.nil))) ?_
  refine .seq ?_
  refine .region ?_
  refine .move ?_
  refine .move ?_
  refine .move ?_
  obtain ⟨y2, hy2, h⟩ := bindE h
  refine .cH (.par 0) (g73 hy2) ?_
  refine .nil ?_
  refine .seq ?_
  refine .region ?_
  refine .move ?_
  refine .val ?_
  refine .assign ?_
  refine .nil ?_
  cases h
  exact .ret (fin_gen none (.par .nil))

/- (*soundservice/descriptor.reader).long -/
def f76 (n : Nat) (a0 : Reader) : Option (Int × Reader) :=
  (f30 n a0.b a0.at_).bind fun y1 =>
  (f73 n (⟨a0.b, a0.at_, a0.bad⟩ : Reader) y1.2.1 y1.2.2).bind fun y2 =>
  some (w64 (y1.1), (⟨y2.b, y2.at_, y2.bad⟩ : Reader))
set_option maxHeartbeats 4000000 in
set_option maxRecDepth 100000 in
theorem g76 {n : Nat} {a0 : Reader} {r : (Int × Reader)} (h : f76 n a0 = some r) :
    Ab.Can Try.prog 76 [.ptr (.par 0) 0] (lookH [(.par 0, [.sl 5 .ro (a0.b.map (PV.int .u8)), .int .i64 a0.at_, .bool a0.bad])]) (.int .i64 r.1) (lookH [(.par 0, [.sl 5 .ro (r.2.b.map (PV.int .u8)), .int .i64 r.2.at_, .bool r.2.bad])]) := by
  refine can_of tabOK mix Try.call76 Try.func76 rfl (by kernel_rfl) (by show _ ≤ 25; simp) fun _ => ?_
  rw [f76] at h
  refine .seq ?_
  refine .region ?_
  refine .assign ?_
  refine .nil ?_
  refine .seq ?_
  obtain ⟨y1, hy1, h⟩ := bindE h
  refine .draw [] [[], [], [], [], [], [], [], [], [], [], [], [], [], [], [], []] [[], [], [], [], [], [], [], [], [], [], [], [], [], [], [], []] [[]]
    [(0, 0), (1, 0), (2, 0), (3, 0), (4, 0), (5, 0), (6, 0), (7, 0), (8, 0), (9, 0), (10, 0), (11, 0), (12, 0), (13, 0), (14, 0), (15, 0)] [] 0
    [⟨[(7, .ptr (.par 0) 0), (8, .ptr (.par 0) 0), (9, .ptr (.par 0) 0), (10, .sl 5 .ro (a0.b.map (PV.int .u8))), (11, .ptr (.par 0) 0), (12, .ptr (.par 0) 0), (13, .ptr (.par 0) 1), (14, .int .i64 a0.at_), (15, .tup [.int .u32 y1.1, .int .i64 y1.2.1, .int .i64 y1.2.2]), (6, .tup [.int .u32 y1.1, .int .i64 y1.2.1, .int .i64 y1.2.2]), (16, .int .u32 y1.1), (17, .int .i64 y1.2.1), (18, .int .i64 y1.2.2), (3, .int .u32 y1.1), (4, .int .i64 y1.2.1), (5, .int .i64 y1.2.2), (0, .ptr (.par 0) 0)], [], [((.par 0), [.sl 5 .ro (a0.b.map (PV.int .u8)), .int .i64 a0.at_, .bool a0.bad])]⟩]
    [(0, .ptr (.par 0) 0)]
    (.cons [0] [] (fun _ _ h => .move (h _)) rfl rfl <|
    .cons [7] [] (fun _ _ h => .val (h _)) rfl rfl <|
    .cons [8] [] (fun _ _ h => .val (h _)) rfl rfl <|
    .cons [9] [] (fun _ _ h => .val (h _)) rfl rfl <|
    .cons [0] [] (fun _ _ h => .move (h _)) rfl rfl <|
    .cons [11] [] (fun _ _ h => .val (h _)) rfl rfl <|
    .cons [12] [] (fun _ _ h => .val (h _)) rfl rfl <|
    .cons [13] [] (fun _ _ h => .val (h _)) rfl rfl <|
    .cons [10, 14] [] (fun _ _ h => .cP (g30 hy1) (h _)) rfl rfl <|
    .cons [15] [] (fun _ _ h => .move (h _)) rfl rfl <|
    .cons [6] [] (fun _ _ h => .val (h _)) rfl rfl <|
    .cons [6] [] (fun _ _ h => .val (h _)) rfl rfl <|
    .cons [6] [] (fun _ _ h => .val (h _)) rfl rfl <|
    .cons [16] [] (fun _ _ h => .assign (h _)) rfl rfl <|
    .cons [17] [] (fun _ _ h => .assign (h _)) rfl rfl <|
    .cons [18] [] (fun _ _ h => .assign (h _)) rfl rfl <|
    .nil)
    (.nil)
    (by kernel_rfl) rfl (.cons rfl (.nil)) (.nil) (.cons rfl (.nil)) ?_
  refine .imp (T := St.of [(0, .ptr (.par 0) 0), (3, .int .u32 y1.1), (4, .int .i64 y1.2.1), (5, .int .i64 y1.2.2)] [((.par 0), [.sl 5 .ro (a0.b.map (PV.int .u8)), .int .i64 a0.at_, .bool a0.bad])]) (imp_of (.cons rfl (.cons rfl (.cons rfl (.cons rfl (.nil))))) (.cons rfl (.nil))) ?_
  refine .seq ?_
  refine .region ?_
  refine .move ?_
  refine .move ?_
  refine .move ?_
  obtain ⟨y2, hy2, h⟩ := bindE h
  refine .cH (.par 0) (g73 hy2) ?_
  refine .nil ?_
  refine .seq ?_
  refine .region ?_
  refine .move ?_
  refine .val ?_
  refine .assign ?_
  refine .nil ?_
  cases h
  exact .ret (fin_gen none (.par .nil))

/- (*soundservice/descriptor.reader).set -/
def f77_l1 (n : Nat) (j42 : (List Span) → (List Int) → Int → Bool → Option (IntSet × Reader)) : Nat → (List Span) → (List Int) → Int → Bool → Int → Option (IntSet × Reader)
  | 0, _, _, _, _, _ => none
  | m72 + 1, v53, v55, v56, v57, v58 =>
    joinK (fun (_ : Unit) =>
    if !v57 then (
    (f76 n (⟨v55, v56, v57⟩ : Reader)).bind fun y85 =>
    (f76 n (⟨y85.2.b, y85.2.at_, y85.2.bad⟩ : Reader)).bind fun y86 =>
    (lApp v53 ([(⟨y85.1, y86.1⟩ : Span)] : List Span)).bind fun x87 =>
    f77_l1 n j42 m72 x87 y86.2.b y86.2.at_ y86.2.bad (w64 (v58 - (1 : Int))))
    else (
    j42 v53 v55 v56 v57)) fun j78 =>
    joinK (fun (_ : Unit) =>
    j42 v53 v55 v56 v57) fun j79 =>
    if decide (v58 > (0 : Int)) then (
    j78 ())
    else (
    j79 ())
def f77 (n : Nat) (a0 : Reader) : Option (IntSet × Reader) :=
  joinK (fun (v37 : (List Span)) (v39 : (List Int)) (v40 : Int) (v41 : Bool) =>
  some ((⟨v37⟩ : IntSet), (⟨v39, v40, v41⟩ : Reader))) fun j42 =>
  (f75 n (⟨a0.b, a0.at_, a0.bad⟩ : Reader)).bind fun y43 =>
  f77_l1 n j42 n ([] : List Span) y43.2.b y43.2.at_ y43.2.bad y43.1
set_option maxHeartbeats 4000000 in
set_option maxRecDepth 100000 in
theorem g77 {n : Nat} {a0 : Reader} {r : (IntSet × Reader)} (h : f77 n a0 = some r) :
    Ab.Can Try.prog 77 [.ptr (.par 0) 0] (lookH [(.par 0, [.sl 5 .ro (a0.b.map (PV.int .u8)), .int .i64 a0.at_, .bool a0.bad])]) (.agg [.sl 124 .ro (r.1.Spans.map pv124)]) (lookH [(.par 0, [.sl 5 .ro (r.2.b.map (PV.int .u8)), .int .i64 r.2.at_, .bool r.2.bad])]) := by
  refine can_of tabOK mix Try.call77 Try.func77 rfl (by kernel_rfl) (by show _ ≤ 29; simp) fun _ => ?_
  rw [f77] at h
  refine .seq ?_
  refine .region ?_
  refine .allocL (cs := [.sl 124 .full []]) ?_
  refine .nil ?_
  refine .seq ?_
  refine .region ?_
  refine .allocL (cs := [.sl 124 .full []]) ?_
  refine .nil ?_
  obtain ⟨j42, hj42, h⟩ := joinE h
  refine .cutI (fun T => (∃ (v37 : (List Span)) (v39 : (List Int)) (v40 : Int) (v41 : Bool), T = St.of [(2, .ptr (.loc 0 0) 0), (3, .ptr (.loc 1 0) 0)] [((.loc 0 0), [.sl 124 .full []]), ((.loc 1 0), [.sl 124 (.own (.row 9038 0)) (v37.map pv124)]), ((.par 0), [.sl 5 .ro (v39.map (PV.int .u8)), .int .i64 v40, .bool v41])] ∧ j42 v37 v39 v40 v41 = some r)) ?_ ?_
  · refine .seq ?_
    refine .region ?_
    refine .move ?_
    obtain ⟨y43, hy43, h⟩ := bindE h
    refine .cH (.par 0) (g75 hy43) ?_
    refine .assign ?_
    refine .nil ?_
    refine .block ?_
    refine .loopI (fun m T => ∃ (v53 : (List Span)) (v55 : (List Int)) (v56 : Int) (v57 : Bool) (v58 : Int), T = St.of [(0, .ptr (.par 0) 0), (2, .ptr (.loc 0 0) 0), (3, .ptr (.loc 1 0) 0), (4, .int .i64 v58)] [((.loc 0 0), [.sl 124 .full []]), ((.loc 1 0), [.sl 124 (.own (.row 9054 0)) (v53.map pv124)]), ((.par 0), [.sl 5 .ro (v55.map (PV.int .u8)), .int .i64 v56, .bool v57])] ∧ f77_l1 n j42 m v53 v55 v56 v57 v58 = some r) _ _ ⟨_, _, _, _, _, rfl, h⟩ (imp_of (.cons rfl (.cons rfl (.cons rfl (.cons rfl (.nil))))) (.cons rfl (.wk (.cons (.own _ _) rfl (.nil)) rfl (.cons rfl (.nil))))) ?_
    rintro m72 T ⟨v53, v55, v56, v57, v58, rfl, h⟩
    obtain _ | m72 := m72
    · rw [f77_l1] at h; cases h
    rw [f77_l1] at h
    refine .seq ?_
    obtain ⟨j78, hj78, h⟩ := joinE h
    obtain ⟨j79, hj79, h⟩ := joinE h
    refine .cutI (fun T => (T = St.of [(0, .ptr (.par 0) 0), (2, .ptr (.loc 0 0) 0), (3, .ptr (.loc 1 0) 0), (4, .int .i64 v58), (15, .bool (!v57))] [((.loc 0 0), [.sl 124 .full []]), ((.loc 1 0), [.sl 124 (.own (.row 9054 0)) (v53.map pv124)]), ((.par 0), [.sl 5 .ro (v55.map (PV.int .u8)), .int .i64 v56, .bool v57])] ∧ j78 () = some r) ∨ (T = St.of [(0, .ptr (.par 0) 0), (2, .ptr (.loc 0 0) 0), (3, .ptr (.loc 1 0) 0), (4, .int .i64 v58), (15, .bool false)] [((.loc 0 0), [.sl 124 .full []]), ((.loc 1 0), [.sl 124 (.own (.row 9054 0)) (v53.map pv124)]), ((.par 0), [.sl 5 .ro (v55.map (PV.int .u8)), .int .i64 v56, .bool v57])] ∧ j79 () = some r)) ?_ ?_
    · refine .region ?_
      refine .move ?_
      refine .val ?_
      refine .move ?_
      refine .caseG (fun hc80 => ?_) (fun hc80 => ?_)
      · replace h := (if_pos hc80).symm.trans h
        refine .move ?_
        refine .val ?_
        refine .val ?_
        refine .val ?_
        refine .val ?_
        refine .brT ?_
        refine .nil ?_
        exact ⟨_, (.inl ⟨rfl, h⟩), (imp_of (.cons rfl (.cons rfl (.cons rfl (.cons rfl (.cons rfl (.nil)))))) (.cons rfl (.cons rfl (.cons rfl (.nil)))))⟩
      · replace h := (if_neg (nt hc80)).symm.trans h
        refine .skip ?_
        refine .skip ?_
        refine .skip ?_
        refine .skip ?_
        refine .skip ?_
        refine .brF ?_
        refine .nil ?_
        exact ⟨_, (.inr (⟨rfl, h⟩)), (imp_of (.cons rfl (.cons rfl (.cons rfl (.cons rfl (.cons rfl (.nil)))))) (.cons rfl (.cons rfl (.cons rfl (.nil)))))⟩
    · rintro T (⟨rfl, h⟩ | ⟨rfl, h⟩)
      · subst hj78
        refine .cond (fun hc81 => ?_) (fun hc81 => ?_)
        · replace h := (if_pos hc81).symm.trans h
          refine .skip ?_
          refine .seq ?_
          refine .block ?_
          obtain ⟨y85, hy85, h⟩ := bindE h
          obtain ⟨y86, hy86, h⟩ := bindE h
          obtain ⟨x87, hx87, h⟩ := bindE h
          refine .draw [3, 5, 8, 10] [[], [], [], [], [], [3], [3, 5], [3, 5], [3, 5], [3, 5, 8], [3, 5, 8]] [[8, 10], [8, 10], [3, 5, 8, 10], [5, 8, 10], [5, 8, 10], [8, 10], [8, 10], [8, 10], [10], [10], []] [[], [3], [3, 5], [3, 5, 8], [3, 5, 8, 10]]
            [(0, 0), (0, 1), (0, 2), (1, 0), (1, 1), (1, 2), (2, 0), (4, 0), (4, 1), (6, 2), (7, 2), (9, 3)] [(0, 3, 1), (1, 5, 2), (2, 8, 3), (3, 10, 4)] 4
            [⟨[(18, .ptr (.loc 1 0) 0), (19, .sl 124 (.own (.row 9054 0)) (v53.map pv124)), (20, .ptr (.par 0) 0), (22, .ptr (.par 0) 0), (0, .ptr (.par 0) 0), (2, .ptr (.loc 0 0) 0), (3, .ptr (.loc 1 0) 0), (4, .int .i64 v58)], [], [((.loc 0 0), [.sl 124 .full []]), ((.loc 1 0), [.sl 124 (.own (.row 9054 0)) (v53.map pv124)]), ((.par 0), [.sl 5 .ro (v55.map (PV.int .u8)), .int .i64 v56, .bool v57])]⟩,
            ⟨[(18, .ptr (.loc 1 0) 0), (19, .sl 124 (.own (.row 9054 0)) (v53.map pv124)), (20, .ptr (.par 0) 0), (21, .int .i64 y85.1), (22, .ptr (.par 0) 0), (0, .ptr (.par 0) 0), (2, .ptr (.loc 0 0) 0), (3, .ptr (.loc 1 0) 0), (4, .int .i64 v58)], [], [((.loc 0 0), [.sl 124 .full []]), ((.loc 1 0), [.sl 124 (.own (.row 9054 0)) (v53.map pv124)]), ((.par 0), [.sl 5 .ro (y85.2.b.map (PV.int .u8)), .int .i64 y85.2.at_, .bool y85.2.bad])]⟩,
            ⟨[(18, .ptr (.loc 1 0) 0), (19, .sl 124 (.own (.row 9054 0)) (v53.map pv124)), (20, .ptr (.par 0) 0), (21, .int .i64 y85.1), (22, .ptr (.par 0) 0), (23, .int .i64 y86.1), (24, .agg [.int .i64 y85.1, .int .i64 y86.1]), (25, .sl 124 .ro (([(⟨y85.1, y86.1⟩ : Span)] : List Span).map pv124)), (0, .ptr (.par 0) 0), (2, .ptr (.loc 0 0) 0), (3, .ptr (.loc 1 0) 0), (4, .int .i64 v58)], [], [((.loc 0 0), [.sl 124 .full []]), ((.loc 1 0), [.sl 124 (.own (.row 9054 0)) (v53.map pv124)]), ((.par 0), [.sl 5 .ro (y86.2.b.map (PV.int .u8)), .int .i64 y86.2.at_, .bool y86.2.bad])]⟩,
            ⟨[(18, .ptr (.loc 1 0) 0), (19, .dead), (20, .ptr (.par 0) 0), (21, .int .i64 y85.1), (22, .ptr (.par 0) 0), (23, .int .i64 y86.1), (24, .agg [.int .i64 y85.1, .int .i64 y86.1]), (25, .sl 124 .ro (([(⟨y85.1, y86.1⟩ : Span)] : List Span).map pv124)), (26, .sl 124 (.own (.row 5 8)) (x87.map pv124)), (27, .ptr (.loc 1 0) 0), (0, .ptr (.par 0) 0), (2, .ptr (.loc 0 0) 0), (3, .ptr (.loc 1 0) 0), (4, .int .i64 v58)], [], [((.loc 0 0), [.sl 124 .full []]), ((.loc 1 0), [.dead]), ((.par 0), [.sl 5 .ro (y86.2.b.map (PV.int .u8)), .int .i64 y86.2.at_, .bool y86.2.bad])]⟩,
            ⟨[(18, .ptr (.loc 1 0) 0), (19, .dead), (20, .ptr (.par 0) 0), (21, .int .i64 y85.1), (22, .ptr (.par 0) 0), (23, .int .i64 y86.1), (24, .agg [.int .i64 y85.1, .int .i64 y86.1]), (25, .sl 124 .ro (([(⟨y85.1, y86.1⟩ : Span)] : List Span).map pv124)), (26, .sl 124 (.own (.row 5 8)) (x87.map pv124)), (27, .ptr (.loc 1 0) 0), (0, .ptr (.par 0) 0), (2, .ptr (.loc 0 0) 0), (3, .ptr (.loc 1 0) 0), (4, .int .i64 v58)], [], [((.loc 0 0), [.sl 124 .full []]), ((.loc 1 0), [.sl 124 (.own (.row 5 8)) (x87.map pv124)]), ((.par 0), [.sl 5 .ro (y86.2.b.map (PV.int .u8)), .int .i64 y86.2.at_, .bool y86.2.bad])]⟩]
            [(0, .ptr (.par 0) 0), (2, .ptr (.loc 0 0) 0), (3, .ptr (.loc 1 0) 0), (4, .int .i64 v58)]
            (.cons [3] [] (fun _ _ h => .val (h _)) rfl rfl <|
            .cons [3] [] (fun _ _ h => .val (h _)) rfl rfl <|
            .cons [3] [] (fun _ _ h => .val (h _)) rfl rfl <|
            .cons [18] [] (fun _ _ h => .val (h _)) rfl rfl <|
            .cons [18] [] (fun _ _ h => .val (h _)) rfl rfl <|
            .cons [18] [] (fun _ _ h => .val (h _)) rfl rfl <|
            .cons [0] [] (fun _ _ h => .move (h _)) rfl rfl <|
            .cons [0] [] (fun _ _ h => .move (h _)) rfl rfl <|
            .cons [0] [] (fun _ _ h => .move (h _)) rfl rfl <|
            .cons [21, 23] [] (fun _ _ h => .buildL (cs := [.int .i64 y85.1, .int .i64 y86.1]) (h _)) rfl rfl <|
            .cons [24] [] (fun _ _ h => .litR (f := pv124) ([(⟨y85.1, y86.1⟩ : Span)] : List Span) (h _)) rfl rfl <|
            .cons [3] [] (fun _ _ h => .val (h _)) rfl rfl <|
            .nil)
            (.cons (fun x => x) [20] [] (fun _ _ h => .cH (.par 0) (g76 hy85) (h _ _ (.cons rfl (.cons rfl (.cons rfl (.nil)))))) rfl (.old rfl (.old rfl (.old rfl (.new rfl (.old rfl (.old rfl (.old rfl (.old rfl (.old rfl (.nil)))))))))) rfl rfl <|
            .cons (fun x => x) [22] [] (fun _ _ h => .cH (.par 0) (g76 hy86) (h _ _ (.cons rfl (.cons rfl (.cons rfl (.nil)))))) rfl (.old rfl (.old rfl (.old rfl (.old rfl (.old rfl (.new rfl (.new rfl (.new rfl (.old rfl (.old rfl (.old rfl (.old rfl (.nil))))))))))))) rfl rfl <|
            .cons (PV.sub (twoSub (.row 9054 0) .kill (.row 5 8) .frz)) [19, 25] [] (fun _ _ h => .appL (f := pv124) hx87 (h _ _ (.cons rfl (.cons rfl (.cons rfl (.nil)))))) rfl (.old rfl (.old rfl (.old rfl (.old rfl (.old rfl (.old rfl (.old rfl (.old rfl (.new rfl (.new rfl (.old rfl (.old rfl (.old rfl (.old rfl (.nil))))))))))))))) rfl rfl <|
            .cons (fun x => x) [27, 26] [] (fun _ _ h => .wrL (cs := [.sl 124 (.own (.row 5 8)) (x87.map pv124)]) (h _ _ (.cons rfl (.cons rfl (.cons rfl (.nil)))))) rfl (.old rfl (.old rfl (.old rfl (.old rfl (.old rfl (.old rfl (.old rfl (.old rfl (.old rfl (.old rfl (.old rfl (.old rfl (.old rfl (.old rfl (.nil))))))))))))))) rfl rfl <|
            .nil)
            (by kernel_rfl) rfl (.cons rfl (.cons rfl (.cons rfl (.cons rfl (.nil))))) (.nil) (.cons rfl (.cons rfl (.cons rfl (.nil)))) ?_
          refine .imp (T := St.of [(0, .ptr (.par 0) 0), (2, .ptr (.loc 0 0) 0), (3, .ptr (.loc 1 0) 0), (4, .int .i64 v58)] [((.loc 0 0), [.sl 124 .full []]), ((.loc 1 0), [.sl 124 (.own (.row 5 8)) (x87.map pv124)]), ((.par 0), [.sl 5 .ro (y86.2.b.map (PV.int .u8)), .int .i64 y86.2.at_, .bool y86.2.bad])]) (imp_of (.cons rfl (.cons rfl (.cons rfl (.cons rfl (.nil))))) (.cons rfl (.cons rfl (.cons rfl (.nil))))) ?_
          refine .region ?_
          refine .move ?_
          refine .val ?_
          refine .assign ?_
          refine .nil ?_
          exact ⟨m72, _, Nat.lt_succ_self m72, ⟨_, _, _, _, _, rfl, h⟩, (Imp.trans (Imp.swap (.row 5 8) (.row 9054 0) rfl rfl rfl) (imp_of (.cons rfl (.cons rfl (.cons rfl (.cons rfl (.nil))))) (.cons rfl (.cons rfl (.cons rfl (.nil))))))⟩
        · replace h := (if_neg (nt hc81)).symm.trans h
          refine .exit (.hit ?_)
          exact ⟨_, ⟨_, _, _, _, rfl, h⟩, (Imp.trans (Imp.swap (.row 9054 0) (.row 9038 0) rfl rfl rfl) (imp_of (.cons rfl (.cons rfl (.nil))) (.cons rfl (.cons rfl (.cons rfl (.nil))))))⟩
      · subst hj79
        refine .condF ?_
        refine .exit (.hit ?_)
        exact ⟨_, ⟨_, _, _, _, rfl, h⟩, (Imp.trans (Imp.swap (.row 9054 0) (.row 9038 0) rfl rfl rfl) (imp_of (.cons rfl (.cons rfl (.nil))) (.cons rfl (.cons rfl (.cons rfl (.nil))))))⟩
  · rintro T ⟨v37, v39, v40, v41, rfl, h⟩
    subst hj42
    refine .seq ?_
    refine .region ?_
    refine .val (v := .agg [.sl 124 (.own (.row 9038 0)) (v37.map pv124)]) ?_
    refine .wrL (cs := [.sl 124 (.own (.row 9038 0)) (v37.map pv124)]) ?_
    refine .nil ?_
    cases h
    exact .ret (fin_gen none (.par .nil))

/- (*soundservice/descriptor.reader).maps -/
def f78_l2 (n : Nat) (j381 : (List Int) → Int → Bool → (List Int) → Option ((List (List Int)) × Reader)) : Nat → (List Int) → Int → Bool → (List Int) → Int → Option ((List (List Int)) × Reader)
  | 0, _, _, _, _, _ => none
  | m409 + 1, v391, v392, v393, v394, v396 =>
    joinK (fun (_ : Unit) =>
    if !v393 then (
    (f75 n (⟨v391, v392, v393⟩ : Reader)).bind fun y421 =>
    (lApp v394 ([y421.1] : List Int)).bind fun x422 =>
    f78_l2 n j381 m409 y421.2.b y421.2.at_ y421.2.bad x422 (w64 (v396 - (1 : Int))))
    else (
    j381 v391 v392 v393 v394)) fun j415 =>
    joinK (fun (_ : Unit) =>
    j381 v391 v392 v393 v394) fun j416 =>
    if decide (v396 > (0 : Int)) then (
    j415 ())
    else (
    j416 ())
def f78_l1 (n : Nat) (j171 : (List Int) → Int → Bool → (List (List Int)) → Option ((List (List Int)) × Reader)) : Nat → (List Int) → Int → Bool → (List (List Int)) → Int → Option ((List (List Int)) × Reader)
  | 0, _, _, _, _, _ => none
  | m287 + 1, v225, v226, v227, v228, v230 =>
    joinK (fun (_ : Unit) =>
    if !v227 then (
    joinK (fun (v337 : (List Int)) (v338 : Int) (v339 : Bool) (v340 : (List (List Int))) =>
    f78_l1 n j171 m287 v337 v338 v339 v340 (w64 (v230 - (1 : Int)))) fun j342 =>
    joinK (fun (v376 : (List Int)) (v377 : Int) (v378 : Bool) (v379 : (List Int)) =>
    (lApp v228 ([v379] : List (List Int))).bind fun x423 =>
    j342 v376 v377 v378 x423) fun j381 =>
    (f75 n (⟨v225, v226, v227⟩ : Reader)).bind fun y382 =>
    f78_l2 n j381 n y382.2.b y382.2.at_ y382.2.bad ([] : List Int) y382.1)
    else (
    j171 v225 v226 v227 v228)) fun j293 =>
    joinK (fun (_ : Unit) =>
    j171 v225 v226 v227 v228) fun j294 =>
    if decide (v230 > (0 : Int)) then (
    j293 ())
    else (
    j294 ())
def f78 (n : Nat) (a0 : Reader) : Option ((List (List Int)) × Reader) :=
  joinK (fun (v166 : (List Int)) (v167 : Int) (v168 : Bool) (v169 : (List (List Int))) =>
  some (v169, (⟨v166, v167, v168⟩ : Reader))) fun j171 =>
  (f75 n (⟨a0.b, a0.at_, a0.bad⟩ : Reader)).bind fun y172 =>
  f78_l1 n j171 n y172.2.b y172.2.at_ y172.2.bad ([] : List (List Int)) y172.1
set_option maxHeartbeats 4000000 in
set_option maxRecDepth 100000 in
theorem g78 {n : Nat} {a0 : Reader} {r : ((List (List Int)) × Reader)} (h : f78 n a0 = some r) :
    Ab.Can Try.prog 78 [.ptr (.par 0) 0] (lookH [(.par 0, [.sl 5 .ro (a0.b.map (PV.int .u8)), .int .i64 a0.at_, .bool a0.bad])]) (.sl 59 (.own (.rrow 0)) (r.1.map pv59)) (lookH [(.par 0, [.sl 5 .ro (r.2.b.map (PV.int .u8)), .int .i64 r.2.at_, .bool r.2.bad])]) := by
  refine can_of tabOK mix Try.call78 Try.func78 rfl (by kernel_rfl) (by show _ ≤ 43; simp) fun _ => ?_
  rw [f78] at h
  refine .seq ?_
  refine .region ?_
  refine .assign ?_
  refine .nil ?_
  refine .seq ?_
  refine .region ?_
  refine .assign ?_
  refine .nil ?_
  obtain ⟨j171, hj171, h⟩ := joinE h
  refine .cutI (fun T => (∃ (v166 : (List Int)) (v167 : Int) (v168 : Bool) (v169 : (List (List Int))), T = St.of [(3, .sl 59 (.own (.row 9170 0)) (v169.map pv59))] [((.par 0), [.sl 5 .ro (v166.map (PV.int .u8)), .int .i64 v167, .bool v168])] ∧ j171 v166 v167 v168 v169 = some r)) ?_ ?_
  · refine .seq ?_
    refine .region ?_
    refine .move ?_
    obtain ⟨y172, hy172, h⟩ := bindE h
    refine .cH (.par 0) (g75 hy172) ?_
    refine .assign ?_
    refine .nil ?_
    refine .block ?_
    refine .loopI (fun m T => ∃ (v225 : (List Int)) (v226 : Int) (v227 : Bool) (v228 : (List (List Int))) (v230 : Int), T = St.of [(0, .ptr (.par 0) 0), (3, .sl 59 (.own (.row 9229 0)) (v228.map pv59)), (4, .int .i64 v230)] [((.par 0), [.sl 5 .ro (v225.map (PV.int .u8)), .int .i64 v226, .bool v227])] ∧ f78_l1 n j171 m v225 v226 v227 v228 v230 = some r) _ _ ⟨_, _, _, _, _, rfl, h⟩ (imp_of (.cons rfl (.wk (.own _ _) rfl (.cons rfl (.nil)))) (.cons rfl (.nil))) ?_
    rintro m287 T ⟨v225, v226, v227, v228, v230, rfl, h⟩
    obtain _ | m287 := m287
    · rw [f78_l1] at h; cases h
    rw [f78_l1] at h
    refine .seq ?_
    obtain ⟨j293, hj293, h⟩ := joinE h
    obtain ⟨j294, hj294, h⟩ := joinE h
    refine .cutI (fun T => (T = St.of [(0, .ptr (.par 0) 0), (3, .sl 59 (.own (.row 9229 0)) (v228.map pv59)), (4, .int .i64 v230), (17, .bool (!v227))] [((.par 0), [.sl 5 .ro (v225.map (PV.int .u8)), .int .i64 v226, .bool v227])] ∧ j293 () = some r) ∨ (T = St.of [(0, .ptr (.par 0) 0), (3, .sl 59 (.own (.row 9229 0)) (v228.map pv59)), (4, .int .i64 v230), (17, .bool false)] [((.par 0), [.sl 5 .ro (v225.map (PV.int .u8)), .int .i64 v226, .bool v227])] ∧ j294 () = some r)) ?_ ?_
    · refine .region ?_
      refine .move ?_
      refine .val ?_
      refine .move ?_
      refine .caseG (fun hc295 => ?_) (fun hc295 => ?_)
      · replace h := (if_pos hc295).symm.trans h
        refine .move ?_
        refine .val ?_
        refine .val ?_
        refine .val ?_
        refine .val ?_
        refine .brT ?_
        refine .nil ?_
        exact ⟨_, (.inl ⟨rfl, h⟩), (imp_of (.cons rfl (.cons rfl (.cons rfl (.cons rfl (.nil))))) (.cons rfl (.nil)))⟩
      · replace h := (if_neg (nt hc295)).symm.trans h
        refine .skip ?_
        refine .skip ?_
        refine .skip ?_
        refine .skip ?_
        refine .skip ?_
        refine .brF ?_
        refine .nil ?_
        exact ⟨_, (.inr (⟨rfl, h⟩)), (imp_of (.cons rfl (.cons rfl (.cons rfl (.cons rfl (.nil))))) (.cons rfl (.nil)))⟩
    · rintro T (⟨rfl, h⟩ | ⟨rfl, h⟩)
      · subst hj293
        refine .cond (fun hc296 => ?_) (fun hc296 => ?_)
        · replace h := (if_pos hc296).symm.trans h
          refine .skip ?_
          obtain ⟨j342, hj342, h⟩ := joinE h
          refine .cutI (fun T => (∃ (v337 : (List Int)) (v338 : Int) (v339 : Bool) (v340 : (List (List Int))), T = St.of [(0, .ptr (.par 0) 0), (3, .sl 59 (.own (.row 9341 0)) (v340.map pv59)), (4, .int .i64 v230)] [((.par 0), [.sl 5 .ro (v337.map (PV.int .u8)), .int .i64 v338, .bool v339])] ∧ j342 v337 v338 v339 v340 = some r)) ?_ ?_
          · refine .block ?_
            refine .seq ?_
            refine .region ?_
            refine .assign ?_
            refine .nil ?_
            obtain ⟨j381, hj381, h⟩ := joinE h
            refine .cutI (fun T => (∃ (v376 : (List Int)) (v377 : Int) (v378 : Bool) (v379 : (List Int)), T = St.of [(0, .ptr (.par 0) 0), (3, .sl 59 (.own (.row 9229 0)) (v228.map pv59)), (4, .int .i64 v230), (5, .sl 3 (.own (.row 9380 0)) (v379.map (PV.int .i64)))] [((.par 0), [.sl 5 .ro (v376.map (PV.int .u8)), .int .i64 v377, .bool v378])] ∧ j381 v376 v377 v378 v379 = some r)) ?_ ?_
            · refine .seq ?_
              refine .region ?_
              refine .move ?_
              obtain ⟨y382, hy382, h⟩ := bindE h
              refine .cH (.par 0) (g75 hy382) ?_
              refine .assign ?_
              refine .nil ?_
              refine .block ?_
              refine .loopI (fun m T => ∃ (v391 : (List Int)) (v392 : Int) (v393 : Bool) (v394 : (List Int)) (v396 : Int), T = St.of [(0, .ptr (.par 0) 0), (3, .sl 59 (.own (.row 9229 0)) (v228.map pv59)), (4, .int .i64 v230), (5, .sl 3 (.own (.row 9395 0)) (v394.map (PV.int .i64))), (6, .int .i64 v396)] [((.par 0), [.sl 5 .ro (v391.map (PV.int .u8)), .int .i64 v392, .bool v393])] ∧ f78_l2 n j381 m v391 v392 v393 v394 v396 = some r) _ _ ⟨_, _, _, _, _, rfl, h⟩ (imp_of (.cons rfl (.cons rfl (.cons rfl (.wk (.own _ _) rfl (.cons rfl (.nil)))))) (.cons rfl (.nil))) ?_
              rintro m409 T ⟨v391, v392, v393, v394, v396, rfl, h⟩
              obtain _ | m409 := m409
              · rw [f78_l2] at h; cases h
              rw [f78_l2] at h
              refine .seq ?_
              obtain ⟨j415, hj415, h⟩ := joinE h
              obtain ⟨j416, hj416, h⟩ := joinE h
              refine .cutI (fun T => (T = St.of [(0, .ptr (.par 0) 0), (3, .sl 59 (.own (.row 9229 0)) (v228.map pv59)), (4, .int .i64 v230), (5, .sl 3 (.own (.row 9395 0)) (v394.map (PV.int .i64))), (6, .int .i64 v396), (30, .bool (!v393))] [((.par 0), [.sl 5 .ro (v391.map (PV.int .u8)), .int .i64 v392, .bool v393])] ∧ j415 () = some r) ∨ (T = St.of [(0, .ptr (.par 0) 0), (3, .sl 59 (.own (.row 9229 0)) (v228.map pv59)), (4, .int .i64 v230), (5, .sl 3 (.own (.row 9395 0)) (v394.map (PV.int .i64))), (6, .int .i64 v396), (30, .bool false)] [((.par 0), [.sl 5 .ro (v391.map (PV.int .u8)), .int .i64 v392, .bool v393])] ∧ j416 () = some r)) ?_ ?_
              · refine .region ?_
                refine .move ?_
                refine .val ?_
                refine .move ?_
                refine .caseG (fun hc417 => ?_) (fun hc417 => ?_)
                · replace h := (if_pos hc417).symm.trans h
                  refine .move ?_
                  refine .val ?_
                  refine .val ?_
                  refine .val ?_
                  refine .val ?_
                  refine .brT ?_
                  refine .nil ?_
                  exact ⟨_, (.inl ⟨rfl, h⟩), (imp_of (.cons rfl (.cons rfl (.cons rfl (.cons rfl (.cons rfl (.cons rfl (.nil))))))) (.cons rfl (.nil)))⟩
                · replace h := (if_neg (nt hc417)).symm.trans h
                  refine .skip ?_
                  refine .skip ?_
                  refine .skip ?_
                  refine .skip ?_
                  refine .skip ?_
                  refine .brF ?_
                  refine .nil ?_
                  exact ⟨_, (.inr (⟨rfl, h⟩)), (imp_of (.cons rfl (.cons rfl (.cons rfl (.cons rfl (.cons rfl (.cons rfl (.nil))))))) (.cons rfl (.nil)))⟩
              · rintro T (⟨rfl, h⟩ | ⟨rfl, h⟩)
                · subst hj415
                  refine .cond (fun hc418 => ?_) (fun hc418 => ?_)
                  · replace h := (if_pos hc418).symm.trans h
                    refine .skip ?_
                    refine .seq ?_
                    refine .block ?_
                    refine .region ?_
                    refine .move ?_
                    refine .move ?_
                    obtain ⟨y421, hy421, h⟩ := bindE h
                    refine .cH (.par 0) (g75 hy421) ?_
                    refine .litR (f := (PV.int .i64)) ([y421.1] : List Int) ?_
                    obtain ⟨x422, hx422, h⟩ := bindE h
                    refine .appL (f := (PV.int .i64)) hx422 ?_
                    refine .assign ?_
                    refine .nil ?_
                    refine .region ?_
                    refine .move ?_
                    refine .val ?_
                    refine .assign ?_
                    refine .nil ?_
                    exact ⟨m409, _, Nat.lt_succ_self m409, ⟨_, _, _, _, _, rfl, h⟩, (Imp.trans (Imp.swap (.row 9 4) (.row 9395 0) rfl rfl rfl) (imp_of (.cons rfl (.cons rfl (.cons rfl (.cons rfl (.cons rfl (.nil)))))) (.cons rfl (.nil))))⟩
                  · replace h := (if_neg (nt hc418)).symm.trans h
                    refine .exit (.hit ?_)
                    exact ⟨_, ⟨_, _, _, _, rfl, h⟩, (Imp.trans (Imp.swap (.row 9395 0) (.row 9380 0) rfl rfl rfl) (imp_of (.cons rfl (.cons rfl (.cons rfl (.cons rfl (.nil))))) (.cons rfl (.nil))))⟩
                · subst hj416
                  refine .condF ?_
                  refine .exit (.hit ?_)
                  exact ⟨_, ⟨_, _, _, _, rfl, h⟩, (Imp.trans (Imp.swap (.row 9395 0) (.row 9380 0) rfl rfl rfl) (imp_of (.cons rfl (.cons rfl (.cons rfl (.cons rfl (.nil))))) (.cons rfl (.nil))))⟩
            · rintro T ⟨v376, v377, v378, v379, rfl, h⟩
              subst hj381
              refine .region ?_
              refine .move ?_
              refine .move ?_
              refine .freeze (.row 9380 0) ?_
              refine .litR (f := pv59) ([v379] : List (List Int)) ?_
              obtain ⟨x423, hx423, h⟩ := bindE h
              refine .appL (f := pv59) hx423 ?_
              refine .assign ?_
              refine .nil ?_
              exact ⟨_, ⟨_, _, _, _, rfl, h⟩, (Imp.trans (Imp.swap (.row 10 3) (.row 9341 0) rfl rfl rfl) (imp_of (.cons rfl (.cons rfl (.cons rfl (.nil)))) (.cons rfl (.nil))))⟩
          · rintro T ⟨v337, v338, v339, v340, rfl, h⟩
            subst hj342
            refine .region ?_
            refine .move ?_
            refine .val ?_
            refine .assign ?_
            refine .nil ?_
            exact ⟨m287, _, Nat.lt_succ_self m287, ⟨_, _, _, _, _, rfl, h⟩, (Imp.trans (Imp.swap (.row 9341 0) (.row 9229 0) rfl rfl rfl) (imp_of (.cons rfl (.cons rfl (.cons rfl (.nil)))) (.cons rfl (.nil))))⟩
        · replace h := (if_neg (nt hc296)).symm.trans h
          refine .exit (.hit ?_)
          exact ⟨_, ⟨_, _, _, _, rfl, h⟩, (Imp.trans (Imp.swap (.row 9229 0) (.row 9170 0) rfl rfl rfl) (imp_of (.cons rfl (.nil)) (.cons rfl (.nil))))⟩
      · subst hj294
        refine .condF ?_
        refine .exit (.hit ?_)
        exact ⟨_, ⟨_, _, _, _, rfl, h⟩, (Imp.trans (Imp.swap (.row 9229 0) (.row 9170 0) rfl rfl rfl) (imp_of (.cons rfl (.nil)) (.cons rfl (.nil))))⟩
  · rintro T ⟨v166, v167, v168, v169, rfl, h⟩
    subst hj171
    refine .seq ?_
    refine .region ?_
    refine .move ?_
    refine .assign ?_
    refine .nil ?_
    cases h
    exact .ret (fin_gen (some (.row 9170 0)) (.par .nil))
theorem g78r {n : Nat} {a0 : Reader} {r : ((List (List Int)) × Reader)} (h : f78 n a0 = some r) :
    Ab.Can Try.prog 78 [.ptr (.par 0) 0] (lookH [(.par 0, [.sl 5 .ro (a0.b.map (PV.int .u8)), .int .i64 a0.at_, .bool a0.bad])]) (.sl 59 .ro (r.1.map pv59)) (lookH [(.par 0, [.sl 5 .ro (r.2.b.map (PV.int .u8)), .int .i64 r.2.at_, .bool r.2.bad])]) := Can.frzR (hq := [(.par 0, [.sl 5 .ro (r.2.b.map (PV.int .u8)), .int .i64 r.2.at_, .bool r.2.bad])]) (g78 h)

/- soundservice/descriptor.short -/
def f70 (n : Nat) (a0 : (List Int)) (a1 : Int) : Option (List Int) :=
  (f24 n a0 (IntKind.wrap .u16 (a1))).bind fun y1 =>
  some y1
set_option maxHeartbeats 4000000 in
set_option maxRecDepth 100000 in
theorem g70 {n : Nat} {a0 : (List Int)} {a1 : Int} {r : (List Int)} (h : f70 n a0 a1 = some r) :
    Ab.Can Try.prog 70 [.sl 5 .ro (a0.map (PV.int .u8)), .int .i64 a1] H0 (.sl 5 (.own (.rrow 0)) (r.map (PV.int .u8))) H0 := by
  refine can_of tabOK mix Try.call70 Try.func70 rfl (by kernel_rfl) (by show _ ≤ 9; simp) fun _ => ?_
  rw [f70] at h
  refine .seq ?_
  refine .region ?_
  refine .assign ?_
  refine .nil ?_
  refine .seq ?_
  refine .region ?_
  refine .move ?_
  refine .move ?_
  refine .val ?_
  obtain ⟨y1, hy1, h⟩ := bindE h
  refine .cO (.row 1 3) (g24 hy1) (u := .sl 5 (.own (.row 1 3)) (y1.map (PV.int .u8))) ?_
  refine .assign ?_
  refine .nil ?_
  cases h
  exact .ret (fin_gen0 (some (.row 1 3)))
theorem g70r {n : Nat} {a0 : (List Int)} {a1 : Int} {r : (List Int)} (h : f70 n a0 a1 = some r) :
    Ab.Can Try.prog 70 [.sl 5 .ro (a0.map (PV.int .u8)), .int .i64 a1] H0 (.sl 5 .ro (r.map (PV.int .u8))) H0 := Can.frzR (hq := []) (g70 h)

/- soundservice/descriptor.set -/
def f71_l1 (n : Nat) (a1 : IntSet) (j22 : (List Int) → Option (List Int)) : Nat → (List Int) → Int → Option (List Int)
  | 0, _, _ => none
  | m37 + 1, v27, v29 =>
    if decide (v29 < (a1.Spans.length : Int)) then (
    (lAt a1.Spans v29).bind fun x43 =>
    (f26 n v27 (IntKind.wrap .u32 (x43.Lo))).bind fun y44 =>
    (f26 n y44 (IntKind.wrap .u32 (x43.Hi))).bind fun y45 =>
    f71_l1 n a1 j22 m37 y45 (w64 (v29 + (1 : Int))))
    else (
    j22 v27)
def f71 (n : Nat) (a0 : (List Int)) (a1 : IntSet) : Option (List Int) :=
  (f70 n a0 (a1.Spans.length : Int)).bind fun y1 =>
  joinK (fun (v20 : (List Int)) =>
  some v20) fun j22 =>
  f71_l1 n a1 j22 n y1 0
set_option maxHeartbeats 4000000 in
set_option maxRecDepth 100000 in
theorem g71 {n : Nat} {a0 : (List Int)} {a1 : IntSet} {r : (List Int)} (h : f71 n a0 a1 = some r) :
    Ab.Can Try.prog 71 [.sl 5 .ro (a0.map (PV.int .u8)), .agg [.sl 124 .ro (a1.Spans.map pv124)]] H0 (.sl 5 (.own (.rrow 0)) (r.map (PV.int .u8))) H0 := by
  refine can_of tabOK mix Try.call71 Try.func71 rfl (by kernel_rfl) (by show _ ≤ 30; simp) fun _ => ?_
  rw [f71] at h
  refine .seq ?_
  refine .region ?_
  refine .boxL (cs := [.sl 124 .ro (a1.Spans.map pv124)]) ?_
  refine .assign ?_
  refine .nil ?_
  refine .seq ?_
  refine .region ?_
  refine .move ?_
  refine .val ?_
  refine .val ?_
  refine .lenL (f := pv124) ?_
  obtain ⟨y1, hy1, h⟩ := bindE h
  refine .cO (.row 1 4) (g70 hy1) (u := .sl 5 (.own (.row 1 4)) (y1.map (PV.int .u8))) ?_
  refine .assign ?_
  refine .nil ?_
  obtain ⟨j22, hj22, h⟩ := joinE h
  refine .cutI (fun T => (∃ (v20 : (List Int)), T = St.of [(0, .sl 5 (.own (.row 9021 0)) (v20.map (PV.int .u8)))] [] ∧ j22 v20 = some r)) ?_ ?_
  · refine .seq ?_
    refine .region ?_
    refine .val ?_
    refine .val ?_
    refine .lenL (f := pv124) ?_
    refine .move ?_
    refine .nil ?_
    refine .block ?_
    refine .loopI (fun m T => ∃ (v27 : (List Int)) (v29 : Int), T = St.of [(0, .sl 5 (.own (.row 9028 0)) (v27.map (PV.int .u8))), (13, .sl 124 .ro (a1.Spans.map pv124)), (14, .int .i64 (a1.Spans.length : Int)), (15, .int .i64 v29)] [] ∧ f71_l1 n a1 j22 m v27 v29 = some r) _ _ ⟨_, _, rfl, h⟩ (Imp.trans (Imp.swap (.row 1 4) (.row 9028 0) rfl rfl rfl) (imp_of (.cons rfl (.cons rfl (.cons rfl (.cons rfl (.nil))))) (.nil))) ?_
    rintro m37 T ⟨v27, v29, rfl, h⟩
    obtain _ | m37 := m37
    · rw [f71_l1] at h; cases h
    rw [f71_l1] at h
    refine .seq ?_
    refine .region ?_
    refine .val ?_
    refine .nil ?_
    refine .seq ?_
    refine .cond (fun hc39 => ?_) (fun hc39 => ?_)
    · replace h := (if_pos hc39).symm.trans h
      refine .skip ?_
      refine .seq ?_
      refine .block ?_
      refine .seq ?_
      refine .region ?_
      obtain ⟨x43, hx43, h⟩ := bindE h
      refine .idxL (f := pv124) hx43 ?_
      refine .ldL hx43 (y := .agg [.int .i64 x43.Lo, .int .i64 x43.Hi]) ?_
      refine .allocL (cs := [.int .i64 0, .int .i64 0]) ?_
      refine .wrL (cs := [.int .i64 x43.Lo, .int .i64 x43.Hi]) ?_
      refine .nil ?_
      refine .freeze (.row 9028 0) ?_
      obtain ⟨y44, hy44, h⟩ := bindE h
      obtain ⟨y45, hy45, h⟩ := bindE h
      refine .draw [8] [[], [], [], [], [], [], [], [], [], [8]] [[8], [8], [8], [8], [8], [8], [8], [8], [], []] [[], [8]]
        [(0, 0), (1, 0), (2, 0), (3, 0), (4, 0), (5, 0), (6, 0), (7, 0), (9, 1)] [(0, 8, 1)] 1
        [⟨[(19, .sl 5 .ro (v27.map (PV.int .u8))), (20, .ptr (.loc 4 2) 0), (21, .int .i64 x43.Lo), (22, .int .u32 (IntKind.wrap .u32 (x43.Lo))), (23, .sl 5 .ro (y44.map (PV.int .u8))), (24, .ptr (.loc 4 2) 1), (25, .int .i64 x43.Hi), (26, .int .u32 (IntKind.wrap .u32 (x43.Hi))), (6, .ptr (.loc 4 2) 0), (13, .sl 124 .ro (a1.Spans.map pv124)), (14, .int .i64 (a1.Spans.length : Int)), (15, .int .i64 v29)], [(0, .sl 5 .ro (v27.map (PV.int .u8)))], [((.loc 4 2), [.int .i64 x43.Lo, .int .i64 x43.Hi])]⟩,
        ⟨[(19, .sl 5 .ro (v27.map (PV.int .u8))), (20, .ptr (.loc 4 2) 0), (21, .int .i64 x43.Lo), (22, .int .u32 (IntKind.wrap .u32 (x43.Lo))), (23, .sl 5 .ro (y44.map (PV.int .u8))), (24, .ptr (.loc 4 2) 1), (25, .int .i64 x43.Hi), (26, .int .u32 (IntKind.wrap .u32 (x43.Hi))), (27, .sl 5 (.own (.row 5 8)) (y45.map (PV.int .u8))), (0, .sl 5 (.own (.row 5 8)) (y45.map (PV.int .u8))), (6, .ptr (.loc 4 2) 0), (13, .sl 124 .ro (a1.Spans.map pv124)), (14, .int .i64 (a1.Spans.length : Int)), (15, .int .i64 v29)], [(0, .sl 5 .ro (v27.map (PV.int .u8)))], [((.loc 4 2), [.int .i64 x43.Lo, .int .i64 x43.Hi])]⟩]
        [(6, .ptr (.loc 4 2) 0), (13, .sl 124 .ro (a1.Spans.map pv124)), (14, .int .i64 (a1.Spans.length : Int)), (15, .int .i64 v29)]
        (.cons [] [0] (fun _ _ h => .move (h _)) rfl rfl <|
        .cons [6] [] (fun _ _ h => .val (h _)) rfl rfl <|
        .cons [20] [] (fun _ _ h => .val (h _)) rfl rfl <|
        .cons [21] [] (fun _ _ h => .val (h _)) rfl rfl <|
        .cons [19, 22] [] (fun _ _ h => .cP (g26r hy44) (h _)) rfl rfl <|
        .cons [6] [] (fun _ _ h => .val (h _)) rfl rfl <|
        .cons [24] [] (fun _ _ h => .val (h _)) rfl rfl <|
        .cons [25] [] (fun _ _ h => .val (h _)) rfl rfl <|
        .cons [27] [] (fun _ _ h => .assign (h _)) rfl rfl <|
        .nil)
        (.cons (PV.sub (frzKill [] (.row 5 8))) [23, 26] [] (fun _ _ h => .cO (.row 5 8) (g26 hy45) (u := .sl 5 (.own (.row 5 8)) (y45.map (PV.int .u8))) (h _ _ (.cons rfl (.nil)))) rfl (.old rfl (.old rfl (.old rfl (.old rfl (.old rfl (.old rfl (.old rfl (.old rfl (.new rfl (.new rfl (.old rfl (.old rfl (.old rfl (.old rfl (.nil))))))))))))))) rfl rfl <|
        .nil)
        (by kernel_rfl) rfl (.cons rfl (.cons rfl (.cons rfl (.cons rfl (.nil))))) (.cons rfl (.nil)) (.cons rfl (.nil)) ?_
      refine .imp (T := St.of [(0, .sl 5 (.own (.row 5 8)) (y45.map (PV.int .u8))), (13, .sl 124 .ro (a1.Spans.map pv124)), (14, .int .i64 (a1.Spans.length : Int)), (15, .int .i64 v29)] []) (imp_of (.cons rfl (.cons rfl (.cons rfl (.cons rfl (.nil))))) (.nil)) ?_
      refine .region ?_
      refine .val ?_
      refine .move ?_
      refine .nil ?_
      exact ⟨m37, _, Nat.lt_succ_self m37, ⟨_, _, rfl, h⟩, (Imp.trans (Imp.swap (.row 5 8) (.row 9028 0) rfl rfl rfl) (imp_of (.cons rfl (.cons rfl (.cons rfl (.cons rfl (.nil))))) (.nil)))⟩
    · replace h := (if_neg (nt hc39)).symm.trans h
      refine .exit (.hit ?_)
      exact ⟨_, ⟨_, rfl, h⟩, (Imp.trans (Imp.swap (.row 9028 0) (.row 9021 0) rfl rfl rfl) (imp_of (.cons rfl (.nil)) (.nil)))⟩
  · rintro T ⟨v20, rfl, h⟩
    subst hj22
    refine .seq ?_
    refine .region ?_
    refine .move ?_
    refine .assign ?_
    refine .nil ?_
    cases h
    exact .ret (fin_gen0 (some (.row 9021 0)))
theorem g71r {n : Nat} {a0 : (List Int)} {a1 : IntSet} {r : (List Int)} (h : f71 n a0 a1 = some r) :
    Ab.Can Try.prog 71 [.sl 5 .ro (a0.map (PV.int .u8)), .agg [.sl 124 .ro (a1.Spans.map pv124)]] H0 (.sl 5 .ro (r.map (PV.int .u8))) H0 := Can.frzR (hq := []) (g71 h)

/- soundservice/soundserviceref11.putSet -/
def f89_l1 (n : Nat) (a1 : IntSet) (j22 : (List Int) → Option (List Int)) : Nat → (List Int) → Int → Option (List Int)
  | 0, _, _ => none
  | m37 + 1, v27, v29 =>
    if decide (v29 < (a1.Spans.length : Int)) then (
    (lAt a1.Spans v29).bind fun x43 =>
    (f27 n v27 (IntKind.wrap .u32 (x43.Lo))).bind fun y44 =>
    (f27 n y44 (IntKind.wrap .u32 (x43.Hi))).bind fun y45 =>
    f89_l1 n a1 j22 m37 y45 (w64 (v29 + (1 : Int))))
    else (
    j22 v27)
def f89 (n : Nat) (a0 : (List Int)) (a1 : IntSet) : Option (List Int) :=
  (f25 n a0 (IntKind.wrap .u16 ((a1.Spans.length : Int)))).bind fun y1 =>
  joinK (fun (v20 : (List Int)) =>
  some v20) fun j22 =>
  f89_l1 n a1 j22 n y1 0
set_option maxHeartbeats 4000000 in
set_option maxRecDepth 100000 in
theorem g89 {n : Nat} {a0 : (List Int)} {a1 : IntSet} {r : (List Int)} (h : f89 n a0 a1 = some r) :
    Ab.Can Try.prog 89 [.sl 5 .ro (a0.map (PV.int .u8)), .agg [.sl 124 .ro (a1.Spans.map pv124)]] H0 (.sl 5 (.own (.rrow 0)) (r.map (PV.int .u8))) H0 := by
  refine can_of tabOK mix Try.call89 Try.func89 rfl (by kernel_rfl) (by show _ ≤ 31; simp) fun _ => ?_
  rw [f89] at h
  refine .seq ?_
  refine .region ?_
  refine .boxL (cs := [.sl 124 .ro (a1.Spans.map pv124)]) ?_
  refine .assign ?_
  refine .nil ?_
  refine .seq ?_
  refine .region ?_
  refine .move ?_
  refine .val ?_
  refine .val ?_
  refine .lenL (f := pv124) ?_
  refine .val ?_
  obtain ⟨y1, hy1, h⟩ := bindE h
  refine .cO (.row 1 5) (g25 hy1) (u := .sl 5 (.own (.row 1 5)) (y1.map (PV.int .u8))) ?_
  refine .assign ?_
  refine .nil ?_
  obtain ⟨j22, hj22, h⟩ := joinE h
  refine .cutI (fun T => (∃ (v20 : (List Int)), T = St.of [(0, .sl 5 (.own (.row 9021 0)) (v20.map (PV.int .u8)))] [] ∧ j22 v20 = some r)) ?_ ?_
  · refine .seq ?_
    refine .region ?_
    refine .val ?_
    refine .val ?_
    refine .lenL (f := pv124) ?_
    refine .move ?_
    refine .nil ?_
    refine .block ?_
    refine .loopI (fun m T => ∃ (v27 : (List Int)) (v29 : Int), T = St.of [(0, .sl 5 (.own (.row 9028 0)) (v27.map (PV.int .u8))), (14, .sl 124 .ro (a1.Spans.map pv124)), (15, .int .i64 (a1.Spans.length : Int)), (16, .int .i64 v29)] [] ∧ f89_l1 n a1 j22 m v27 v29 = some r) _ _ ⟨_, _, rfl, h⟩ (Imp.trans (Imp.swap (.row 1 5) (.row 9028 0) rfl rfl rfl) (imp_of (.cons rfl (.cons rfl (.cons rfl (.cons rfl (.nil))))) (.nil))) ?_
    rintro m37 T ⟨v27, v29, rfl, h⟩
    obtain _ | m37 := m37
    · rw [f89_l1] at h; cases h
    rw [f89_l1] at h
    refine .seq ?_
    refine .region ?_
    refine .val ?_
    refine .nil ?_
    refine .seq ?_
    refine .cond (fun hc39 => ?_) (fun hc39 => ?_)
    · replace h := (if_pos hc39).symm.trans h
      refine .skip ?_
      refine .seq ?_
      refine .block ?_
      refine .seq ?_
      refine .region ?_
      obtain ⟨x43, hx43, h⟩ := bindE h
      refine .idxL (f := pv124) hx43 ?_
      refine .ldL hx43 (y := .agg [.int .i64 x43.Lo, .int .i64 x43.Hi]) ?_
      refine .allocL (cs := [.int .i64 0, .int .i64 0]) ?_
      refine .wrL (cs := [.int .i64 x43.Lo, .int .i64 x43.Hi]) ?_
      refine .nil ?_
      refine .freeze (.row 9028 0) ?_
      obtain ⟨y44, hy44, h⟩ := bindE h
      obtain ⟨y45, hy45, h⟩ := bindE h
      refine .draw [8] [[], [], [], [], [], [], [], [], [], [8]] [[8], [8], [8], [8], [8], [8], [8], [8], [], []] [[], [8]]
        [(0, 0), (1, 0), (2, 0), (3, 0), (4, 0), (5, 0), (6, 0), (7, 0), (9, 1)] [(0, 8, 1)] 1
        [⟨[(20, .sl 5 .ro (v27.map (PV.int .u8))), (21, .ptr (.loc 4 2) 0), (22, .int .i64 x43.Lo), (23, .int .u32 (IntKind.wrap .u32 (x43.Lo))), (24, .sl 5 .ro (y44.map (PV.int .u8))), (25, .ptr (.loc 4 2) 1), (26, .int .i64 x43.Hi), (27, .int .u32 (IntKind.wrap .u32 (x43.Hi))), (6, .ptr (.loc 4 2) 0), (14, .sl 124 .ro (a1.Spans.map pv124)), (15, .int .i64 (a1.Spans.length : Int)), (16, .int .i64 v29)], [(0, .sl 5 .ro (v27.map (PV.int .u8)))], [((.loc 4 2), [.int .i64 x43.Lo, .int .i64 x43.Hi])]⟩,
        ⟨[(20, .sl 5 .ro (v27.map (PV.int .u8))), (21, .ptr (.loc 4 2) 0), (22, .int .i64 x43.Lo), (23, .int .u32 (IntKind.wrap .u32 (x43.Lo))), (24, .sl 5 .ro (y44.map (PV.int .u8))), (25, .ptr (.loc 4 2) 1), (26, .int .i64 x43.Hi), (27, .int .u32 (IntKind.wrap .u32 (x43.Hi))), (28, .sl 5 (.own (.row 5 8)) (y45.map (PV.int .u8))), (0, .sl 5 (.own (.row 5 8)) (y45.map (PV.int .u8))), (6, .ptr (.loc 4 2) 0), (14, .sl 124 .ro (a1.Spans.map pv124)), (15, .int .i64 (a1.Spans.length : Int)), (16, .int .i64 v29)], [(0, .sl 5 .ro (v27.map (PV.int .u8)))], [((.loc 4 2), [.int .i64 x43.Lo, .int .i64 x43.Hi])]⟩]
        [(6, .ptr (.loc 4 2) 0), (14, .sl 124 .ro (a1.Spans.map pv124)), (15, .int .i64 (a1.Spans.length : Int)), (16, .int .i64 v29)]
        (.cons [] [0] (fun _ _ h => .move (h _)) rfl rfl <|
        .cons [6] [] (fun _ _ h => .val (h _)) rfl rfl <|
        .cons [21] [] (fun _ _ h => .val (h _)) rfl rfl <|
        .cons [22] [] (fun _ _ h => .val (h _)) rfl rfl <|
        .cons [20, 23] [] (fun _ _ h => .cP (g27r hy44) (h _)) rfl rfl <|
        .cons [6] [] (fun _ _ h => .val (h _)) rfl rfl <|
        .cons [25] [] (fun _ _ h => .val (h _)) rfl rfl <|
        .cons [26] [] (fun _ _ h => .val (h _)) rfl rfl <|
        .cons [28] [] (fun _ _ h => .assign (h _)) rfl rfl <|
        .nil)
        (.cons (PV.sub (frzKill [] (.row 5 8))) [24, 27] [] (fun _ _ h => .cO (.row 5 8) (g27 hy45) (u := .sl 5 (.own (.row 5 8)) (y45.map (PV.int .u8))) (h _ _ (.cons rfl (.nil)))) rfl (.old rfl (.old rfl (.old rfl (.old rfl (.old rfl (.old rfl (.old rfl (.old rfl (.new rfl (.new rfl (.old rfl (.old rfl (.old rfl (.old rfl (.nil))))))))))))))) rfl rfl <|
        .nil)
        (by kernel_rfl) rfl (.cons rfl (.cons rfl (.cons rfl (.cons rfl (.nil))))) (.cons rfl (.nil)) (.cons rfl (.nil)) ?_
      refine .imp (T := St.of [(0, .sl 5 (.own (.row 5 8)) (y45.map (PV.int .u8))), (14, .sl 124 .ro (a1.Spans.map pv124)), (15, .int .i64 (a1.Spans.length : Int)), (16, .int .i64 v29)] []) (imp_of (.cons rfl (.cons rfl (.cons rfl (.cons rfl (.nil))))) (.nil)) ?_
      refine .region ?_
      refine .val ?_
      refine .move ?_
      refine .nil ?_
      exact ⟨m37, _, Nat.lt_succ_self m37, ⟨_, _, rfl, h⟩, (Imp.trans (Imp.swap (.row 5 8) (.row 9028 0) rfl rfl rfl) (imp_of (.cons rfl (.cons rfl (.cons rfl (.cons rfl (.nil))))) (.nil)))⟩
    · replace h := (if_neg (nt hc39)).symm.trans h
      refine .exit (.hit ?_)
      exact ⟨_, ⟨_, rfl, h⟩, (Imp.trans (Imp.swap (.row 9028 0) (.row 9021 0) rfl rfl rfl) (imp_of (.cons rfl (.nil)) (.nil)))⟩
  · rintro T ⟨v20, rfl, h⟩
    subst hj22
    refine .seq ?_
    refine .region ?_
    refine .move ?_
    refine .assign ?_
    refine .nil ?_
    cases h
    exact .ret (fin_gen0 (some (.row 9021 0)))
theorem g89r {n : Nat} {a0 : (List Int)} {a1 : IntSet} {r : (List Int)} (h : f89 n a0 a1 = some r) :
    Ab.Can Try.prog 89 [.sl 5 .ro (a0.map (PV.int .u8)), .agg [.sl 124 .ro (a1.Spans.map pv124)]] H0 (.sl 5 .ro (r.map (PV.int .u8))) H0 := Can.frzR (hq := []) (g89 h)
end Go.Proofs.Ytcahjpkmldmjdaa
