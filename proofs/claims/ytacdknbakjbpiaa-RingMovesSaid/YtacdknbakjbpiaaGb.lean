/-
  Plain functions of ring, soundservicelaw17, soundserviceref17, and that the code does what they say.
-/
import Derived.Test.YtacdknbakjbpiaaGa
namespace Go.Proofs.Ytacdknbakjbpiaa
open Go Ab
/- soundservice/ring.Valid -/
def f31 (n : Nat) (a0 : Ring) : Option Bool :=
  joinK (fun (_ : Unit) =>
  some false) fun j12 =>
  joinK (fun (_ : Unit) =>
  if decide (a0.Written > (1125899906842624 : Int)) then (
  some false)
  else (
  (f70 n (⟨a0.Channels, a0.Data⟩ : Block)).bind fun y23 =>
  if y23 then (
  (iDiv .i64 (a0.Data.length : Int) a0.Channels).bind fun x25 =>
  if ((w64 (a0.Written - a0.Read)) == x25) then (
  some (decide ((w64 (a0.Written - a0.Read)) ≤ a0.Capacity)))
  else (
  some false))
  else (
  some false))) fun j13 =>
  if decide (a0.Capacity < (1 : Int)) then (
  j12 ())
  else (
  if decide (a0.Capacity > (65536 : Int)) then (
  j12 ())
  else (
  if decide (a0.Read < (0 : Int)) then (
  j12 ())
  else (
  if decide (a0.Read > a0.Written) then (
  j12 ())
  else (
  j13 ()))))
set_option maxHeartbeats 4000000 in
set_option maxRecDepth 100000 in
theorem g31 {n : Nat} {a0 : Ring} {r : Bool} (h : f31 n a0 = some r) :
    Ab.Can Try.prog 31 [.agg [.int .i64 a0.Channels, .int .i64 a0.Capacity, .int .i64 a0.Written, .int .i64 a0.Read, .sl 21 .ro (a0.Data.map (PV.int .i32))]] H0 (.bool r) H0 := by
  refine can_of tabOK mix Try.call31 Try.func31 rfl (by kernel_rfl) (by show _ ≤ 60; simp) fun _ => ?_
  rw [f31] at h
  refine .seq ?_
  refine .region ?_
  refine .boxL (cs := [.int .i64 a0.Channels, .int .i64 a0.Capacity, .int .i64 a0.Written, .int .i64 a0.Read, .sl 21 .ro (a0.Data.map (PV.int .i32))]) ?_
  refine .assign ?_
  refine .nil ?_
  refine .seq ?_
  obtain ⟨j12, hj12, h⟩ := joinE h
  obtain ⟨j13, hj13, h⟩ := joinE h
  refine .cutI (fun T => (T = St.of [(1, .ptr (.loc 0 0) 0), (28, .bool true)] [((.loc 0 0), [.int .i64 a0.Channels, .int .i64 a0.Capacity, .int .i64 a0.Written, .int .i64 a0.Read, .sl 21 .ro (a0.Data.map (PV.int .i32))])] ∧ j12 () = some r) ∨ (T = St.of [(1, .ptr (.loc 0 0) 0), (28, .bool (decide (a0.Written > (1125899906842624 : Int))))] [((.loc 0 0), [.int .i64 a0.Channels, .int .i64 a0.Capacity, .int .i64 a0.Written, .int .i64 a0.Read, .sl 21 .ro (a0.Data.map (PV.int .i32))])] ∧ j13 () = some r)) ?_ ?_
  · refine .region ?_
    refine .val ?_
    refine .val ?_
    refine .val ?_
    refine .move ?_
    refine .caseG (fun hc14 => ?_) (fun hc14 => ?_)
    · replace h := (if_pos hc14).symm.trans h
      refine .skip ?_
      refine .skip ?_
      refine .skip ?_
      refine .brT ?_
      refine .move ?_
      refine .skip ?_
      refine .skip ?_
      refine .skip ?_
      refine .brT ?_
      refine .move ?_
      refine .skip ?_
      refine .skip ?_
      refine .skip ?_
      refine .skip ?_
      refine .skip ?_
      refine .brT ?_
      refine .move ?_
      refine .skip ?_
      refine .skip ?_
      refine .skip ?_
      refine .brT ?_
      refine .nil ?_
      exact ⟨_, (.inl ⟨rfl, h⟩), (imp_of (.cons rfl (.cons rfl (.nil))) (.cons rfl (.nil)))⟩
    · replace h := (if_neg (nt hc14)).symm.trans h
      refine .val ?_
      refine .val ?_
      refine .val ?_
      refine .brF ?_
      refine .move ?_
      refine .caseG (fun hc15 => ?_) (fun hc15 => ?_)
      · replace h := (if_pos hc15).symm.trans h
        refine .skip ?_
        refine .skip ?_
        refine .skip ?_
        refine .brT ?_
        refine .move ?_
        refine .skip ?_
        refine .skip ?_
        refine .skip ?_
        refine .skip ?_
        refine .skip ?_
        refine .brT ?_
        refine .move ?_
        refine .skip ?_
        refine .skip ?_
        refine .skip ?_
        refine .brT ?_
        refine .nil ?_
        exact ⟨_, (.inl ⟨rfl, h⟩), (imp_of (.cons rfl (.cons rfl (.nil))) (.cons rfl (.nil)))⟩
      · replace h := (if_neg (nt hc15)).symm.trans h
        refine .val ?_
        refine .val ?_
        refine .val ?_
        refine .brF ?_
        refine .move ?_
        refine .caseG (fun hc16 => ?_) (fun hc16 => ?_)
        · replace h := (if_pos hc16).symm.trans h
          refine .skip ?_
          refine .skip ?_
          refine .skip ?_
          refine .skip ?_
          refine .skip ?_
          refine .brT ?_
          refine .move ?_
          refine .skip ?_
          refine .skip ?_
          refine .skip ?_
          refine .brT ?_
          refine .nil ?_
          exact ⟨_, (.inl ⟨rfl, h⟩), (imp_of (.cons rfl (.cons rfl (.nil))) (.cons rfl (.nil)))⟩
        · replace h := (if_neg (nt hc16)).symm.trans h
          refine .val ?_
          refine .val ?_
          refine .val ?_
          refine .val ?_
          refine .val ?_
          refine .brF ?_
          refine .move ?_
          refine .caseG (fun hc17 => ?_) (fun hc17 => ?_)
          · replace h := (if_pos hc17).symm.trans h
            refine .skip ?_
            refine .skip ?_
            refine .skip ?_
            refine .brT ?_
            refine .nil ?_
            exact ⟨_, (.inl ⟨rfl, h⟩), (imp_of (.cons rfl (.cons rfl (.nil))) (.cons rfl (.nil)))⟩
          · replace h := (if_neg (nt hc17)).symm.trans h
            refine .val ?_
            refine .val ?_
            refine .val ?_
            refine .brF ?_
            refine .nil ?_
            exact ⟨_, (.inr (⟨rfl, h⟩)), (imp_of (.cons rfl (.cons rfl (.nil))) (.cons rfl (.nil)))⟩
  · rintro T (⟨rfl, h⟩ | ⟨rfl, h⟩)
    · subst hj12
      refine .condT ?_
      refine .seq ?_
      refine .region ?_
      refine .assign ?_
      refine .nil ?_
      cases h
      exact .ret (fin_gen0 none)
    · subst hj13
      refine .cond (fun hc18 => ?_) (fun hc18 => ?_)
      · replace h := (if_pos hc18).symm.trans h
        refine .seq ?_
        refine .region ?_
        refine .assign ?_
        refine .nil ?_
        cases h
        exact .ret (fin_gen0 none)
      · replace h := (if_neg (nt hc18)).symm.trans h
        refine .skip ?_
        refine .seq ?_
        refine .region ?_
        refine .val ?_
        refine .val ?_
        refine .val ?_
        refine .val ?_
        refine .buildL (cs := [.int .i64 a0.Channels, .sl 21 .ro (a0.Data.map (PV.int .i32))]) ?_
        refine .allocL (cs := [.int .i64 0, .sl 21 .full []]) ?_
        refine .wrL (cs := [.int .i64 a0.Channels, .sl 21 .ro (a0.Data.map (PV.int .i32))]) ?_
        refine .nil ?_
        refine .seq ?_
        obtain ⟨y23, hy23, h⟩ := bindE h
        rcases bool_em (y23) with hc24 | hc24
        · replace h := (if_pos hc24).symm.trans h
          obtain ⟨x25, hx25, h⟩ := bindE h
          rcases bool_em (((w64 (a0.Written - a0.Read)) == x25)) with hc26 | hc26
          · replace h := (if_pos hc26).symm.trans h
            refine .draw [] [[], [], [], [], [], [], [], [], [], [], [], [], [], [], [], [], [], [], [], [], [], [], [], [], [], [], []] [[], [], [], [], [], [], [], [], [], [], [], [], [], [], [], [], [], [], [], [], [], [], [], [], [], [], []] [[]]
              [(0, 0), (1, 0), (2, 0), (3, 0), (4, 0), (5, 0), (6, 0), (7, 0), (8, 0), (9, 0), (10, 0), (11, 0), (12, 0), (13, 0), (14, 0), (15, 0), (16, 0), (17, 0), (18, 0), (19, 0), (20, 0), (21, 0), (22, 0), (23, 0), (24, 0), (25, 0), (26, 0)] [] 0
              [⟨[(34, .agg [.int .i64 a0.Channels, .sl 21 .ro (a0.Data.map (PV.int .i32))]), (35, .bool true), (36, .bool true), (37, .ptr (.loc 0 0) 2), (38, .int .i64 a0.Written), (39, .ptr (.loc 0 0) 3), (40, .int .i64 a0.Read), (41, .int .i64 (w64 (a0.Written - a0.Read))), (42, .ptr (.loc 0 0) 4), (43, .sl 21 .ro (a0.Data.map (PV.int .i32))), (44, .int .i64 (a0.Data.length : Int)), (45, .ptr (.loc 0 0) 0), (46, .int .i64 a0.Channels), (47, .int .i64 x25), (48, .bool true), (49, .bool true), (50, .bool true), (51, .ptr (.loc 0 0) 2), (52, .int .i64 a0.Written), (53, .ptr (.loc 0 0) 3), (54, .int .i64 a0.Read), (55, .int .i64 (w64 (a0.Written - a0.Read))), (56, .ptr (.loc 0 0) 1), (57, .int .i64 a0.Capacity), (58, .bool (decide ((w64 (a0.Written - a0.Read)) ≤ a0.Capacity))), (59, .bool (decide ((w64 (a0.Written - a0.Read)) ≤ a0.Capacity))), (2, .bool (decide ((w64 (a0.Written - a0.Read)) ≤ a0.Capacity))), (1, .ptr (.loc 0 0) 0), (3, .ptr (.loc 3 5) 0)], [], [((.loc 0 0), [.int .i64 a0.Channels, .int .i64 a0.Capacity, .int .i64 a0.Written, .int .i64 a0.Read, .sl 21 .ro (a0.Data.map (PV.int .i32))]), ((.loc 3 5), [.int .i64 a0.Channels, .sl 21 .ro (a0.Data.map (PV.int .i32))])]⟩]
              [(1, .ptr (.loc 0 0) 0), (3, .ptr (.loc 3 5) 0)]
              (.cons [3] [] (fun _ _ h => .val (h _)) rfl rfl <|
              .cons [34] [] (fun _ _ h => .cP (g70 hy23) (by rw [hc24]; exact h _)) rfl rfl <|
              .cons [35] [] (fun _ _ h => .move (h _)) rfl rfl <|
              .cons [1, 36] [] (fun _ _ h => .val (h _)) rfl rfl <|
              .cons [37, 36] [] (fun _ _ h => .val (h _)) rfl rfl <|
              .cons [1, 36] [] (fun _ _ h => .val (h _)) rfl rfl <|
              .cons [39, 36] [] (fun _ _ h => .val (h _)) rfl rfl <|
              .cons [38, 40, 36] [] (fun _ _ h => .val (h _)) rfl rfl <|
              .cons [1, 36] [] (fun _ _ h => .val (h _)) rfl rfl <|
              .cons [42, 36] [] (fun _ _ h => .val (h _)) rfl rfl <|
              .cons [43, 36] [] (fun _ _ h => .lenL (f := (PV.int .i32)) (h _)) rfl rfl <|
              .cons [1, 36] [] (fun _ _ h => .val (h _)) rfl rfl <|
              .cons [45, 36] [] (fun _ _ h => .val (h _)) rfl rfl <|
              .cons [44, 46, 36] [] (fun _ _ h => .divL hx25 (h _)) rfl rfl <|
              .cons [41, 47, 36] [] (fun _ _ h => .valB hc26 (h _)) rfl rfl <|
              .cons [36, 48] [] (fun _ _ h => .brT (h _)) rfl rfl <|
              .cons [49] [] (fun _ _ h => .move (h _)) rfl rfl <|
              .cons [1, 50] [] (fun _ _ h => .val (h _)) rfl rfl <|
              .cons [51, 50] [] (fun _ _ h => .val (h _)) rfl rfl <|
              .cons [1, 50] [] (fun _ _ h => .val (h _)) rfl rfl <|
              .cons [53, 50] [] (fun _ _ h => .val (h _)) rfl rfl <|
              .cons [52, 54, 50] [] (fun _ _ h => .val (h _)) rfl rfl <|
              .cons [1, 50] [] (fun _ _ h => .val (h _)) rfl rfl <|
              .cons [56, 50] [] (fun _ _ h => .val (h _)) rfl rfl <|
              .cons [55, 57, 50] [] (fun _ _ h => .val (h _)) rfl rfl <|
              .cons [50, 58] [] (fun _ _ h => .brT (h _)) rfl rfl <|
              .cons [59] [] (fun _ _ h => .assign (h _)) rfl rfl <|
              .nil)
              (.nil)
              (by kernel_rfl) rfl (.cons rfl (.cons rfl (.nil))) (.nil) (.cons rfl (.cons rfl (.nil))) ?_
            cases h
            exact .ret (fin_gen0 none)
          · replace h := (if_neg (nt hc26)).symm.trans h
            refine .draw [] [[], [], [], [], [], [], [], [], [], [], [], [], [], [], [], [], [], [], [], [], [], [], [], [], [], [], []] [[], [], [], [], [], [], [], [], [], [], [], [], [], [], [], [], [], [], [], [], [], [], [], [], [], [], []] [[]]
              [(0, 0), (1, 0), (2, 0), (3, 0), (4, 0), (5, 0), (6, 0), (7, 0), (8, 0), (9, 0), (10, 0), (11, 0), (12, 0), (13, 0), (14, 0), (15, 0), (16, 0), (17, 0), (18, 0), (19, 0), (20, 0), (21, 0), (22, 0), (23, 0), (24, 0), (25, 0), (26, 0)] [] 0
              [⟨[(34, .agg [.int .i64 a0.Channels, .sl 21 .ro (a0.Data.map (PV.int .i32))]), (35, .bool true), (36, .bool true), (37, .ptr (.loc 0 0) 2), (38, .int .i64 a0.Written), (39, .ptr (.loc 0 0) 3), (40, .int .i64 a0.Read), (41, .int .i64 (w64 (a0.Written - a0.Read))), (42, .ptr (.loc 0 0) 4), (43, .sl 21 .ro (a0.Data.map (PV.int .i32))), (44, .int .i64 (a0.Data.length : Int)), (45, .ptr (.loc 0 0) 0), (46, .int .i64 a0.Channels), (47, .int .i64 x25), (48, .bool false), (49, .bool false), (50, .bool false), (51, .tup []), (52, .tup []), (53, .tup []), (54, .tup []), (55, .tup []), (56, .tup []), (57, .tup []), (58, .tup []), (59, .bool false), (2, .bool false), (1, .ptr (.loc 0 0) 0), (3, .ptr (.loc 3 5) 0)], [], [((.loc 0 0), [.int .i64 a0.Channels, .int .i64 a0.Capacity, .int .i64 a0.Written, .int .i64 a0.Read, .sl 21 .ro (a0.Data.map (PV.int .i32))]), ((.loc 3 5), [.int .i64 a0.Channels, .sl 21 .ro (a0.Data.map (PV.int .i32))])]⟩]
              [(1, .ptr (.loc 0 0) 0), (3, .ptr (.loc 3 5) 0)]
              (.cons [3] [] (fun _ _ h => .val (h _)) rfl rfl <|
              .cons [34] [] (fun _ _ h => .cP (g70 hy23) (by rw [hc24]; exact h _)) rfl rfl <|
              .cons [35] [] (fun _ _ h => .move (h _)) rfl rfl <|
              .cons [1, 36] [] (fun _ _ h => .val (h _)) rfl rfl <|
              .cons [37, 36] [] (fun _ _ h => .val (h _)) rfl rfl <|
              .cons [1, 36] [] (fun _ _ h => .val (h _)) rfl rfl <|
              .cons [39, 36] [] (fun _ _ h => .val (h _)) rfl rfl <|
              .cons [38, 40, 36] [] (fun _ _ h => .val (h _)) rfl rfl <|
              .cons [1, 36] [] (fun _ _ h => .val (h _)) rfl rfl <|
              .cons [42, 36] [] (fun _ _ h => .val (h _)) rfl rfl <|
              .cons [43, 36] [] (fun _ _ h => .lenL (f := (PV.int .i32)) (h _)) rfl rfl <|
              .cons [1, 36] [] (fun _ _ h => .val (h _)) rfl rfl <|
              .cons [45, 36] [] (fun _ _ h => .val (h _)) rfl rfl <|
              .cons [44, 46, 36] [] (fun _ _ h => .divL hx25 (h _)) rfl rfl <|
              .cons [41, 47, 36] [] (fun _ _ h => .valB hc26 (h _)) rfl rfl <|
              .cons [36, 48] [] (fun _ _ h => .brT (h _)) rfl rfl <|
              .cons [49] [] (fun _ _ h => .move (h _)) rfl rfl <|
              .cons [50] [] (fun _ _ h => .skip (h _)) rfl rfl <|
              .cons [50] [] (fun _ _ h => .skip (h _)) rfl rfl <|
              .cons [50] [] (fun _ _ h => .skip (h _)) rfl rfl <|
              .cons [50] [] (fun _ _ h => .skip (h _)) rfl rfl <|
              .cons [50] [] (fun _ _ h => .skip (h _)) rfl rfl <|
              .cons [50] [] (fun _ _ h => .skip (h _)) rfl rfl <|
              .cons [50] [] (fun _ _ h => .skip (h _)) rfl rfl <|
              .cons [50] [] (fun _ _ h => .skip (h _)) rfl rfl <|
              .cons [50, 58] [] (fun _ _ h => .brF (h _)) rfl rfl <|
              .cons [59] [] (fun _ _ h => .assign (h _)) rfl rfl <|
              .nil)
              (.nil)
              (by kernel_rfl) rfl (.cons rfl (.cons rfl (.nil))) (.nil) (.cons rfl (.cons rfl (.nil))) ?_
            cases h
            exact .ret (fin_gen0 none)
        · replace h := (if_neg (nt hc24)).symm.trans h
          refine .draw [] [[], [], [], [], [], [], [], [], [], [], [], [], [], [], [], [], [], [], [], [], [], [], [], [], [], [], []] [[], [], [], [], [], [], [], [], [], [], [], [], [], [], [], [], [], [], [], [], [], [], [], [], [], [], []] [[]]
            [(0, 0), (1, 0), (2, 0), (3, 0), (4, 0), (5, 0), (6, 0), (7, 0), (8, 0), (9, 0), (10, 0), (11, 0), (12, 0), (13, 0), (14, 0), (15, 0), (16, 0), (17, 0), (18, 0), (19, 0), (20, 0), (21, 0), (22, 0), (23, 0), (24, 0), (25, 0), (26, 0)] [] 0
            [⟨[(34, .agg [.int .i64 a0.Channels, .sl 21 .ro (a0.Data.map (PV.int .i32))]), (35, .bool false), (36, .bool false), (37, .tup []), (38, .tup []), (39, .tup []), (40, .tup []), (41, .tup []), (42, .tup []), (43, .tup []), (44, .tup []), (45, .tup []), (46, .tup []), (47, .tup []), (48, .tup []), (49, .bool false), (50, .bool false), (51, .tup []), (52, .tup []), (53, .tup []), (54, .tup []), (55, .tup []), (56, .tup []), (57, .tup []), (58, .tup []), (59, .bool false), (2, .bool false), (1, .ptr (.loc 0 0) 0), (3, .ptr (.loc 3 5) 0)], [], [((.loc 0 0), [.int .i64 a0.Channels, .int .i64 a0.Capacity, .int .i64 a0.Written, .int .i64 a0.Read, .sl 21 .ro (a0.Data.map (PV.int .i32))]), ((.loc 3 5), [.int .i64 a0.Channels, .sl 21 .ro (a0.Data.map (PV.int .i32))])]⟩]
            [(1, .ptr (.loc 0 0) 0), (3, .ptr (.loc 3 5) 0)]
            (.cons [3] [] (fun _ _ h => .val (h _)) rfl rfl <|
            .cons [34] [] (fun _ _ h => .cP (g70 hy23) (by rw [hc24]; exact h _)) rfl rfl <|
            .cons [35] [] (fun _ _ h => .move (h _)) rfl rfl <|
            .cons [36] [] (fun _ _ h => .skip (h _)) rfl rfl <|
            .cons [36] [] (fun _ _ h => .skip (h _)) rfl rfl <|
            .cons [36] [] (fun _ _ h => .skip (h _)) rfl rfl <|
            .cons [36] [] (fun _ _ h => .skip (h _)) rfl rfl <|
            .cons [36] [] (fun _ _ h => .skip (h _)) rfl rfl <|
            .cons [36] [] (fun _ _ h => .skip (h _)) rfl rfl <|
            .cons [36] [] (fun _ _ h => .skip (h _)) rfl rfl <|
            .cons [36] [] (fun _ _ h => .skip (h _)) rfl rfl <|
            .cons [36] [] (fun _ _ h => .skip (h _)) rfl rfl <|
            .cons [36] [] (fun _ _ h => .skip (h _)) rfl rfl <|
            .cons [36] [] (fun _ _ h => .skip (h _)) rfl rfl <|
            .cons [36] [] (fun _ _ h => .skip (h _)) rfl rfl <|
            .cons [36, 48] [] (fun _ _ h => .brF (h _)) rfl rfl <|
            .cons [49] [] (fun _ _ h => .move (h _)) rfl rfl <|
            .cons [50] [] (fun _ _ h => .skip (h _)) rfl rfl <|
            .cons [50] [] (fun _ _ h => .skip (h _)) rfl rfl <|
            .cons [50] [] (fun _ _ h => .skip (h _)) rfl rfl <|
            .cons [50] [] (fun _ _ h => .skip (h _)) rfl rfl <|
            .cons [50] [] (fun _ _ h => .skip (h _)) rfl rfl <|
            .cons [50] [] (fun _ _ h => .skip (h _)) rfl rfl <|
            .cons [50] [] (fun _ _ h => .skip (h _)) rfl rfl <|
            .cons [50] [] (fun _ _ h => .skip (h _)) rfl rfl <|
            .cons [50, 58] [] (fun _ _ h => .brF (h _)) rfl rfl <|
            .cons [59] [] (fun _ _ h => .assign (h _)) rfl rfl <|
            .nil)
            (.nil)
            (by kernel_rfl) rfl (.cons rfl (.cons rfl (.nil))) (.nil) (.cons rfl (.cons rfl (.nil))) ?_
          cases h
          exact .ret (fin_gen0 none)

/- soundservice/ring.New -/
def f15 (n : Nat) (a0 : Int) (a1 : Int) : Option (Ring × Int) :=
  (f31 n (⟨a0, a1, 0, 0, ([] : List Int)⟩ : Ring)).bind fun y3 =>
  if !y3 then (
  some ((⟨0, 0, 0, 0, ([] : List Int)⟩ : Ring), 2))
  else (
  some ((⟨a0, a1, 0, 0, ([] : List Int)⟩ : Ring), 0))
set_option maxHeartbeats 4000000 in
set_option maxRecDepth 100000 in
theorem g15 {n : Nat} {a0 : Int} {a1 : Int} {r : (Ring × Int)} (h : f15 n a0 a1 = some r) :
    Ab.Can Try.prog 15 [.int .i64 a0, .int .i64 a1] H0 (.tup [.agg [.int .i64 r.1.Channels, .int .i64 r.1.Capacity, .int .i64 r.1.Written, .int .i64 r.1.Read, .sl 21 .ro (r.1.Data.map (PV.int .i32))], .int .i64 r.2]) H0 := by
  refine can_of tabOK mix Try.call15 Try.func15 rfl (by kernel_rfl) (by show _ ≤ 15; simp) fun _ => ?_
  rw [f15] at h
  refine .seq ?_
  refine .region ?_
  refine .allocL (cs := [.int .i64 0, .int .i64 0, .int .i64 0, .int .i64 0, .sl 21 .full []]) ?_
  refine .assign ?_
  refine .nil ?_
  refine .seq ?_
  refine .region ?_
  refine .move ?_
  refine .move ?_
  refine .buildL (cs := [.int .i64 a0, .int .i64 a1, .int .i64 0, .int .i64 0, .sl 21 .full []]) ?_
  refine .allocL (cs := [.int .i64 0, .int .i64 0, .int .i64 0, .int .i64 0, .sl 21 .full []]) ?_
  refine .wrL (cs := [.int .i64 a0, .int .i64 a1, .int .i64 0, .int .i64 0, .sl 21 .full []]) ?_
  refine .nil ?_
  refine .seq ?_
  refine .seq ?_
  refine .region ?_
  refine .val (v := .agg [.int .i64 a0, .int .i64 a1, .int .i64 0, .int .i64 0, .sl 21 .full []]) ?_
  obtain ⟨y3, hy3, h⟩ := bindE h
  refine .cP (g31 hy3) ?_
  refine .val ?_
  refine .nil ?_
  refine .cond (fun hc4 => ?_) (fun hc4 => ?_)
  · replace h := (if_pos hc4).symm.trans h
    refine .seq ?_
    refine .region ?_
    refine .buildL (cs := [.int .i64 0, .int .i64 0, .int .i64 0, .int .i64 0, .sl 21 .full []]) ?_
    refine .wrL (cs := [.int .i64 0, .int .i64 0, .int .i64 0, .int .i64 0, .sl 21 .full []]) ?_
    refine .assign ?_
    refine .nil ?_
    cases h
    refine .imp (Imp.cell (.loc 0 0) (ds := [.int .i64 0, .int .i64 0, .int .i64 0, .int .i64 0, .sl 21 .ro (([] : List Int).map (PV.int .i32))]) (.cons (.refl _) rfl (.cons (.refl _) rfl (.cons (.refl _) rfl (.cons (.refl _) rfl (.cons (.ro _ _) rfl (.nil)))))) rfl) ?_
    exact .ret (fin_gen0 none)
  · replace h := (if_neg (nt hc4)).symm.trans h
    refine .skip ?_
    refine .seq ?_
    refine .region ?_
    refine .val (v := .agg [.int .i64 a0, .int .i64 a1, .int .i64 0, .int .i64 0, .sl 21 .full []]) ?_
    refine .wrL (cs := [.int .i64 a0, .int .i64 a1, .int .i64 0, .int .i64 0, .sl 21 .full []]) ?_
    refine .assign ?_
    refine .nil ?_
    cases h
    refine .imp (Imp.cell (.loc 0 0) (ds := [.int .i64 a0, .int .i64 a1, .int .i64 0, .int .i64 0, .sl 21 .ro (([] : List Int).map (PV.int .i32))]) (.cons (.refl _) rfl (.cons (.refl _) rfl (.cons (.refl _) rfl (.cons (.refl _) rfl (.cons (.ro _ _) rfl (.nil)))))) rfl) ?_
    exact .ret (fin_gen0 none)

/- soundservice/ring.Fill -/
def f18 (n : Nat) (a0 : Ring) : Option Int :=
  (f31 n (⟨a0.Channels, a0.Capacity, a0.Written, a0.Read, a0.Data⟩ : Ring)).bind fun y3 =>
  if !y3 then (
  some 0)
  else (
  some (w64 (a0.Written - a0.Read)))
set_option maxHeartbeats 4000000 in
set_option maxRecDepth 100000 in
theorem g18 {n : Nat} {a0 : Ring} {r : Int} (h : f18 n a0 = some r) :
    Ab.Can Try.prog 18 [.agg [.int .i64 a0.Channels, .int .i64 a0.Capacity, .int .i64 a0.Written, .int .i64 a0.Read, .sl 21 .ro (a0.Data.map (PV.int .i32))]] H0 (.int .i64 r) H0 := by
  refine can_of tabOK mix Try.call18 Try.func18 rfl (by kernel_rfl) (by show _ ≤ 11; simp) fun _ => ?_
  rw [f18] at h
  refine .seq ?_
  refine .region ?_
  refine .boxL (cs := [.int .i64 a0.Channels, .int .i64 a0.Capacity, .int .i64 a0.Written, .int .i64 a0.Read, .sl 21 .ro (a0.Data.map (PV.int .i32))]) ?_
  refine .assign ?_
  refine .nil ?_
  refine .seq ?_
  refine .seq ?_
  refine .region ?_
  refine .val (v := .agg [.int .i64 a0.Channels, .int .i64 a0.Capacity, .int .i64 a0.Written, .int .i64 a0.Read, .sl 21 .ro (a0.Data.map (PV.int .i32))]) ?_
  obtain ⟨y3, hy3, h⟩ := bindE h
  refine .cP (g31 hy3) ?_
  refine .val ?_
  refine .nil ?_
  refine .cond (fun hc4 => ?_) (fun hc4 => ?_)
  · replace h := (if_pos hc4).symm.trans h
    refine .seq ?_
    refine .region ?_
    refine .assign ?_
    refine .nil ?_
    cases h
    exact .ret (fin_gen0 none)
  · replace h := (if_neg (nt hc4)).symm.trans h
    refine .skip ?_
    refine .seq ?_
    refine .region ?_
    refine .val ?_
    refine .val ?_
    refine .val ?_
    refine .val ?_
    refine .val ?_
    refine .assign ?_
    refine .nil ?_
    cases h
    exact .ret (fin_gen0 none)

/- soundservice/ring.Write -/
def f16 (n : Nat) (a0 : Ring) (a1 : Block) : Option (Ring × Int × Int) :=
  joinK (fun (_ : Unit) =>
  some ((⟨0, 0, 0, 0, ([] : List Int)⟩ : Ring), 0, 1)) fun j11 =>
  joinK (fun (v12 : Bool) =>
  if v12 then (
  some ((⟨0, 0, 0, 0, ([] : List Int)⟩ : Ring), 0, 1))
  else (
  if (a1.Channels != a0.Channels) then (
  some ((⟨0, 0, 0, 0, ([] : List Int)⟩ : Ring), 0, 11))
  else (
  (iDiv .i64 (a1.Data.length : Int) a1.Channels).bind fun x20 =>
  (f18 n (⟨a0.Channels, a0.Capacity, a0.Written, a0.Read, a0.Data⟩ : Ring)).bind fun y21 =>
  if decide ((w64 (a0.Written + (iMin x20 (w64 (a0.Capacity - y21))))) > (1125899906842624 : Int)) then (
  some ((⟨0, 0, 0, 0, ([] : List Int)⟩ : Ring), 0, 2))
  else (
  (lPart a1.Data (0 : Int) (w64 ((iMin x20 (w64 (a0.Capacity - y21))) * a1.Channels))).bind fun x24 =>
  (f71 n ([a0.Data, x24] : List (List Int))).bind fun y25 =>
  some ((⟨a0.Channels, a0.Capacity, w64 (a0.Written + (iMin x20 (w64 (a0.Capacity - y21)))), a0.Read, y25⟩ : Ring), w64 (x20 - (iMin x20 (w64 (a0.Capacity - y21)))), 0))))) fun j13 =>
  (f31 n (⟨a0.Channels, a0.Capacity, a0.Written, a0.Read, a0.Data⟩ : Ring)).bind fun y14 =>
  if !y14 then (
  j11 ())
  else (
  (f70 n (⟨a1.Channels, a1.Data⟩ : Block)).bind fun y16 =>
  j13 (!y16))
set_option maxHeartbeats 4000000 in
set_option maxRecDepth 100000 in
theorem g16 {n : Nat} {a0 : Ring} {a1 : Block} {r : (Ring × Int × Int)} (h : f16 n a0 a1 = some r) :
    Ab.Can Try.prog 16 [.agg [.int .i64 a0.Channels, .int .i64 a0.Capacity, .int .i64 a0.Written, .int .i64 a0.Read, .sl 21 .ro (a0.Data.map (PV.int .i32))], .agg [.int .i64 a1.Channels, .sl 21 .ro (a1.Data.map (PV.int .i32))]] H0 (.tup [.agg [.int .i64 r.1.Channels, .int .i64 r.1.Capacity, .int .i64 r.1.Written, .int .i64 r.1.Read, .sl 21 .ro (r.1.Data.map (PV.int .i32))], .int .i64 r.2.1, .int .i64 r.2.2]) H0 := by
  refine can_of tabOK mix Try.call16 Try.func16 rfl (by kernel_rfl) (by show _ ≤ 68; simp) fun _ => ?_
  rw [f16] at h
  refine .seq ?_
  refine .region ?_
  refine .boxL (cs := [.int .i64 a0.Channels, .int .i64 a0.Capacity, .int .i64 a0.Written, .int .i64 a0.Read, .sl 21 .ro (a0.Data.map (PV.int .i32))]) ?_
  refine .boxL (cs := [.int .i64 a1.Channels, .sl 21 .ro (a1.Data.map (PV.int .i32))]) ?_
  refine .allocL (cs := [.int .i64 0, .int .i64 0, .int .i64 0, .int .i64 0, .sl 21 .full []]) ?_
  refine .assign ?_
  refine .assign ?_
  refine .nil ?_
  refine .seq ?_
  obtain ⟨j11, hj11, h⟩ := joinE h
  obtain ⟨j13, hj13, h⟩ := joinE h
  refine .cutI (fun T => (T = St.of [(2, .ptr (.loc 0 0) 0), (3, .ptr (.loc 0 1) 0), (4, .ptr (.loc 0 2) 0), (16, .bool true)] [((.loc 0 0), [.int .i64 a0.Channels, .int .i64 a0.Capacity, .int .i64 a0.Written, .int .i64 a0.Read, .sl 21 .ro (a0.Data.map (PV.int .i32))]), ((.loc 0 1), [.int .i64 a1.Channels, .sl 21 .ro (a1.Data.map (PV.int .i32))]), ((.loc 0 2), [.int .i64 0, .int .i64 0, .int .i64 0, .int .i64 0, .sl 21 .full []])] ∧ j11 () = some r) ∨ (∃ (v12 : Bool), T = St.of [(2, .ptr (.loc 0 0) 0), (3, .ptr (.loc 0 1) 0), (4, .ptr (.loc 0 2) 0), (16, .bool v12)] [((.loc 0 0), [.int .i64 a0.Channels, .int .i64 a0.Capacity, .int .i64 a0.Written, .int .i64 a0.Read, .sl 21 .ro (a0.Data.map (PV.int .i32))]), ((.loc 0 1), [.int .i64 a1.Channels, .sl 21 .ro (a1.Data.map (PV.int .i32))]), ((.loc 0 2), [.int .i64 0, .int .i64 0, .int .i64 0, .int .i64 0, .sl 21 .full []])] ∧ j13 v12 = some r)) ?_ ?_
  · refine .region ?_
    refine .val (v := .agg [.int .i64 a0.Channels, .int .i64 a0.Capacity, .int .i64 a0.Written, .int .i64 a0.Read, .sl 21 .ro (a0.Data.map (PV.int .i32))]) ?_
    obtain ⟨y14, hy14, h⟩ := bindE h
    refine .cP (g31 hy14) ?_
    refine .val ?_
    refine .move ?_
    refine .caseG (fun hc15 => ?_) (fun hc15 => ?_)
    · replace h := (if_pos hc15).symm.trans h
      refine .skip ?_
      refine .skip ?_
      refine .skip ?_
      refine .brT ?_
      refine .nil ?_
      exact ⟨_, (.inl ⟨rfl, h⟩), (imp_of (.cons rfl (.cons rfl (.cons rfl (.cons rfl (.nil))))) (.cons rfl (.cons rfl (.cons rfl (.nil)))))⟩
    · replace h := (if_neg (nt hc15)).symm.trans h
      refine .val (v := .agg [.int .i64 a1.Channels, .sl 21 .ro (a1.Data.map (PV.int .i32))]) ?_
      obtain ⟨y16, hy16, h⟩ := bindE h
      refine .cP (g70 hy16) ?_
      refine .val ?_
      refine .brF ?_
      refine .nil ?_
      exact ⟨_, (.inr (⟨_, rfl, h⟩)), (imp_of (.cons rfl (.cons rfl (.cons rfl (.cons rfl (.nil))))) (.cons rfl (.cons rfl (.cons rfl (.nil)))))⟩
  · rintro T (⟨rfl, h⟩ | ⟨v12, rfl, h⟩)
    · subst hj11
      refine .condT ?_
      refine .seq ?_
      refine .region ?_
      refine .buildL (cs := [.int .i64 0, .int .i64 0, .int .i64 0, .int .i64 0, .sl 21 .full []]) ?_
      refine .wrL (cs := [.int .i64 0, .int .i64 0, .int .i64 0, .int .i64 0, .sl 21 .full []]) ?_
      refine .assign ?_
      refine .assign ?_
      refine .nil ?_
      cases h
      refine .imp (Imp.cell (.loc 0 2) (ds := [.int .i64 0, .int .i64 0, .int .i64 0, .int .i64 0, .sl 21 .ro (([] : List Int).map (PV.int .i32))]) (.cons (.refl _) rfl (.cons (.refl _) rfl (.cons (.refl _) rfl (.cons (.refl _) rfl (.cons (.ro _ _) rfl (.nil)))))) rfl) ?_
      exact .ret (fin_gen0 none)
    · subst hj13
      refine .cond (fun hc17 => ?_) (fun hc17 => ?_)
      · replace h := (if_pos hc17).symm.trans h
        refine .seq ?_
        refine .region ?_
        refine .buildL (cs := [.int .i64 0, .int .i64 0, .int .i64 0, .int .i64 0, .sl 21 .full []]) ?_
        refine .wrL (cs := [.int .i64 0, .int .i64 0, .int .i64 0, .int .i64 0, .sl 21 .full []]) ?_
        refine .assign ?_
        refine .assign ?_
        refine .nil ?_
        cases h
        refine .imp (Imp.cell (.loc 0 2) (ds := [.int .i64 0, .int .i64 0, .int .i64 0, .int .i64 0, .sl 21 .ro (([] : List Int).map (PV.int .i32))]) (.cons (.refl _) rfl (.cons (.refl _) rfl (.cons (.refl _) rfl (.cons (.refl _) rfl (.cons (.ro _ _) rfl (.nil)))))) rfl) ?_
        exact .ret (fin_gen0 none)
      · replace h := (if_neg (nt hc17)).symm.trans h
        refine .skip ?_
        refine .seq ?_
        refine .seq ?_
        refine .region ?_
        refine .val ?_
        refine .val ?_
        refine .val ?_
        refine .val ?_
        refine .val ?_
        refine .nil ?_
        refine .cond (fun hc19 => ?_) (fun hc19 => ?_)
        · replace h := (if_pos hc19).symm.trans h
          refine .seq ?_
          refine .region ?_
          refine .buildL (cs := [.int .i64 0, .int .i64 0, .int .i64 0, .int .i64 0, .sl 21 .full []]) ?_
          refine .wrL (cs := [.int .i64 0, .int .i64 0, .int .i64 0, .int .i64 0, .sl 21 .full []]) ?_
          refine .assign ?_
          refine .assign ?_
          refine .nil ?_
          cases h
          refine .imp (Imp.cell (.loc 0 2) (ds := [.int .i64 0, .int .i64 0, .int .i64 0, .int .i64 0, .sl 21 .ro (([] : List Int).map (PV.int .i32))]) (.cons (.refl _) rfl (.cons (.refl _) rfl (.cons (.refl _) rfl (.cons (.refl _) rfl (.cons (.ro _ _) rfl (.nil)))))) rfl) ?_
          exact .ret (fin_gen0 none)
        · replace h := (if_neg (nt hc19)).symm.trans h
          refine .skip ?_
          refine .seq ?_
          refine .region ?_
          refine .val ?_
          refine .val ?_
          refine .lenL (f := (PV.int .i32)) ?_
          refine .val ?_
          refine .val ?_
          obtain ⟨x20, hx20, h⟩ := bindE h
          refine .divL hx20 ?_
          refine .assign ?_
          refine .nil ?_
          refine .seq ?_
          obtain ⟨y21, hy21, h⟩ := bindE h
          refine .draw [] [[], [], [], [], [], [], [], []] [[], [], [], [], [], [], [], []] [[]]
            [(0, 0), (1, 0), (2, 0), (3, 0), (4, 0), (5, 0), (6, 0), (7, 0)] [] 0
            [⟨[(30, .int .i64 x20), (31, .ptr (.loc 0 0) 1), (32, .int .i64 a0.Capacity), (33, .agg [.int .i64 a0.Channels, .int .i64 a0.Capacity, .int .i64 a0.Written, .int .i64 a0.Read, .sl 21 .ro (a0.Data.map (PV.int .i32))]), (34, .int .i64 y21), (35, .int .i64 (w64 (a0.Capacity - y21))), (36, .int .i64 (iMin x20 (w64 (a0.Capacity - y21)))), (8, .int .i64 (iMin x20 (w64 (a0.Capacity - y21)))), (2, .ptr (.loc 0 0) 0), (3, .ptr (.loc 0 1) 0), (4, .ptr (.loc 0 2) 0), (7, .int .i64 x20)], [], [((.loc 0 0), [.int .i64 a0.Channels, .int .i64 a0.Capacity, .int .i64 a0.Written, .int .i64 a0.Read, .sl 21 .ro (a0.Data.map (PV.int .i32))]), ((.loc 0 1), [.int .i64 a1.Channels, .sl 21 .ro (a1.Data.map (PV.int .i32))]), ((.loc 0 2), [.int .i64 0, .int .i64 0, .int .i64 0, .int .i64 0, .sl 21 .full []])]⟩]
            [(2, .ptr (.loc 0 0) 0), (3, .ptr (.loc 0 1) 0), (4, .ptr (.loc 0 2) 0), (7, .int .i64 x20)]
            (.cons [7] [] (fun _ _ h => .move (h _)) rfl rfl <|
            .cons [2] [] (fun _ _ h => .val (h _)) rfl rfl <|
            .cons [31] [] (fun _ _ h => .val (h _)) rfl rfl <|
            .cons [2] [] (fun _ _ h => .val (h _)) rfl rfl <|
            .cons [33] [] (fun _ _ h => .cP (g18 hy21) (h _)) rfl rfl <|
            .cons [32, 34] [] (fun _ _ h => .val (h _)) rfl rfl <|
            .cons [30, 35] [] (fun _ _ h => .minL (h _)) rfl rfl <|
            .cons [36] [] (fun _ _ h => .assign (h _)) rfl rfl <|
            .nil)
            (.nil)
            (by kernel_rfl) rfl (.cons rfl (.cons rfl (.cons rfl (.cons rfl (.nil))))) (.nil) (.cons rfl (.cons rfl (.cons rfl (.nil)))) ?_
          refine .imp (T := St.of [(2, .ptr (.loc 0 0) 0), (3, .ptr (.loc 0 1) 0), (4, .ptr (.loc 0 2) 0), (7, .int .i64 x20), (8, .int .i64 (iMin x20 (w64 (a0.Capacity - y21))))] [((.loc 0 0), [.int .i64 a0.Channels, .int .i64 a0.Capacity, .int .i64 a0.Written, .int .i64 a0.Read, .sl 21 .ro (a0.Data.map (PV.int .i32))]), ((.loc 0 1), [.int .i64 a1.Channels, .sl 21 .ro (a1.Data.map (PV.int .i32))]), ((.loc 0 2), [.int .i64 0, .int .i64 0, .int .i64 0, .int .i64 0, .sl 21 .full []])]) (imp_of (.cons rfl (.cons rfl (.cons rfl (.cons rfl (.cons rfl (.nil)))))) (.cons rfl (.cons rfl (.cons rfl (.nil))))) ?_
          refine .seq ?_
          refine .seq ?_
          refine .region ?_
          refine .val ?_
          refine .val ?_
          refine .move ?_
          refine .val ?_
          refine .val ?_
          refine .nil ?_
          refine .cond (fun hc23 => ?_) (fun hc23 => ?_)
          · replace h := (if_pos hc23).symm.trans h
            refine .seq ?_
            refine .region ?_
            refine .buildL (cs := [.int .i64 0, .int .i64 0, .int .i64 0, .int .i64 0, .sl 21 .full []]) ?_
            refine .wrL (cs := [.int .i64 0, .int .i64 0, .int .i64 0, .int .i64 0, .sl 21 .full []]) ?_
            refine .assign ?_
            refine .assign ?_
            refine .nil ?_
            cases h
            refine .imp (Imp.cell (.loc 0 2) (ds := [.int .i64 0, .int .i64 0, .int .i64 0, .int .i64 0, .sl 21 .ro (([] : List Int).map (PV.int .i32))]) (.cons (.refl _) rfl (.cons (.refl _) rfl (.cons (.refl _) rfl (.cons (.refl _) rfl (.cons (.ro _ _) rfl (.nil)))))) rfl) ?_
            exact .ret (fin_gen0 none)
          · replace h := (if_neg (nt hc23)).symm.trans h
            refine .skip ?_
            refine .seq ?_
            refine .region ?_
            refine .val ?_
            refine .val ?_
            refine .move ?_
            refine .val ?_
            refine .val ?_
            refine .wrL (cs := [.int .i64 a0.Channels, .int .i64 a0.Capacity, .int .i64 (w64 (a0.Written + (iMin x20 (w64 (a0.Capacity - y21))))), .int .i64 a0.Read, .sl 21 .ro (a0.Data.map (PV.int .i32))]) ?_
            refine .nil ?_
            refine .seq ?_
            obtain ⟨x24, hx24, h⟩ := bindE h
            obtain ⟨y25, hy25, h⟩ := bindE h
            refine .draw [16] [[], [], [], [], [], [], [], [], [], [], [], [], [], [], [], [], []] [[16], [16], [16], [16], [16], [16], [16], [16], [16], [16], [16], [16], [16], [16], [16], [16], []] [[], [16]]
              [(0, 0), (1, 0), (2, 0), (3, 0), (4, 0), (5, 0), (6, 0), (7, 0), (8, 0), (9, 0), (10, 0), (11, 0), (12, 0), (13, 0), (14, 0), (15, 0)] [(0, 16, 1)] 1
              [⟨[(48, .ptr (.loc 0 0) 4), (49, .sl 21 .ro (a0.Data.map (PV.int .i32))), (50, .ptr (.loc 0 1) 1), (51, .sl 21 .ro (a1.Data.map (PV.int .i32))), (52, .int .i64 (iMin x20 (w64 (a0.Capacity - y21)))), (53, .ptr (.loc 0 1) 0), (54, .int .i64 a1.Channels), (55, .int .i64 (w64 ((iMin x20 (w64 (a0.Capacity - y21))) * a1.Channels))), (56, .int .i64 (iMin x20 (w64 (a0.Capacity - y21)))), (57, .ptr (.loc 0 1) 0), (58, .int .i64 a1.Channels), (59, .int .i64 (w64 ((iMin x20 (w64 (a0.Capacity - y21))) * a1.Channels))), (60, .sl 21 .full (x24.map (PV.int .i32))), (61, .sl 24 .ro (([a0.Data, x24] : List (List Int)).map pv24)), (62, .sl 21 .ro (y25.map (PV.int .i32))), (63, .ptr (.loc 0 0) 4), (2, .ptr (.loc 0 0) 0), (3, .ptr (.loc 0 1) 0), (4, .ptr (.loc 0 2) 0), (7, .int .i64 x20), (8, .int .i64 (iMin x20 (w64 (a0.Capacity - y21))))], [], [((.loc 0 0), [.int .i64 a0.Channels, .int .i64 a0.Capacity, .int .i64 (w64 (a0.Written + (iMin x20 (w64 (a0.Capacity - y21))))), .int .i64 a0.Read, .sl 21 .ro (a0.Data.map (PV.int .i32))]), ((.loc 0 1), [.int .i64 a1.Channels, .sl 21 .ro (a1.Data.map (PV.int .i32))]), ((.loc 0 2), [.int .i64 0, .int .i64 0, .int .i64 0, .int .i64 0, .sl 21 .full []])]⟩,
              ⟨[(48, .ptr (.loc 0 0) 4), (49, .sl 21 .ro (a0.Data.map (PV.int .i32))), (50, .ptr (.loc 0 1) 1), (51, .sl 21 .ro (a1.Data.map (PV.int .i32))), (52, .int .i64 (iMin x20 (w64 (a0.Capacity - y21)))), (53, .ptr (.loc 0 1) 0), (54, .int .i64 a1.Channels), (55, .int .i64 (w64 ((iMin x20 (w64 (a0.Capacity - y21))) * a1.Channels))), (56, .int .i64 (iMin x20 (w64 (a0.Capacity - y21)))), (57, .ptr (.loc 0 1) 0), (58, .int .i64 a1.Channels), (59, .int .i64 (w64 ((iMin x20 (w64 (a0.Capacity - y21))) * a1.Channels))), (60, .sl 21 .full (x24.map (PV.int .i32))), (61, .sl 24 .ro (([a0.Data, x24] : List (List Int)).map pv24)), (62, .sl 21 .ro (y25.map (PV.int .i32))), (63, .ptr (.loc 0 0) 4), (2, .ptr (.loc 0 0) 0), (3, .ptr (.loc 0 1) 0), (4, .ptr (.loc 0 2) 0), (7, .int .i64 x20), (8, .int .i64 (iMin x20 (w64 (a0.Capacity - y21))))], [], [((.loc 0 0), [.int .i64 a0.Channels, .int .i64 a0.Capacity, .int .i64 (w64 (a0.Written + (iMin x20 (w64 (a0.Capacity - y21))))), .int .i64 a0.Read, .sl 21 .ro (y25.map (PV.int .i32))]), ((.loc 0 1), [.int .i64 a1.Channels, .sl 21 .ro (a1.Data.map (PV.int .i32))]), ((.loc 0 2), [.int .i64 0, .int .i64 0, .int .i64 0, .int .i64 0, .sl 21 .full []])]⟩]
              [(2, .ptr (.loc 0 0) 0), (3, .ptr (.loc 0 1) 0), (4, .ptr (.loc 0 2) 0), (7, .int .i64 x20), (8, .int .i64 (iMin x20 (w64 (a0.Capacity - y21))))]
              (.cons [2] [] (fun _ _ h => .val (h _)) rfl rfl <|
              .cons [48] [] (fun _ _ h => .val (h _)) rfl rfl <|
              .cons [3] [] (fun _ _ h => .val (h _)) rfl rfl <|
              .cons [50] [] (fun _ _ h => .val (h _)) rfl rfl <|
              .cons [8] [] (fun _ _ h => .move (h _)) rfl rfl <|
              .cons [3] [] (fun _ _ h => .val (h _)) rfl rfl <|
              .cons [53] [] (fun _ _ h => .val (h _)) rfl rfl <|
              .cons [52, 54] [] (fun _ _ h => .val (h _)) rfl rfl <|
              .cons [8] [] (fun _ _ h => .move (h _)) rfl rfl <|
              .cons [3] [] (fun _ _ h => .val (h _)) rfl rfl <|
              .cons [57] [] (fun _ _ h => .val (h _)) rfl rfl <|
              .cons [56, 58] [] (fun _ _ h => .val (h _)) rfl rfl <|
              .cons [51, 55, 59] [] (fun _ _ h => .partM (f := (PV.int .i32)) hx24 (h _)) rfl rfl <|
              .cons [49, 60] [] (fun _ _ h => .litR (f := pv24) ([a0.Data, x24] : List (List Int)) (h _)) rfl rfl <|
              .cons [61] [] (fun _ _ h => .cP (g71r hy25) (h _)) rfl rfl <|
              .cons [2] [] (fun _ _ h => .val (h _)) rfl rfl <|
              .nil)
              (.cons (fun x => x) [63, 62] [] (fun _ _ h => .wrL (cs := [.int .i64 a0.Channels, .int .i64 a0.Capacity, .int .i64 (w64 (a0.Written + (iMin x20 (w64 (a0.Capacity - y21))))), .int .i64 a0.Read, .sl 21 .ro (y25.map (PV.int .i32))]) (h _ _ (.cons rfl (.cons rfl (.cons rfl (.nil)))))) rfl (.old rfl (.old rfl (.old rfl (.old rfl (.old rfl (.old rfl (.old rfl (.old rfl (.old rfl (.old rfl (.old rfl (.old rfl (.old rfl (.old rfl (.old rfl (.old rfl (.old rfl (.old rfl (.old rfl (.old rfl (.old rfl (.nil)))))))))))))))))))))) rfl rfl <|
              .nil)
              (by kernel_rfl) rfl (.cons rfl (.cons rfl (.cons rfl (.cons rfl (.cons rfl (.nil)))))) (.nil) (.cons rfl (.cons rfl (.cons rfl (.nil)))) ?_
            refine .imp (T := St.of [(2, .ptr (.loc 0 0) 0), (4, .ptr (.loc 0 2) 0), (7, .int .i64 x20), (8, .int .i64 (iMin x20 (w64 (a0.Capacity - y21))))] [((.loc 0 0), [.int .i64 a0.Channels, .int .i64 a0.Capacity, .int .i64 (w64 (a0.Written + (iMin x20 (w64 (a0.Capacity - y21))))), .int .i64 a0.Read, .sl 21 .ro (y25.map (PV.int .i32))]), ((.loc 0 2), [.int .i64 0, .int .i64 0, .int .i64 0, .int .i64 0, .sl 21 .full []])]) (imp_of (.cons rfl (.cons rfl (.cons rfl (.cons rfl (.nil))))) (.cons rfl (.cons rfl (.nil)))) ?_
            refine .seq ?_
            refine .region ?_
            refine .val (v := .agg [.int .i64 a0.Channels, .int .i64 a0.Capacity, .int .i64 (w64 (a0.Written + (iMin x20 (w64 (a0.Capacity - y21))))), .int .i64 a0.Read, .sl 21 .ro (y25.map (PV.int .i32))]) ?_
            refine .move ?_
            refine .move ?_
            refine .val ?_
            refine .wrL (cs := [.int .i64 a0.Channels, .int .i64 a0.Capacity, .int .i64 (w64 (a0.Written + (iMin x20 (w64 (a0.Capacity - y21))))), .int .i64 a0.Read, .sl 21 .ro (y25.map (PV.int .i32))]) ?_
            refine .assign ?_
            refine .assign ?_
            refine .nil ?_
            cases h
            exact .ret (fin_gen0 none)

/- soundservice/ring.Read -/
def f17 (n : Nat) (a0 : Ring) (a1 : Int) : Option (Block × Int × Ring × Int) :=
  (f31 n (⟨a0.Channels, a0.Capacity, a0.Written, a0.Read, a0.Data⟩ : Ring)).bind fun y3 =>
  if !y3 then (
  some ((⟨0, ([] : List Int)⟩ : Block), 0, (⟨0, 0, 0, 0, ([] : List Int)⟩ : Ring), 1))
  else (
  joinK (fun (_ : Unit) =>
  some ((⟨0, ([] : List Int)⟩ : Block), 0, (⟨0, 0, 0, 0, ([] : List Int)⟩ : Ring), 2)) fun j10 =>
  joinK (fun (_ : Unit) =>
  if decide (a1 > (65536 : Int)) then (
  some ((⟨0, ([] : List Int)⟩ : Block), 0, (⟨0, 0, 0, 0, ([] : List Int)⟩ : Ring), 2))
  else (
  (f18 n (⟨a0.Channels, a0.Capacity, a0.Written, a0.Read, a0.Data⟩ : Ring)).bind fun y14 =>
  (lMake (w64 (a1 * a0.Channels)) (w64 (a1 * a0.Channels)) (0 : Int)).bind fun x15 =>
  (lPart a0.Data (0 : Int) (w64 ((iMin a1 y14) * a0.Channels))).bind fun x16 =>
  (lPart a0.Data (w64 ((iMin a1 y14) * a0.Channels)) (a0.Data.length : Int)).bind fun x17 =>
  (f72 n x17).bind fun y18 =>
  some ((⟨a0.Channels, cpL x15 (List.take x15.length x16)⟩ : Block), w64 (a1 - (iMin a1 y14)), (⟨a0.Channels, a0.Capacity, a0.Written, w64 (a0.Read + (iMin a1 y14)), y18⟩ : Ring), 0))) fun j11 =>
  if decide (a1 < (0 : Int)) then (
  j10 ())
  else (
  j11 ()))
set_option maxHeartbeats 4000000 in
set_option maxRecDepth 100000 in
theorem g17 {n : Nat} {a0 : Ring} {a1 : Int} {r : (Block × Int × Ring × Int)} (h : f17 n a0 a1 = some r) :
    Ab.Can Try.prog 17 [.agg [.int .i64 a0.Channels, .int .i64 a0.Capacity, .int .i64 a0.Written, .int .i64 a0.Read, .sl 21 .ro (a0.Data.map (PV.int .i32))], .int .i64 a1] H0 (.tup [.agg [.int .i64 r.1.Channels, .sl 21 .ro (r.1.Data.map (PV.int .i32))], .int .i64 r.2.1, .agg [.int .i64 r.2.2.1.Channels, .int .i64 r.2.2.1.Capacity, .int .i64 r.2.2.1.Written, .int .i64 r.2.2.1.Read, .sl 21 .ro (r.2.2.1.Data.map (PV.int .i32))], .int .i64 r.2.2.2]) H0 := by
  refine can_of tabOK mix Try.call17 Try.func17 rfl (by kernel_rfl) (by show _ ≤ 64; simp) fun _ => ?_
  rw [f17] at h
  refine .seq ?_
  refine .region ?_
  refine .boxL (cs := [.int .i64 a0.Channels, .int .i64 a0.Capacity, .int .i64 a0.Written, .int .i64 a0.Read, .sl 21 .ro (a0.Data.map (PV.int .i32))]) ?_
  refine .allocL (cs := [.int .i64 0, .sl 21 .full []]) ?_
  refine .assign ?_
  refine .allocL (cs := [.int .i64 0, .int .i64 0, .int .i64 0, .int .i64 0, .sl 21 .full []]) ?_
  refine .assign ?_
  refine .nil ?_
  refine .seq ?_
  refine .seq ?_
  refine .region ?_
  refine .val (v := .agg [.int .i64 a0.Channels, .int .i64 a0.Capacity, .int .i64 a0.Written, .int .i64 a0.Read, .sl 21 .ro (a0.Data.map (PV.int .i32))]) ?_
  obtain ⟨y3, hy3, h⟩ := bindE h
  refine .cP (g31 hy3) ?_
  refine .val ?_
  refine .nil ?_
  refine .cond (fun hc4 => ?_) (fun hc4 => ?_)
  · replace h := (if_pos hc4).symm.trans h
    refine .seq ?_
    refine .region ?_
    refine .buildL (cs := [.int .i64 0, .sl 21 .full []]) ?_
    refine .buildL (cs := [.int .i64 0, .int .i64 0, .int .i64 0, .int .i64 0, .sl 21 .full []]) ?_
    refine .wrL (cs := [.int .i64 0, .sl 21 .full []]) ?_
    refine .assign ?_
    refine .wrL (cs := [.int .i64 0, .int .i64 0, .int .i64 0, .int .i64 0, .sl 21 .full []]) ?_
    refine .assign ?_
    refine .nil ?_
    cases h
    refine .imp (Imp.cell (.loc 0 1) (ds := [.int .i64 0, .sl 21 .ro (([] : List Int).map (PV.int .i32))]) (.cons (.refl _) rfl (.cons (.ro _ _) rfl (.nil))) rfl) ?_
    refine .imp (Imp.cell (.loc 0 3) (ds := [.int .i64 0, .int .i64 0, .int .i64 0, .int .i64 0, .sl 21 .ro (([] : List Int).map (PV.int .i32))]) (.cons (.refl _) rfl (.cons (.refl _) rfl (.cons (.refl _) rfl (.cons (.refl _) rfl (.cons (.ro _ _) rfl (.nil)))))) rfl) ?_
    exact .ret (fin_gen0 none)
  · replace h := (if_neg (nt hc4)).symm.trans h
    refine .skip ?_
    refine .seq ?_
    obtain ⟨j10, hj10, h⟩ := joinE h
    obtain ⟨j11, hj11, h⟩ := joinE h
    refine .cutI (fun T => (T = St.of [(1, .int .i64 a1), (2, .ptr (.loc 0 0) 0), (4, .ptr (.loc 0 1) 0), (6, .ptr (.loc 0 3) 0), (20, .bool true)] [((.loc 0 0), [.int .i64 a0.Channels, .int .i64 a0.Capacity, .int .i64 a0.Written, .int .i64 a0.Read, .sl 21 .ro (a0.Data.map (PV.int .i32))]), ((.loc 0 1), [.int .i64 0, .sl 21 .full []]), ((.loc 0 3), [.int .i64 0, .int .i64 0, .int .i64 0, .int .i64 0, .sl 21 .full []])] ∧ j10 () = some r) ∨ (T = St.of [(1, .int .i64 a1), (2, .ptr (.loc 0 0) 0), (4, .ptr (.loc 0 1) 0), (6, .ptr (.loc 0 3) 0), (20, .bool (decide (a1 > (65536 : Int))))] [((.loc 0 0), [.int .i64 a0.Channels, .int .i64 a0.Capacity, .int .i64 a0.Written, .int .i64 a0.Read, .sl 21 .ro (a0.Data.map (PV.int .i32))]), ((.loc 0 1), [.int .i64 0, .sl 21 .full []]), ((.loc 0 3), [.int .i64 0, .int .i64 0, .int .i64 0, .int .i64 0, .sl 21 .full []])] ∧ j11 () = some r)) ?_ ?_
    · refine .region ?_
      refine .move ?_
      refine .val ?_
      refine .move ?_
      refine .caseG (fun hc12 => ?_) (fun hc12 => ?_)
      · replace h := (if_pos hc12).symm.trans h
        refine .skip ?_
        refine .skip ?_
        refine .brT ?_
        refine .nil ?_
        exact ⟨_, (.inl ⟨rfl, h⟩), (imp_of (.cons rfl (.cons rfl (.cons rfl (.cons rfl (.cons rfl (.nil)))))) (.cons rfl (.cons rfl (.cons rfl (.nil)))))⟩
      · replace h := (if_neg (nt hc12)).symm.trans h
        refine .move ?_
        refine .val ?_
        refine .brF ?_
        refine .nil ?_
        exact ⟨_, (.inr (⟨rfl, h⟩)), (imp_of (.cons rfl (.cons rfl (.cons rfl (.cons rfl (.cons rfl (.nil)))))) (.cons rfl (.cons rfl (.cons rfl (.nil)))))⟩
    · rintro T (⟨rfl, h⟩ | ⟨rfl, h⟩)
      · subst hj10
        refine .condT ?_
        refine .seq ?_
        refine .region ?_
        refine .buildL (cs := [.int .i64 0, .sl 21 .full []]) ?_
        refine .buildL (cs := [.int .i64 0, .int .i64 0, .int .i64 0, .int .i64 0, .sl 21 .full []]) ?_
        refine .wrL (cs := [.int .i64 0, .sl 21 .full []]) ?_
        refine .assign ?_
        refine .wrL (cs := [.int .i64 0, .int .i64 0, .int .i64 0, .int .i64 0, .sl 21 .full []]) ?_
        refine .assign ?_
        refine .nil ?_
        cases h
        refine .imp (Imp.cell (.loc 0 1) (ds := [.int .i64 0, .sl 21 .ro (([] : List Int).map (PV.int .i32))]) (.cons (.refl _) rfl (.cons (.ro _ _) rfl (.nil))) rfl) ?_
        refine .imp (Imp.cell (.loc 0 3) (ds := [.int .i64 0, .int .i64 0, .int .i64 0, .int .i64 0, .sl 21 .ro (([] : List Int).map (PV.int .i32))]) (.cons (.refl _) rfl (.cons (.refl _) rfl (.cons (.refl _) rfl (.cons (.refl _) rfl (.cons (.ro _ _) rfl (.nil)))))) rfl) ?_
        exact .ret (fin_gen0 none)
      · subst hj11
        refine .cond (fun hc13 => ?_) (fun hc13 => ?_)
        · replace h := (if_pos hc13).symm.trans h
          refine .seq ?_
          refine .region ?_
          refine .buildL (cs := [.int .i64 0, .sl 21 .full []]) ?_
          refine .buildL (cs := [.int .i64 0, .int .i64 0, .int .i64 0, .int .i64 0, .sl 21 .full []]) ?_
          refine .wrL (cs := [.int .i64 0, .sl 21 .full []]) ?_
          refine .assign ?_
          refine .wrL (cs := [.int .i64 0, .int .i64 0, .int .i64 0, .int .i64 0, .sl 21 .full []]) ?_
          refine .assign ?_
          refine .nil ?_
          cases h
          refine .imp (Imp.cell (.loc 0 1) (ds := [.int .i64 0, .sl 21 .ro (([] : List Int).map (PV.int .i32))]) (.cons (.refl _) rfl (.cons (.ro _ _) rfl (.nil))) rfl) ?_
          refine .imp (Imp.cell (.loc 0 3) (ds := [.int .i64 0, .int .i64 0, .int .i64 0, .int .i64 0, .sl 21 .ro (([] : List Int).map (PV.int .i32))]) (.cons (.refl _) rfl (.cons (.refl _) rfl (.cons (.refl _) rfl (.cons (.refl _) rfl (.cons (.ro _ _) rfl (.nil)))))) rfl) ?_
          exact .ret (fin_gen0 none)
        · replace h := (if_neg (nt hc13)).symm.trans h
          refine .skip ?_
          refine .seq ?_
          refine .region ?_
          refine .move ?_
          refine .val (v := .agg [.int .i64 a0.Channels, .int .i64 a0.Capacity, .int .i64 a0.Written, .int .i64 a0.Read, .sl 21 .ro (a0.Data.map (PV.int .i32))]) ?_
          obtain ⟨y14, hy14, h⟩ := bindE h
          refine .cP (g18 hy14) ?_
          refine .minL ?_
          refine .assign ?_
          refine .nil ?_
          refine .seq ?_
          obtain ⟨x15, hx15, h⟩ := bindE h
          refine .draw [6, 8, 9] [[], [], [], [], [], [], [], [6], [], [6, 8]] [[9], [9], [6, 9], [6, 9], [6, 9], [6, 9], [9], [9], [9], []] [[], [6], [8], [6, 8], [6, 8, 9]]
            [(0, 0), (0, 1), (0, 2), (0, 3), (1, 0), (1, 1), (1, 2), (1, 3), (2, 0), (2, 2), (3, 0), (3, 2), (4, 0), (4, 2), (5, 0), (5, 2), (7, 1), (7, 3)] [(0, 6, 1), (0, 8, 2), (1, 8, 3), (2, 6, 3), (3, 9, 4)] 4
            [⟨[(27, .ptr (.loc 0 0) 0), (28, .int .i64 a0.Channels), (29, .int .i64 a1), (30, .ptr (.loc 0 0) 0), (31, .int .i64 a0.Channels), (32, .int .i64 (w64 (a1 * a0.Channels))), (1, .int .i64 a1), (2, .ptr (.loc 0 0) 0), (4, .ptr (.loc 0 1) 0), (6, .ptr (.loc 0 3) 0), (8, .int .i64 (iMin a1 y14))], [], [((.loc 0 0), [.int .i64 a0.Channels, .int .i64 a0.Capacity, .int .i64 a0.Written, .int .i64 a0.Read, .sl 21 .ro (a0.Data.map (PV.int .i32))]), ((.loc 0 1), [.int .i64 0, .sl 21 .full []]), ((.loc 0 3), [.int .i64 0, .int .i64 0, .int .i64 0, .int .i64 0, .sl 21 .full []])]⟩,
            ⟨[(27, .ptr (.loc 0 0) 0), (28, .int .i64 a0.Channels), (29, .int .i64 a1), (30, .ptr (.loc 0 0) 0), (31, .int .i64 a0.Channels), (32, .int .i64 (w64 (a1 * a0.Channels))), (33, .sl 21 (.own (.row 6 6)) (x15.map (PV.int .i32))), (34, .agg [.int .i64 a0.Channels, .sl 21 (.own (.row 6 6)) (x15.map (PV.int .i32))]), (1, .int .i64 a1), (2, .ptr (.loc 0 0) 0), (4, .ptr (.loc 0 1) 0), (6, .ptr (.loc 0 3) 0), (8, .int .i64 (iMin a1 y14))], [], [((.loc 0 0), [.int .i64 a0.Channels, .int .i64 a0.Capacity, .int .i64 a0.Written, .int .i64 a0.Read, .sl 21 .ro (a0.Data.map (PV.int .i32))]), ((.loc 0 1), [.int .i64 0, .sl 21 .full []]), ((.loc 0 3), [.int .i64 0, .int .i64 0, .int .i64 0, .int .i64 0, .sl 21 .full []])]⟩,
            ⟨[(27, .ptr (.loc 0 0) 0), (28, .int .i64 a0.Channels), (29, .int .i64 a1), (30, .ptr (.loc 0 0) 0), (31, .int .i64 a0.Channels), (32, .int .i64 (w64 (a1 * a0.Channels))), (9, .ptr (.loc 6 8) 0), (1, .int .i64 a1), (2, .ptr (.loc 0 0) 0), (4, .ptr (.loc 0 1) 0), (6, .ptr (.loc 0 3) 0), (8, .int .i64 (iMin a1 y14))], [], [((.loc 0 0), [.int .i64 a0.Channels, .int .i64 a0.Capacity, .int .i64 a0.Written, .int .i64 a0.Read, .sl 21 .ro (a0.Data.map (PV.int .i32))]), ((.loc 0 1), [.int .i64 0, .sl 21 .full []]), ((.loc 0 3), [.int .i64 0, .int .i64 0, .int .i64 0, .int .i64 0, .sl 21 .full []]), ((.loc 6 8), [.int .i64 0, .sl 21 .full []])]⟩,
            ⟨[(27, .ptr (.loc 0 0) 0), (28, .int .i64 a0.Channels), (29, .int .i64 a1), (30, .ptr (.loc 0 0) 0), (31, .int .i64 a0.Channels), (32, .int .i64 (w64 (a1 * a0.Channels))), (33, .sl 21 (.own (.row 6 6)) (x15.map (PV.int .i32))), (34, .agg [.int .i64 a0.Channels, .sl 21 (.own (.row 6 6)) (x15.map (PV.int .i32))]), (9, .ptr (.loc 6 8) 0), (1, .int .i64 a1), (2, .ptr (.loc 0 0) 0), (4, .ptr (.loc 0 1) 0), (6, .ptr (.loc 0 3) 0), (8, .int .i64 (iMin a1 y14))], [], [((.loc 0 0), [.int .i64 a0.Channels, .int .i64 a0.Capacity, .int .i64 a0.Written, .int .i64 a0.Read, .sl 21 .ro (a0.Data.map (PV.int .i32))]), ((.loc 0 1), [.int .i64 0, .sl 21 .full []]), ((.loc 0 3), [.int .i64 0, .int .i64 0, .int .i64 0, .int .i64 0, .sl 21 .full []]), ((.loc 6 8), [.int .i64 0, .sl 21 .full []])]⟩,
            ⟨[(27, .ptr (.loc 0 0) 0), (28, .int .i64 a0.Channels), (29, .int .i64 a1), (30, .ptr (.loc 0 0) 0), (31, .int .i64 a0.Channels), (32, .int .i64 (w64 (a1 * a0.Channels))), (33, .sl 21 (.own (.row 6 6)) (x15.map (PV.int .i32))), (34, .agg [.int .i64 a0.Channels, .sl 21 (.own (.row 6 6)) (x15.map (PV.int .i32))]), (9, .ptr (.loc 6 8) 0), (1, .int .i64 a1), (2, .ptr (.loc 0 0) 0), (4, .ptr (.loc 0 1) 0), (6, .ptr (.loc 0 3) 0), (8, .int .i64 (iMin a1 y14))], [], [((.loc 0 0), [.int .i64 a0.Channels, .int .i64 a0.Capacity, .int .i64 a0.Written, .int .i64 a0.Read, .sl 21 .ro (a0.Data.map (PV.int .i32))]), ((.loc 0 1), [.int .i64 0, .sl 21 .full []]), ((.loc 0 3), [.int .i64 0, .int .i64 0, .int .i64 0, .int .i64 0, .sl 21 .full []]), ((.loc 6 8), [.int .i64 a0.Channels, .sl 21 (.own (.row 6 6)) (x15.map (PV.int .i32))])]⟩]
            [(1, .int .i64 a1), (2, .ptr (.loc 0 0) 0), (4, .ptr (.loc 0 1) 0), (6, .ptr (.loc 0 3) 0), (8, .int .i64 (iMin a1 y14))]
            (.cons [2] [] (fun _ _ h => .val (h _)) rfl rfl <|
            .cons [2] [] (fun _ _ h => .val (h _)) rfl rfl <|
            .cons [2] [] (fun _ _ h => .val (h _)) rfl rfl <|
            .cons [2] [] (fun _ _ h => .val (h _)) rfl rfl <|
            .cons [27] [] (fun _ _ h => .val (h _)) rfl rfl <|
            .cons [27] [] (fun _ _ h => .val (h _)) rfl rfl <|
            .cons [27] [] (fun _ _ h => .val (h _)) rfl rfl <|
            .cons [27] [] (fun _ _ h => .val (h _)) rfl rfl <|
            .cons [1] [] (fun _ _ h => .move (h _)) rfl rfl <|
            .cons [1] [] (fun _ _ h => .move (h _)) rfl rfl <|
            .cons [2] [] (fun _ _ h => .val (h _)) rfl rfl <|
            .cons [2] [] (fun _ _ h => .val (h _)) rfl rfl <|
            .cons [30] [] (fun _ _ h => .val (h _)) rfl rfl <|
            .cons [30] [] (fun _ _ h => .val (h _)) rfl rfl <|
            .cons [29, 31] [] (fun _ _ h => .val (h _)) rfl rfl <|
            .cons [29, 31] [] (fun _ _ h => .val (h _)) rfl rfl <|
            .cons [28, 33] [] (fun _ _ h => .buildL (cs := [.int .i64 a0.Channels, .sl 21 (.own (.row 6 6)) (x15.map (PV.int .i32))]) (h _)) rfl rfl <|
            .cons [28, 33] [] (fun _ _ h => .buildL (cs := [.int .i64 a0.Channels, .sl 21 (.own (.row 6 6)) (x15.map (PV.int .i32))]) (h _)) rfl rfl <|
            .nil)
            (.cons (PV.sub (oneSub (.row 6 6) .frz)) [32] [] (fun _ _ h => .makeL (f := (PV.int .i32)) hx15 (h _ _ (.cons rfl (.cons rfl (.cons rfl (.nil)))))) rfl (.old rfl (.old rfl (.old rfl (.old rfl (.old rfl (.old rfl (.new rfl (.new rfl (.old rfl (.old rfl (.old rfl (.old rfl (.old rfl (.nil)))))))))))))) rfl rfl <|
            .cons (PV.sub (oneSub (.loc 6 8) .kill)) [] [] (fun _ _ h => .allocL (cs := [.int .i64 0, .sl 21 .full []]) (h _ _ (.cons rfl (.cons rfl (.cons rfl (.cons rfl (.nil))))))) rfl (.old rfl (.old rfl (.old rfl (.old rfl (.old rfl (.old rfl (.new rfl (.old rfl (.old rfl (.old rfl (.old rfl (.old rfl (.nil))))))))))))) rfl rfl <|
            .cons (PV.sub (oneSub (.loc 6 8) .kill)) [] [] (fun _ _ h => .allocL (cs := [.int .i64 0, .sl 21 .full []]) (h _ _ (.cons rfl (.cons rfl (.cons rfl (.cons rfl (.nil))))))) rfl (.old rfl (.old rfl (.old rfl (.old rfl (.old rfl (.old rfl (.old rfl (.old rfl (.new rfl (.old rfl (.old rfl (.old rfl (.old rfl (.old rfl (.nil))))))))))))))) rfl rfl <|
            .cons (PV.sub (oneSub (.row 6 6) .frz)) [32] [] (fun _ _ h => .makeL (f := (PV.int .i32)) hx15 (h _ _ (.cons rfl (.cons rfl (.cons rfl (.cons rfl (.nil))))))) rfl (.old rfl (.old rfl (.old rfl (.old rfl (.old rfl (.old rfl (.new rfl (.new rfl (.old rfl (.old rfl (.old rfl (.old rfl (.old rfl (.old rfl (.nil))))))))))))))) rfl rfl <|
            .cons (fun x => x) [9, 34] [] (fun _ _ h => .wrL (cs := [.int .i64 a0.Channels, .sl 21 (.own (.row 6 6)) (x15.map (PV.int .i32))]) (h _ _ (.cons rfl (.cons rfl (.cons rfl (.cons rfl (.nil))))))) rfl (.old rfl (.old rfl (.old rfl (.old rfl (.old rfl (.old rfl (.old rfl (.old rfl (.old rfl (.old rfl (.old rfl (.old rfl (.old rfl (.old rfl (.nil))))))))))))))) rfl rfl <|
            .nil)
            (by kernel_rfl) rfl (.cons rfl (.cons rfl (.cons rfl (.cons rfl (.cons rfl (.nil)))))) (.nil) (.cons rfl (.cons rfl (.cons rfl (.nil)))) ?_
          refine .imp (T := St.of [(1, .int .i64 a1), (2, .ptr (.loc 0 0) 0), (4, .ptr (.loc 0 1) 0), (6, .ptr (.loc 0 3) 0), (8, .int .i64 (iMin a1 y14)), (9, .ptr (.loc 6 8) 0)] [((.loc 0 0), [.int .i64 a0.Channels, .int .i64 a0.Capacity, .int .i64 a0.Written, .int .i64 a0.Read, .sl 21 .ro (a0.Data.map (PV.int .i32))]), ((.loc 0 1), [.int .i64 0, .sl 21 .full []]), ((.loc 0 3), [.int .i64 0, .int .i64 0, .int .i64 0, .int .i64 0, .sl 21 .full []]), ((.loc 6 8), [.int .i64 a0.Channels, .sl 21 (.own (.row 6 6)) (x15.map (PV.int .i32))])]) (imp_of (.cons rfl (.cons rfl (.cons rfl (.cons rfl (.cons rfl (.cons rfl (.nil))))))) (.cons rfl (.cons rfl (.cons rfl (.cons rfl (.nil)))))) ?_
          refine .seq ?_
          obtain ⟨x16, hx16, h⟩ := bindE h
          refine .draw [9] [[], [], [], [], [], [], [], [], [], []] [[9], [9], [9], [9], [9], [9], [9], [9], [9], []] [[], [9]]
            [(0, 0), (1, 0), (2, 0), (3, 0), (4, 0), (5, 0), (6, 0), (7, 0), (8, 0)] [(0, 9, 1)] 1
            [⟨[(35, .ptr (.loc 6 8) 1), (36, .sl 21 (.own (.row 6 6)) (x15.map (PV.int .i32))), (37, .ptr (.loc 0 0) 4), (38, .sl 21 .ro (a0.Data.map (PV.int .i32))), (39, .int .i64 (iMin a1 y14)), (40, .ptr (.loc 0 0) 0), (41, .int .i64 a0.Channels), (42, .int .i64 (w64 ((iMin a1 y14) * a0.Channels))), (43, .sl 21 .ro (x16.map (PV.int .i32))), (1, .int .i64 a1), (2, .ptr (.loc 0 0) 0), (4, .ptr (.loc 0 1) 0), (6, .ptr (.loc 0 3) 0), (8, .int .i64 (iMin a1 y14)), (9, .ptr (.loc 6 8) 0)], [], [((.loc 0 0), [.int .i64 a0.Channels, .int .i64 a0.Capacity, .int .i64 a0.Written, .int .i64 a0.Read, .sl 21 .ro (a0.Data.map (PV.int .i32))]), ((.loc 0 1), [.int .i64 0, .sl 21 .full []]), ((.loc 0 3), [.int .i64 0, .int .i64 0, .int .i64 0, .int .i64 0, .sl 21 .full []]), ((.loc 6 8), [.int .i64 a0.Channels, .sl 21 (.own (.row 6 6)) (x15.map (PV.int .i32))])]⟩,
            ⟨[(35, .ptr (.loc 6 8) 1), (36, .sl 21 (.own (.row 6 6)) (putL (x15.map (PV.int .i32)) 0 ((List.take x15.length x16).map (PV.int .i32)))), (37, .ptr (.loc 0 0) 4), (38, .sl 21 .ro (a0.Data.map (PV.int .i32))), (39, .int .i64 (iMin a1 y14)), (40, .ptr (.loc 0 0) 0), (41, .int .i64 a0.Channels), (42, .int .i64 (w64 ((iMin a1 y14) * a0.Channels))), (43, .sl 21 .ro (x16.map (PV.int .i32))), (44, .int .i64 ((min x16.length x15.length : Nat) : Int)), (1, .int .i64 a1), (2, .ptr (.loc 0 0) 0), (4, .ptr (.loc 0 1) 0), (6, .ptr (.loc 0 3) 0), (8, .int .i64 (iMin a1 y14)), (9, .ptr (.loc 6 8) 0)], [], [((.loc 0 0), [.int .i64 a0.Channels, .int .i64 a0.Capacity, .int .i64 a0.Written, .int .i64 a0.Read, .sl 21 .ro (a0.Data.map (PV.int .i32))]), ((.loc 0 1), [.int .i64 0, .sl 21 .full []]), ((.loc 0 3), [.int .i64 0, .int .i64 0, .int .i64 0, .int .i64 0, .sl 21 .full []]), ((.loc 6 8), [.int .i64 a0.Channels, .sl 21 (.own (.row 6 6)) (putL (x15.map (PV.int .i32)) 0 ((List.take x15.length x16).map (PV.int .i32)))])]⟩]
            [(1, .int .i64 a1), (2, .ptr (.loc 0 0) 0), (4, .ptr (.loc 0 1) 0), (6, .ptr (.loc 0 3) 0), (8, .int .i64 (iMin a1 y14)), (9, .ptr (.loc 6 8) 0)]
            (.cons [9] [] (fun _ _ h => .val (h _)) rfl rfl <|
            .cons [35] [] (fun _ _ h => .val (h _)) rfl rfl <|
            .cons [2] [] (fun _ _ h => .val (h _)) rfl rfl <|
            .cons [37] [] (fun _ _ h => .val (h _)) rfl rfl <|
            .cons [8] [] (fun _ _ h => .move (h _)) rfl rfl <|
            .cons [2] [] (fun _ _ h => .val (h _)) rfl rfl <|
            .cons [40] [] (fun _ _ h => .val (h _)) rfl rfl <|
            .cons [39, 41] [] (fun _ _ h => .val (h _)) rfl rfl <|
            .cons [38, 42] [] (fun _ _ h => .partL (f := (PV.int .i32)) hx16 (h _)) rfl rfl <|
            .nil)
            (.cons (PV.cp (.row 6 6) 0 ((List.take x15.length x16).map (PV.int .i32))) [36, 43] [] (fun _ _ h => .copyL (xs := x15) (ys := x16) (h _ _ (.cons rfl (.cons rfl (.cons rfl (.cons rfl (.nil))))))) rfl (.old rfl (.old rfl (.old rfl (.old rfl (.old rfl (.old rfl (.old rfl (.old rfl (.old rfl (.new rfl (.old rfl (.old rfl (.old rfl (.old rfl (.old rfl (.old rfl (.nil))))))))))))))))) rfl rfl <|
            .nil)
            (by kernel_rfl) rfl (.cons rfl (.cons rfl (.cons rfl (.cons rfl (.cons rfl (.cons rfl (.nil))))))) (.nil) (.cons rfl (.cons rfl (.cons rfl (.cons rfl (.nil))))) ?_
          refine .imp (T := St.of [(1, .int .i64 a1), (2, .ptr (.loc 0 0) 0), (4, .ptr (.loc 0 1) 0), (6, .ptr (.loc 0 3) 0), (8, .int .i64 (iMin a1 y14)), (9, .ptr (.loc 6 8) 0)] [((.loc 0 0), [.int .i64 a0.Channels, .int .i64 a0.Capacity, .int .i64 a0.Written, .int .i64 a0.Read, .sl 21 .ro (a0.Data.map (PV.int .i32))]), ((.loc 0 1), [.int .i64 0, .sl 21 .full []]), ((.loc 0 3), [.int .i64 0, .int .i64 0, .int .i64 0, .int .i64 0, .sl 21 .full []]), ((.loc 6 8), [.int .i64 a0.Channels, .sl 21 (.own (.row 6 6)) ((cpL x15 (List.take x15.length x16)).map (PV.int .i32))])]) (imp_of (.cons rfl (.cons rfl (.cons rfl (.cons rfl (.cons rfl (.cons rfl (.nil))))))) (.cons rfl (.cons rfl (.cons rfl (.cons (congrArg (fun zz : List PV => some ([.int .i64 a0.Channels, .sl 21 (.own (.row 6 6)) zz] : List PV)) (putL_cp .i32 x15 (List.take x15.length x16))) (.nil)))))) ?_
          refine .seq ?_
          refine .region ?_
          refine .val ?_
          refine .val ?_
          refine .move ?_
          refine .val ?_
          refine .val ?_
          refine .wrL (cs := [.int .i64 a0.Channels, .int .i64 a0.Capacity, .int .i64 a0.Written, .int .i64 (w64 (a0.Read + (iMin a1 y14))), .sl 21 .ro (a0.Data.map (PV.int .i32))]) ?_
          refine .nil ?_
          refine .seq ?_
          refine .region ?_
          refine .val ?_
          refine .val ?_
          refine .move ?_
          refine .val ?_
          refine .val ?_
          refine .val ?_
          obtain ⟨x17, hx17, h⟩ := bindE h
          refine .partE (f := (PV.int .i32)) hx17 ?_
          obtain ⟨y18, hy18, h⟩ := bindE h
          refine .cP (g72r hy18) ?_
          refine .val ?_
          refine .wrL (cs := [.int .i64 a0.Channels, .int .i64 a0.Capacity, .int .i64 a0.Written, .int .i64 (w64 (a0.Read + (iMin a1 y14))), .sl 21 .ro (y18.map (PV.int .i32))]) ?_
          refine .nil ?_
          refine .seq ?_
          refine .draw [5, 7] [[], [], [], [], [], [], [5], [5], [5, 7]] [[5, 7], [7], [7], [7], [7], [7], [7], [], []] [[], [5], [5, 7]]
            [(0, 0), (1, 0), (1, 1), (2, 0), (2, 1), (3, 0), (3, 1), (4, 0), (4, 1), (6, 1), (8, 2)] [(0, 5, 1), (1, 7, 2)] 2
            [⟨[(59, .agg [.int .i64 a0.Channels, .sl 21 (.own (.row 6 6)) ((cpL x15 (List.take x15.length x16)).map (PV.int .i32))]), (60, .int .i64 a1), (61, .int .i64 (iMin a1 y14)), (62, .int .i64 (w64 (a1 - (iMin a1 y14)))), (63, .agg [.int .i64 a0.Channels, .int .i64 a0.Capacity, .int .i64 a0.Written, .int .i64 (w64 (a0.Read + (iMin a1 y14))), .sl 21 .ro (y18.map (PV.int .i32))]), (1, .int .i64 a1), (2, .ptr (.loc 0 0) 0), (4, .ptr (.loc 0 1) 0), (6, .ptr (.loc 0 3) 0), (8, .int .i64 (iMin a1 y14)), (9, .ptr (.loc 6 8) 0)], [], [((.loc 0 0), [.int .i64 a0.Channels, .int .i64 a0.Capacity, .int .i64 a0.Written, .int .i64 (w64 (a0.Read + (iMin a1 y14))), .sl 21 .ro (y18.map (PV.int .i32))]), ((.loc 0 1), [.int .i64 0, .sl 21 .full []]), ((.loc 0 3), [.int .i64 0, .int .i64 0, .int .i64 0, .int .i64 0, .sl 21 .full []]), ((.loc 6 8), [.int .i64 a0.Channels, .sl 21 (.own (.row 6 6)) ((cpL x15 (List.take x15.length x16)).map (PV.int .i32))])]⟩,
            ⟨[(59, .agg [.int .i64 a0.Channels, .sl 21 (.own (.row 6 6)) ((cpL x15 (List.take x15.length x16)).map (PV.int .i32))]), (60, .int .i64 a1), (61, .int .i64 (iMin a1 y14)), (62, .int .i64 (w64 (a1 - (iMin a1 y14)))), (63, .agg [.int .i64 a0.Channels, .int .i64 a0.Capacity, .int .i64 a0.Written, .int .i64 (w64 (a0.Read + (iMin a1 y14))), .sl 21 .ro (y18.map (PV.int .i32))]), (5, .int .i64 (w64 (a1 - (iMin a1 y14)))), (1, .int .i64 a1), (2, .ptr (.loc 0 0) 0), (4, .ptr (.loc 0 1) 0), (6, .ptr (.loc 0 3) 0), (8, .int .i64 (iMin a1 y14)), (9, .ptr (.loc 6 8) 0)], [], [((.loc 0 0), [.int .i64 a0.Channels, .int .i64 a0.Capacity, .int .i64 a0.Written, .int .i64 (w64 (a0.Read + (iMin a1 y14))), .sl 21 .ro (y18.map (PV.int .i32))]), ((.loc 0 1), [.int .i64 a0.Channels, .sl 21 (.own (.row 6 6)) ((cpL x15 (List.take x15.length x16)).map (PV.int .i32))]), ((.loc 0 3), [.int .i64 0, .int .i64 0, .int .i64 0, .int .i64 0, .sl 21 .full []]), ((.loc 6 8), [.int .i64 a0.Channels, .sl 21 (.own (.row 6 6)) ((cpL x15 (List.take x15.length x16)).map (PV.int .i32))])]⟩,
            ⟨[(59, .agg [.int .i64 a0.Channels, .sl 21 (.own (.row 6 6)) ((cpL x15 (List.take x15.length x16)).map (PV.int .i32))]), (60, .int .i64 a1), (61, .int .i64 (iMin a1 y14)), (62, .int .i64 (w64 (a1 - (iMin a1 y14)))), (63, .agg [.int .i64 a0.Channels, .int .i64 a0.Capacity, .int .i64 a0.Written, .int .i64 (w64 (a0.Read + (iMin a1 y14))), .sl 21 .ro (y18.map (PV.int .i32))]), (5, .int .i64 (w64 (a1 - (iMin a1 y14)))), (7, .int .i64 0), (1, .int .i64 a1), (2, .ptr (.loc 0 0) 0), (4, .ptr (.loc 0 1) 0), (6, .ptr (.loc 0 3) 0), (8, .int .i64 (iMin a1 y14)), (9, .ptr (.loc 6 8) 0)], [], [((.loc 0 0), [.int .i64 a0.Channels, .int .i64 a0.Capacity, .int .i64 a0.Written, .int .i64 (w64 (a0.Read + (iMin a1 y14))), .sl 21 .ro (y18.map (PV.int .i32))]), ((.loc 0 1), [.int .i64 a0.Channels, .sl 21 (.own (.row 6 6)) ((cpL x15 (List.take x15.length x16)).map (PV.int .i32))]), ((.loc 0 3), [.int .i64 a0.Channels, .int .i64 a0.Capacity, .int .i64 a0.Written, .int .i64 (w64 (a0.Read + (iMin a1 y14))), .sl 21 .ro (y18.map (PV.int .i32))]), ((.loc 6 8), [.int .i64 a0.Channels, .sl 21 (.own (.row 6 6)) ((cpL x15 (List.take x15.length x16)).map (PV.int .i32))])]⟩]
            [(1, .int .i64 a1), (2, .ptr (.loc 0 0) 0), (4, .ptr (.loc 0 1) 0), (6, .ptr (.loc 0 3) 0), (8, .int .i64 (iMin a1 y14)), (9, .ptr (.loc 6 8) 0)]
            (.cons [9] [] (fun _ _ h => .val (h _)) rfl rfl <|
            .cons [1] [] (fun _ _ h => .move (h _)) rfl rfl <|
            .cons [1] [] (fun _ _ h => .move (h _)) rfl rfl <|
            .cons [8] [] (fun _ _ h => .move (h _)) rfl rfl <|
            .cons [8] [] (fun _ _ h => .move (h _)) rfl rfl <|
            .cons [60, 61] [] (fun _ _ h => .val (h _)) rfl rfl <|
            .cons [60, 61] [] (fun _ _ h => .val (h _)) rfl rfl <|
            .cons [2] [] (fun _ _ h => .val (h _)) rfl rfl <|
            .cons [2] [] (fun _ _ h => .val (h _)) rfl rfl <|
            .cons [62] [] (fun _ _ h => .assign (h _)) rfl rfl <|
            .cons [] [] (fun _ _ h => .assign (h _)) rfl rfl <|
            .nil)
            (.cons (fun x => x) [4, 59] [] (fun _ _ h => .wrL (cs := [.int .i64 a0.Channels, .sl 21 (.own (.row 6 6)) ((cpL x15 (List.take x15.length x16)).map (PV.int .i32))]) (h _ _ (.cons rfl (.cons rfl (.cons rfl (.cons rfl (.nil))))))) rfl (.old rfl (.old rfl (.old rfl (.old rfl (.old rfl (.new rfl (.old rfl (.old rfl (.old rfl (.old rfl (.old rfl (.old rfl (.nil))))))))))))) rfl rfl <|
            .cons (fun x => x) [6, 63] [] (fun _ _ h => .wrL (cs := [.int .i64 a0.Channels, .int .i64 a0.Capacity, .int .i64 a0.Written, .int .i64 (w64 (a0.Read + (iMin a1 y14))), .sl 21 .ro (y18.map (PV.int .i32))]) (h _ _ (.cons rfl (.cons rfl (.cons rfl (.cons rfl (.nil))))))) rfl (.old rfl (.old rfl (.old rfl (.old rfl (.old rfl (.old rfl (.new rfl (.old rfl (.old rfl (.old rfl (.old rfl (.old rfl (.old rfl (.nil)))))))))))))) rfl rfl <|
            .nil)
            (by kernel_rfl) rfl (.cons rfl (.cons rfl (.cons rfl (.cons rfl (.cons rfl (.cons rfl (.nil))))))) (.nil) (.cons rfl (.cons rfl (.cons rfl (.cons rfl (.nil))))) ?_
          cases h
          exact .ret (fin_gen0 none)

/- soundservice/soundservicelaw17.sane -/
def f14 (n : Nat)  : Option Bool :=
  (f15 n (1 : Int) (2 : Int)).bind fun y1 =>
  (f16 n (⟨y1.1.Channels, y1.1.Capacity, y1.1.Written, y1.1.Read, y1.1.Data⟩ : Ring) (⟨1, ([1, 2, 3] : List Int)⟩ : Block)).bind fun y2 =>
  (f17 n (⟨y2.1.Channels, y2.1.Capacity, y2.1.Written, y2.1.Read, y2.1.Data⟩ : Ring) (3 : Int)).bind fun y3 =>
  if (y1.2 == (0 : Int)) then (
  if (y2.2.2 == (0 : Int)) then (
  if (y3.2.2.2 == (0 : Int)) then (
  if (y2.2.1 == (1 : Int)) then (
  if (y3.2.1 == (1 : Int)) then (
  if ((y3.1.Data.length : Int) == (3 : Int)) then (
  (lAt y3.1.Data (1 : Int)).bind fun x23 =>
  if (x23 == (2 : Int)) then (
  (lAt y3.1.Data (2 : Int)).bind fun x25 =>
  if (x25 == (0 : Int)) then (
  (f18 n (⟨y2.1.Channels, y2.1.Capacity, y2.1.Written, y2.1.Read, y2.1.Data⟩ : Ring)).bind fun y27 =>
  if (y27 == (2 : Int)) then (
  (f31 n (⟨y2.1.Channels, y2.1.Capacity, y2.1.Written, y2.1.Read, y2.1.Data⟩ : Ring)).bind fun y29 =>
  some y29)
  else (
  some false))
  else (
  some false))
  else (
  some false))
  else (
  some false))
  else (
  some false))
  else (
  some false))
  else (
  some false))
  else (
  some false))
  else (
  some false)
set_option maxHeartbeats 4000000 in
set_option maxRecDepth 100000 in
theorem g14 {n : Nat}  {r : Bool} (h : f14 n  = some r) :
    Ab.Can Try.prog 14 [] H0 (.bool r) H0 := by
  refine can_of tabOK mix Try.call14 Try.func14 rfl (by kernel_rfl) (by show _ ≤ 75; simp) fun _ => ?_
  rw [f14] at h
  refine .seq ?_
  refine .region ?_
  refine .assign ?_
  refine .nil ?_
  refine .seq ?_
  refine .region ?_
  obtain ⟨y1, hy1, h⟩ := bindE h
  refine .cP (g15 hy1) ?_
  refine .move ?_
  refine .val ?_
  refine .val ?_
  refine .allocL (cs := [.int .i64 0, .int .i64 0, .int .i64 0, .int .i64 0, .sl 21 .full []]) ?_
  refine .wrL (cs := [.int .i64 y1.1.Channels, .int .i64 y1.1.Capacity, .int .i64 y1.1.Written, .int .i64 y1.1.Read, .sl 21 .ro (y1.1.Data.map (PV.int .i32))]) ?_
  refine .assign ?_
  refine .nil ?_
  refine .seq ?_
  refine .region ?_
  refine .val (v := .agg [.int .i64 y1.1.Channels, .int .i64 y1.1.Capacity, .int .i64 y1.1.Written, .int .i64 y1.1.Read, .sl 21 .ro (y1.1.Data.map (PV.int .i32))]) ?_
  refine .litR (f := (PV.int .i32)) ([1, 2, 3] : List Int) ?_
  refine .buildL (cs := [.int .i64 1, .sl 21 .ro (([1, 2, 3] : List Int).map (PV.int .i32))]) ?_
  obtain ⟨y2, hy2, h⟩ := bindE h
  refine .cP (g16 hy2) ?_
  refine .move ?_
  refine .val ?_
  refine .val ?_
  refine .val ?_
  refine .wrL (cs := [.int .i64 y2.1.Channels, .int .i64 y2.1.Capacity, .int .i64 y2.1.Written, .int .i64 y2.1.Read, .sl 21 .ro (y2.1.Data.map (PV.int .i32))]) ?_
  refine .assign ?_
  refine .assign ?_
  refine .nil ?_
  refine .seq ?_
  refine .region ?_
  refine .val (v := .agg [.int .i64 y2.1.Channels, .int .i64 y2.1.Capacity, .int .i64 y2.1.Written, .int .i64 y2.1.Read, .sl 21 .ro (y2.1.Data.map (PV.int .i32))]) ?_
  obtain ⟨y3, hy3, h⟩ := bindE h
  refine .cP (g17 hy3) ?_
  refine .move ?_
  refine .val ?_
  refine .val ?_
  refine .val ?_
  refine .val ?_
  refine .allocL (cs := [.int .i64 0, .sl 21 .full []]) ?_
  refine .allocL (cs := [.int .i64 0, .int .i64 0, .int .i64 0, .int .i64 0, .sl 21 .full []]) ?_
  refine .wrL (cs := [.int .i64 y3.1.Channels, .sl 21 .ro (y3.1.Data.map (PV.int .i32))]) ?_
  refine .assign ?_
  refine .wrL (cs := [.int .i64 y3.2.2.1.Channels, .int .i64 y3.2.2.1.Capacity, .int .i64 y3.2.2.1.Written, .int .i64 y3.2.2.1.Read, .sl 21 .ro (y3.2.2.1.Data.map (PV.int .i32))]) ?_
  refine .assign ?_
  refine .nil ?_
  refine .imp (T := St.of [(1, .ptr (.loc 1 4) 0), (2, .int .i64 y1.2), (3, .int .i64 y2.2.1), (4, .int .i64 y2.2.2), (5, .ptr (.loc 3 7) 0), (6, .int .i64 y3.2.1), (8, .int .i64 y3.2.2.2)] [((.loc 1 4), [.int .i64 y2.1.Channels, .int .i64 y2.1.Capacity, .int .i64 y2.1.Written, .int .i64 y2.1.Read, .sl 21 .ro (y2.1.Data.map (PV.int .i32))]), ((.loc 3 7), [.int .i64 y3.1.Channels, .sl 21 .ro (y3.1.Data.map (PV.int .i32))])]) (imp_of (.cons rfl (.cons rfl (.cons rfl (.cons rfl (.cons rfl (.cons rfl (.cons rfl (.nil)))))))) (.cons rfl (.cons rfl (.nil)))) ?_
  refine .seq ?_
  refine .region ?_
  refine .move ?_
  refine .val ?_
  refine .move ?_
  refine .caseG (fun hc17 => ?_) (fun hc17 => ?_)
  · replace h := (if_pos hc17).symm.trans h
    refine .move ?_
    refine .val ?_
    refine .brT ?_
    refine .move ?_
    refine .caseG (fun hc18 => ?_) (fun hc18 => ?_)
    · replace h := (if_pos hc18).symm.trans h
      refine .move ?_
      refine .val ?_
      refine .brT ?_
      refine .move ?_
      refine .caseG (fun hc19 => ?_) (fun hc19 => ?_)
      · replace h := (if_pos hc19).symm.trans h
        refine .move ?_
        refine .val ?_
        refine .brT ?_
        refine .move ?_
        refine .caseG (fun hc20 => ?_) (fun hc20 => ?_)
        · replace h := (if_pos hc20).symm.trans h
          refine .move ?_
          refine .val ?_
          refine .brT ?_
          refine .move ?_
          refine .caseG (fun hc21 => ?_) (fun hc21 => ?_)
          · replace h := (if_pos hc21).symm.trans h
            refine .val ?_
            refine .val ?_
            refine .lenL (f := (PV.int .i32)) ?_
            refine .val ?_
            refine .brT ?_
            refine .move ?_
            refine .caseG (fun hc22 => ?_) (fun hc22 => ?_)
            · replace h := (if_pos hc22).symm.trans h
              refine .val ?_
              refine .val ?_
              obtain ⟨x23, hx23, h⟩ := bindE h
              refine .idxL (f := (PV.int .i32)) hx23 ?_
              refine .ldL hx23 (y := .int .i32 x23) ?_
              refine .val ?_
              refine .brT ?_
              refine .move ?_
              refine .caseG (fun hc24 => ?_) (fun hc24 => ?_)
              · replace h := (if_pos hc24).symm.trans h
                refine .val ?_
                refine .val ?_
                obtain ⟨x25, hx25, h⟩ := bindE h
                refine .idxL (f := (PV.int .i32)) hx25 ?_
                refine .ldL hx25 (y := .int .i32 x25) ?_
                refine .val ?_
                refine .brT ?_
                refine .move ?_
                refine .caseG (fun hc26 => ?_) (fun hc26 => ?_)
                · replace h := (if_pos hc26).symm.trans h
                  refine .val (v := .agg [.int .i64 y2.1.Channels, .int .i64 y2.1.Capacity, .int .i64 y2.1.Written, .int .i64 y2.1.Read, .sl 21 .ro (y2.1.Data.map (PV.int .i32))]) ?_
                  obtain ⟨y27, hy27, h⟩ := bindE h
                  refine .cP (g18 hy27) ?_
                  refine .val ?_
                  refine .brT ?_
                  refine .move ?_
                  refine .caseG (fun hc28 => ?_) (fun hc28 => ?_)
                  · replace h := (if_pos hc28).symm.trans h
                    refine .val (v := .agg [.int .i64 y2.1.Channels, .int .i64 y2.1.Capacity, .int .i64 y2.1.Written, .int .i64 y2.1.Read, .sl 21 .ro (y2.1.Data.map (PV.int .i32))]) ?_
                    obtain ⟨y29, hy29, h⟩ := bindE h
                    refine .cP (g31 hy29) ?_
                    refine .brT ?_
                    refine .assign ?_
                    refine .nil ?_
                    cases h
                    exact .ret (fin_gen0 none)
                  · replace h := (if_neg (nt hc28)).symm.trans h
                    refine .skip ?_
                    refine .skip ?_
                    refine .brF ?_
                    refine .assign ?_
                    refine .nil ?_
                    cases h
                    exact .ret (fin_gen0 none)
                · replace h := (if_neg (nt hc26)).symm.trans h
                  refine .skip ?_
                  refine .skip ?_
                  refine .skip ?_
                  refine .brF ?_
                  refine .move ?_
                  refine .skip ?_
                  refine .skip ?_
                  refine .brF ?_
                  refine .assign ?_
                  refine .nil ?_
                  cases h
                  exact .ret (fin_gen0 none)
              · replace h := (if_neg (nt hc24)).symm.trans h
                refine .skip ?_
                refine .skip ?_
                refine .skip ?_
                refine .skip ?_
                refine .skip ?_
                refine .brF ?_
                refine .move ?_
                refine .skip ?_
                refine .skip ?_
                refine .skip ?_
                refine .brF ?_
                refine .move ?_
                refine .skip ?_
                refine .skip ?_
                refine .brF ?_
                refine .assign ?_
                refine .nil ?_
                cases h
                exact .ret (fin_gen0 none)
            · replace h := (if_neg (nt hc22)).symm.trans h
              refine .skip ?_
              refine .skip ?_
              refine .skip ?_
              refine .skip ?_
              refine .skip ?_
              refine .brF ?_
              refine .move ?_
              refine .skip ?_
              refine .skip ?_
              refine .skip ?_
              refine .skip ?_
              refine .skip ?_
              refine .brF ?_
              refine .move ?_
              refine .skip ?_
              refine .skip ?_
              refine .skip ?_
              refine .brF ?_
              refine .move ?_
              refine .skip ?_
              refine .skip ?_
              refine .brF ?_
              refine .assign ?_
              refine .nil ?_
              cases h
              exact .ret (fin_gen0 none)
          · replace h := (if_neg (nt hc21)).symm.trans h
            refine .skip ?_
            refine .skip ?_
            refine .skip ?_
            refine .skip ?_
            refine .brF ?_
            refine .move ?_
            refine .skip ?_
            refine .skip ?_
            refine .skip ?_
            refine .skip ?_
            refine .skip ?_
            refine .brF ?_
            refine .move ?_
            refine .skip ?_
            refine .skip ?_
            refine .skip ?_
            refine .skip ?_
            refine .skip ?_
            refine .brF ?_
            refine .move ?_
            refine .skip ?_
            refine .skip ?_
            refine .skip ?_
            refine .brF ?_
            refine .move ?_
            refine .skip ?_
            refine .skip ?_
            refine .brF ?_
            refine .assign ?_
            refine .nil ?_
            cases h
            exact .ret (fin_gen0 none)
        · replace h := (if_neg (nt hc20)).symm.trans h
          refine .skip ?_
          refine .skip ?_
          refine .brF ?_
          refine .move ?_
          refine .skip ?_
          refine .skip ?_
          refine .skip ?_
          refine .skip ?_
          refine .brF ?_
          refine .move ?_
          refine .skip ?_
          refine .skip ?_
          refine .skip ?_
          refine .skip ?_
          refine .skip ?_
          refine .brF ?_
          refine .move ?_
          refine .skip ?_
          refine .skip ?_
          refine .skip ?_
          refine .skip ?_
          refine .skip ?_
          refine .brF ?_
          refine .move ?_
          refine .skip ?_
          refine .skip ?_
          refine .skip ?_
          refine .brF ?_
          refine .move ?_
          refine .skip ?_
          refine .skip ?_
          refine .brF ?_
          refine .assign ?_
          refine .nil ?_
          cases h
          exact .ret (fin_gen0 none)
      · replace h := (if_neg (nt hc19)).symm.trans h
        refine .skip ?_
        refine .skip ?_
        refine .brF ?_
        refine .move ?_
        refine .skip ?_
        refine .skip ?_
        refine .brF ?_
        refine .move ?_
        refine .skip ?_
        refine .skip ?_
        refine .skip ?_
        refine .skip ?_
        refine .brF ?_
        refine .move ?_
        refine .skip ?_
        refine .skip ?_
        refine .skip ?_
        refine .skip ?_
        refine .skip ?_
        refine .brF ?_
        refine .move ?_
        refine .skip ?_
        refine .skip ?_
        refine .skip ?_
        refine .skip ?_
        refine .skip ?_
        refine .brF ?_
        refine .move ?_
        refine .skip ?_
        refine .skip ?_
        refine .skip ?_
        refine .brF ?_
        refine .move ?_
        refine .skip ?_
        refine .skip ?_
        refine .brF ?_
        refine .assign ?_
        refine .nil ?_
        cases h
        exact .ret (fin_gen0 none)
    · replace h := (if_neg (nt hc18)).symm.trans h
      refine .skip ?_
      refine .skip ?_
      refine .brF ?_
      refine .move ?_
      refine .skip ?_
      refine .skip ?_
      refine .brF ?_
      refine .move ?_
      refine .skip ?_
      refine .skip ?_
      refine .brF ?_
      refine .move ?_
      refine .skip ?_
      refine .skip ?_
      refine .skip ?_
      refine .skip ?_
      refine .brF ?_
      refine .move ?_
      refine .skip ?_
      refine .skip ?_
      refine .skip ?_
      refine .skip ?_
      refine .skip ?_
      refine .brF ?_
      refine .move ?_
      refine .skip ?_
      refine .skip ?_
      refine .skip ?_
      refine .skip ?_
      refine .skip ?_
      refine .brF ?_
      refine .move ?_
      refine .skip ?_
      refine .skip ?_
      refine .skip ?_
      refine .brF ?_
      refine .move ?_
      refine .skip ?_
      refine .skip ?_
      refine .brF ?_
      refine .assign ?_
      refine .nil ?_
      cases h
      exact .ret (fin_gen0 none)
  · replace h := (if_neg (nt hc17)).symm.trans h
    refine .skip ?_
    refine .skip ?_
    refine .brF ?_
    refine .move ?_
    refine .skip ?_
    refine .skip ?_
    refine .brF ?_
    refine .move ?_
    refine .skip ?_
    refine .skip ?_
    refine .brF ?_
    refine .move ?_
    refine .skip ?_
    refine .skip ?_
    refine .brF ?_
    refine .move ?_
    refine .skip ?_
    refine .skip ?_
    refine .skip ?_
    refine .skip ?_
    refine .brF ?_
    refine .move ?_
    refine .skip ?_
    refine .skip ?_
    refine .skip ?_
    refine .skip ?_
    refine .skip ?_
    refine .brF ?_
    refine .move ?_
    refine .skip ?_
    refine .skip ?_
    refine .skip ?_
    refine .skip ?_
    refine .skip ?_
    refine .brF ?_
    refine .move ?_
    refine .skip ?_
    refine .skip ?_
    refine .skip ?_
    refine .brF ?_
    refine .move ?_
    refine .skip ?_
    refine .skip ?_
    refine .brF ?_
    refine .assign ?_
    refine .nil ?_
    cases h
    exact .ret (fin_gen0 none)

/- soundservice/soundserviceref17.Valid -/
def f32 (n : Nat) (a0 : Ring) : Option Bool :=
  if decide (a0.Capacity ≥ (1 : Int)) then (
  if decide (a0.Capacity ≤ (65536 : Int)) then (
  if decide (a0.Read ≥ (0 : Int)) then (
  if decide (a0.Read ≤ a0.Written) then (
  if decide (a0.Written ≤ (1125899906842624 : Int)) then (
  (f75 n (⟨a0.Channels, a0.Capacity, a0.Written, a0.Read, a0.Data⟩ : Ring)).bind fun y16 =>
  (f74 n y16).bind fun y17 =>
  if y17 then (
  (iDiv .i64 (a0.Data.length : Int) a0.Channels).bind fun x19 =>
  if (x19 == (w64 (a0.Written - a0.Read))) then (
  some (decide ((w64 (a0.Written - a0.Read)) ≤ a0.Capacity)))
  else (
  some false))
  else (
  some false))
  else (
  some false))
  else (
  some false))
  else (
  some false))
  else (
  some false))
  else (
  some false)
set_option maxHeartbeats 4000000 in
set_option maxRecDepth 100000 in
theorem g32 {n : Nat} {a0 : Ring} {r : Bool} (h : f32 n a0 = some r) :
    Ab.Can Try.prog 32 [.agg [.int .i64 a0.Channels, .int .i64 a0.Capacity, .int .i64 a0.Written, .int .i64 a0.Read, .sl 21 .ro (a0.Data.map (PV.int .i32))]] H0 (.bool r) H0 := by
  refine can_of tabOK mix Try.call32 Try.func32 rfl (by kernel_rfl) (by show _ ≤ 57; simp) fun _ => ?_
  rw [f32] at h
  refine .seq ?_
  refine .region ?_
  refine .boxL (cs := [.int .i64 a0.Channels, .int .i64 a0.Capacity, .int .i64 a0.Written, .int .i64 a0.Read, .sl 21 .ro (a0.Data.map (PV.int .i32))]) ?_
  refine .assign ?_
  refine .nil ?_
  refine .seq ?_
  rcases bool_em (decide (a0.Capacity ≥ (1 : Int))) with hc11 | hc11
  · replace h := (if_pos hc11).symm.trans h
    rcases bool_em (decide (a0.Capacity ≤ (65536 : Int))) with hc12 | hc12
    · replace h := (if_pos hc12).symm.trans h
      rcases bool_em (decide (a0.Read ≥ (0 : Int))) with hc13 | hc13
      · replace h := (if_pos hc13).symm.trans h
        rcases bool_em (decide (a0.Read ≤ a0.Written)) with hc14 | hc14
        · replace h := (if_pos hc14).symm.trans h
          rcases bool_em (decide (a0.Written ≤ (1125899906842624 : Int))) with hc15 | hc15
          · replace h := (if_pos hc15).symm.trans h
            obtain ⟨y16, hy16, h⟩ := bindE h
            obtain ⟨y17, hy17, h⟩ := bindE h
            rcases bool_em (y17) with hc18 | hc18
            · replace h := (if_pos hc18).symm.trans h
              obtain ⟨x19, hx19, h⟩ := bindE h
              rcases bool_em ((x19 == (w64 (a0.Written - a0.Read)))) with hc20 | hc20
              · replace h := (if_pos hc20).symm.trans h
                refine .draw [] [[], [], [], [], [], [], [], [], [], [], [], [], [], [], [], [], [], [], [], [], [], [], [], [], [], [], [], [], [], [], [], [], [], [], [], [], [], [], [], [], [], [], [], [], [], [], [], [], [], [], [], [], [], [], []] [[], [], [], [], [], [], [], [], [], [], [], [], [], [], [], [], [], [], [], [], [], [], [], [], [], [], [], [], [], [], [], [], [], [], [], [], [], [], [], [], [], [], [], [], [], [], [], [], [], [], [], [], [], [], []] [[]]
                  [(0, 0), (1, 0), (2, 0), (3, 0), (4, 0), (5, 0), (6, 0), (7, 0), (8, 0), (9, 0), (10, 0), (11, 0), (12, 0), (13, 0), (14, 0), (15, 0), (16, 0), (17, 0), (18, 0), (19, 0), (20, 0), (21, 0), (22, 0), (23, 0), (24, 0), (25, 0), (26, 0), (27, 0), (28, 0), (29, 0), (30, 0), (31, 0), (32, 0), (33, 0), (34, 0), (35, 0), (36, 0), (37, 0), (38, 0), (39, 0), (40, 0), (41, 0), (42, 0), (43, 0), (44, 0), (45, 0), (46, 0), (47, 0), (48, 0), (49, 0), (50, 0), (51, 0), (52, 0), (53, 0), (54, 0)] [] 0
                  [⟨[(3, .ptr (.loc 0 0) 1), (4, .int .i64 a0.Capacity), (5, .bool true), (6, .bool true), (7, .ptr (.loc 0 0) 1), (8, .int .i64 a0.Capacity), (9, .bool true), (10, .bool true), (11, .bool true), (12, .ptr (.loc 0 0) 3), (13, .int .i64 a0.Read), (14, .bool true), (15, .bool true), (16, .bool true), (17, .ptr (.loc 0 0) 3), (18, .int .i64 a0.Read), (19, .ptr (.loc 0 0) 2), (20, .int .i64 a0.Written), (21, .bool true), (22, .bool true), (23, .bool true), (24, .ptr (.loc 0 0) 2), (25, .int .i64 a0.Written), (26, .bool true), (27, .bool true), (28, .bool true), (29, .agg [.int .i64 a0.Channels, .int .i64 a0.Capacity, .int .i64 a0.Written, .int .i64 a0.Read, .sl 21 .ro (a0.Data.map (PV.int .i32))]), (30, .agg [.int .i64 y16.Channels, .sl 21 .ro (y16.Data.map (PV.int .i32))]), (31, .bool true), (32, .bool true), (33, .bool true), (34, .ptr (.loc 0 0) 4), (35, .sl 21 .ro (a0.Data.map (PV.int .i32))), (36, .int .i64 (a0.Data.length : Int)), (37, .ptr (.loc 0 0) 0), (38, .int .i64 a0.Channels), (39, .int .i64 x19), (40, .ptr (.loc 0 0) 2), (41, .int .i64 a0.Written), (42, .ptr (.loc 0 0) 3), (43, .int .i64 a0.Read), (44, .int .i64 (w64 (a0.Written - a0.Read))), (45, .bool true), (46, .bool true), (47, .bool true), (48, .ptr (.loc 0 0) 2), (49, .int .i64 a0.Written), (50, .ptr (.loc 0 0) 3), (51, .int .i64 a0.Read), (52, .int .i64 (w64 (a0.Written - a0.Read))), (53, .ptr (.loc 0 0) 1), (54, .int .i64 a0.Capacity), (55, .bool (decide ((w64 (a0.Written - a0.Read)) ≤ a0.Capacity))), (56, .bool (decide ((w64 (a0.Written - a0.Read)) ≤ a0.Capacity))), (2, .bool (decide ((w64 (a0.Written - a0.Read)) ≤ a0.Capacity))), (1, .ptr (.loc 0 0) 0)], [], [((.loc 0 0), [.int .i64 a0.Channels, .int .i64 a0.Capacity, .int .i64 a0.Written, .int .i64 a0.Read, .sl 21 .ro (a0.Data.map (PV.int .i32))])]⟩]
                  [(1, .ptr (.loc 0 0) 0)]
                  (.cons [1] [] (fun _ _ h => .val (h _)) rfl rfl <|
                  .cons [3] [] (fun _ _ h => .val (h _)) rfl rfl <|
                  .cons [4] [] (fun _ _ h => .valB hc11 (h _)) rfl rfl <|
                  .cons [5] [] (fun _ _ h => .move (h _)) rfl rfl <|
                  .cons [1, 6] [] (fun _ _ h => .val (h _)) rfl rfl <|
                  .cons [7, 6] [] (fun _ _ h => .val (h _)) rfl rfl <|
                  .cons [8, 6] [] (fun _ _ h => .valB hc12 (h _)) rfl rfl <|
                  .cons [6, 9] [] (fun _ _ h => .brT (h _)) rfl rfl <|
                  .cons [10] [] (fun _ _ h => .move (h _)) rfl rfl <|
                  .cons [1, 11] [] (fun _ _ h => .val (h _)) rfl rfl <|
                  .cons [12, 11] [] (fun _ _ h => .val (h _)) rfl rfl <|
                  .cons [13, 11] [] (fun _ _ h => .valB hc13 (h _)) rfl rfl <|
                  .cons [11, 14] [] (fun _ _ h => .brT (h _)) rfl rfl <|
                  .cons [15] [] (fun _ _ h => .move (h _)) rfl rfl <|
                  .cons [1, 16] [] (fun _ _ h => .val (h _)) rfl rfl <|
                  .cons [17, 16] [] (fun _ _ h => .val (h _)) rfl rfl <|
                  .cons [1, 16] [] (fun _ _ h => .val (h _)) rfl rfl <|
                  .cons [19, 16] [] (fun _ _ h => .val (h _)) rfl rfl <|
                  .cons [18, 20, 16] [] (fun _ _ h => .valB hc14 (h _)) rfl rfl <|
                  .cons [16, 21] [] (fun _ _ h => .brT (h _)) rfl rfl <|
                  .cons [22] [] (fun _ _ h => .move (h _)) rfl rfl <|
                  .cons [1, 23] [] (fun _ _ h => .val (h _)) rfl rfl <|
                  .cons [24, 23] [] (fun _ _ h => .val (h _)) rfl rfl <|
                  .cons [25, 23] [] (fun _ _ h => .valB hc15 (h _)) rfl rfl <|
                  .cons [23, 26] [] (fun _ _ h => .brT (h _)) rfl rfl <|
                  .cons [27] [] (fun _ _ h => .move (h _)) rfl rfl <|
                  .cons [1, 28] [] (fun _ _ h => .val (h _)) rfl rfl <|
                  .cons [29, 28] [] (fun _ _ h => .cP (g75 hy16) (h _)) rfl rfl <|
                  .cons [30, 28] [] (fun _ _ h => .cP (g74 hy17) (by rw [hc18]; exact h _)) rfl rfl <|
                  .cons [28, 31] [] (fun _ _ h => .brT (h _)) rfl rfl <|
                  .cons [32] [] (fun _ _ h => .move (h _)) rfl rfl <|
                  .cons [1, 33] [] (fun _ _ h => .val (h _)) rfl rfl <|
                  .cons [34, 33] [] (fun _ _ h => .val (h _)) rfl rfl <|
                  .cons [35, 33] [] (fun _ _ h => .lenL (f := (PV.int .i32)) (h _)) rfl rfl <|
                  .cons [1, 33] [] (fun _ _ h => .val (h _)) rfl rfl <|
                  .cons [37, 33] [] (fun _ _ h => .val (h _)) rfl rfl <|
                  .cons [36, 38, 33] [] (fun _ _ h => .divL hx19 (h _)) rfl rfl <|
                  .cons [1, 33] [] (fun _ _ h => .val (h _)) rfl rfl <|
                  .cons [40, 33] [] (fun _ _ h => .val (h _)) rfl rfl <|
                  .cons [1, 33] [] (fun _ _ h => .val (h _)) rfl rfl <|
                  .cons [42, 33] [] (fun _ _ h => .val (h _)) rfl rfl <|
                  .cons [41, 43, 33] [] (fun _ _ h => .val (h _)) rfl rfl <|
                  .cons [39, 44, 33] [] (fun _ _ h => .valB hc20 (h _)) rfl rfl <|
                  .cons [33, 45] [] (fun _ _ h => .brT (h _)) rfl rfl <|
                  .cons [46] [] (fun _ _ h => .move (h _)) rfl rfl <|
                  .cons [1, 47] [] (fun _ _ h => .val (h _)) rfl rfl <|
                  .cons [48, 47] [] (fun _ _ h => .val (h _)) rfl rfl <|
                  .cons [1, 47] [] (fun _ _ h => .val (h _)) rfl rfl <|
                  .cons [50, 47] [] (fun _ _ h => .val (h _)) rfl rfl <|
                  .cons [49, 51, 47] [] (fun _ _ h => .val (h _)) rfl rfl <|
                  .cons [1, 47] [] (fun _ _ h => .val (h _)) rfl rfl <|
                  .cons [53, 47] [] (fun _ _ h => .val (h _)) rfl rfl <|
                  .cons [52, 54, 47] [] (fun _ _ h => .val (h _)) rfl rfl <|
                  .cons [47, 55] [] (fun _ _ h => .brT (h _)) rfl rfl <|
                  .cons [56] [] (fun _ _ h => .assign (h _)) rfl rfl <|
                  .nil)
                  (.nil)
                  (by kernel_rfl) rfl (.cons rfl (.nil)) (.nil) (.cons rfl (.nil)) ?_
                cases h
                exact .ret (fin_gen0 none)
              · replace h := (if_neg (nt hc20)).symm.trans h
                refine .draw [] [[], [], [], [], [], [], [], [], [], [], [], [], [], [], [], [], [], [], [], [], [], [], [], [], [], [], [], [], [], [], [], [], [], [], [], [], [], [], [], [], [], [], [], [], [], [], [], [], [], [], [], [], [], [], []] [[], [], [], [], [], [], [], [], [], [], [], [], [], [], [], [], [], [], [], [], [], [], [], [], [], [], [], [], [], [], [], [], [], [], [], [], [], [], [], [], [], [], [], [], [], [], [], [], [], [], [], [], [], [], []] [[]]
                  [(0, 0), (1, 0), (2, 0), (3, 0), (4, 0), (5, 0), (6, 0), (7, 0), (8, 0), (9, 0), (10, 0), (11, 0), (12, 0), (13, 0), (14, 0), (15, 0), (16, 0), (17, 0), (18, 0), (19, 0), (20, 0), (21, 0), (22, 0), (23, 0), (24, 0), (25, 0), (26, 0), (27, 0), (28, 0), (29, 0), (30, 0), (31, 0), (32, 0), (33, 0), (34, 0), (35, 0), (36, 0), (37, 0), (38, 0), (39, 0), (40, 0), (41, 0), (42, 0), (43, 0), (44, 0), (45, 0), (46, 0), (47, 0), (48, 0), (49, 0), (50, 0), (51, 0), (52, 0), (53, 0), (54, 0)] [] 0
                  [⟨[(3, .ptr (.loc 0 0) 1), (4, .int .i64 a0.Capacity), (5, .bool true), (6, .bool true), (7, .ptr (.loc 0 0) 1), (8, .int .i64 a0.Capacity), (9, .bool true), (10, .bool true), (11, .bool true), (12, .ptr (.loc 0 0) 3), (13, .int .i64 a0.Read), (14, .bool true), (15, .bool true), (16, .bool true), (17, .ptr (.loc 0 0) 3), (18, .int .i64 a0.Read), (19, .ptr (.loc 0 0) 2), (20, .int .i64 a0.Written), (21, .bool true), (22, .bool true), (23, .bool true), (24, .ptr (.loc 0 0) 2), (25, .int .i64 a0.Written), (26, .bool true), (27, .bool true), (28, .bool true), (29, .agg [.int .i64 a0.Channels, .int .i64 a0.Capacity, .int .i64 a0.Written, .int .i64 a0.Read, .sl 21 .ro (a0.Data.map (PV.int .i32))]), (30, .agg [.int .i64 y16.Channels, .sl 21 .ro (y16.Data.map (PV.int .i32))]), (31, .bool true), (32, .bool true), (33, .bool true), (34, .ptr (.loc 0 0) 4), (35, .sl 21 .ro (a0.Data.map (PV.int .i32))), (36, .int .i64 (a0.Data.length : Int)), (37, .ptr (.loc 0 0) 0), (38, .int .i64 a0.Channels), (39, .int .i64 x19), (40, .ptr (.loc 0 0) 2), (41, .int .i64 a0.Written), (42, .ptr (.loc 0 0) 3), (43, .int .i64 a0.Read), (44, .int .i64 (w64 (a0.Written - a0.Read))), (45, .bool false), (46, .bool false), (47, .bool false), (48, .tup []), (49, .tup []), (50, .tup []), (51, .tup []), (52, .tup []), (53, .tup []), (54, .tup []), (55, .tup []), (56, .bool false), (2, .bool false), (1, .ptr (.loc 0 0) 0)], [], [((.loc 0 0), [.int .i64 a0.Channels, .int .i64 a0.Capacity, .int .i64 a0.Written, .int .i64 a0.Read, .sl 21 .ro (a0.Data.map (PV.int .i32))])]⟩]
                  [(1, .ptr (.loc 0 0) 0)]
                  (.cons [1] [] (fun _ _ h => .val (h _)) rfl rfl <|
                  .cons [3] [] (fun _ _ h => .val (h _)) rfl rfl <|
                  .cons [4] [] (fun _ _ h => .valB hc11 (h _)) rfl rfl <|
                  .cons [5] [] (fun _ _ h => .move (h _)) rfl rfl <|
                  .cons [1, 6] [] (fun _ _ h => .val (h _)) rfl rfl <|
                  .cons [7, 6] [] (fun _ _ h => .val (h _)) rfl rfl <|
                  .cons [8, 6] [] (fun _ _ h => .valB hc12 (h _)) rfl rfl <|
                  .cons [6, 9] [] (fun _ _ h => .brT (h _)) rfl rfl <|
                  .cons [10] [] (fun _ _ h => .move (h _)) rfl rfl <|
                  .cons [1, 11] [] (fun _ _ h => .val (h _)) rfl rfl <|
                  .cons [12, 11] [] (fun _ _ h => .val (h _)) rfl rfl <|
                  .cons [13, 11] [] (fun _ _ h => .valB hc13 (h _)) rfl rfl <|
                  .cons [11, 14] [] (fun _ _ h => .brT (h _)) rfl rfl <|
                  .cons [15] [] (fun _ _ h => .move (h _)) rfl rfl <|
                  .cons [1, 16] [] (fun _ _ h => .val (h _)) rfl rfl <|
                  .cons [17, 16] [] (fun _ _ h => .val (h _)) rfl rfl <|
                  .cons [1, 16] [] (fun _ _ h => .val (h _)) rfl rfl <|
                  .cons [19, 16] [] (fun _ _ h => .val (h _)) rfl rfl <|
                  .cons [18, 20, 16] [] (fun _ _ h => .valB hc14 (h _)) rfl rfl <|
                  .cons [16, 21] [] (fun _ _ h => .brT (h _)) rfl rfl <|
                  .cons [22] [] (fun _ _ h => .move (h _)) rfl rfl <|
                  .cons [1, 23] [] (fun _ _ h => .val (h _)) rfl rfl <|
                  .cons [24, 23] [] (fun _ _ h => .val (h _)) rfl rfl <|
                  .cons [25, 23] [] (fun _ _ h => .valB hc15 (h _)) rfl rfl <|
                  .cons [23, 26] [] (fun _ _ h => .brT (h _)) rfl rfl <|
                  .cons [27] [] (fun _ _ h => .move (h _)) rfl rfl <|
                  .cons [1, 28] [] (fun _ _ h => .val (h _)) rfl rfl <|
                  .cons [29, 28] [] (fun _ _ h => .cP (g75 hy16) (h _)) rfl rfl <|
                  .cons [30, 28] [] (fun _ _ h => .cP (g74 hy17) (by rw [hc18]; exact h _)) rfl rfl <|
                  .cons [28, 31] [] (fun _ _ h => .brT (h _)) rfl rfl <|
                  .cons [32] [] (fun _ _ h => .move (h _)) rfl rfl <|
                  .cons [1, 33] [] (fun _ _ h => .val (h _)) rfl rfl <|
                  .cons [34, 33] [] (fun _ _ h => .val (h _)) rfl rfl <|
                  .cons [35, 33] [] (fun _ _ h => .lenL (f := (PV.int .i32)) (h _)) rfl rfl <|
                  .cons [1, 33] [] (fun _ _ h => .val (h _)) rfl rfl <|
                  .cons [37, 33] [] (fun _ _ h => .val (h _)) rfl rfl <|
                  .cons [36, 38, 33] [] (fun _ _ h => .divL hx19 (h _)) rfl rfl <|
                  .cons [1, 33] [] (fun _ _ h => .val (h _)) rfl rfl <|
                  .cons [40, 33] [] (fun _ _ h => .val (h _)) rfl rfl <|
                  .cons [1, 33] [] (fun _ _ h => .val (h _)) rfl rfl <|
                  .cons [42, 33] [] (fun _ _ h => .val (h _)) rfl rfl <|
                  .cons [41, 43, 33] [] (fun _ _ h => .val (h _)) rfl rfl <|
                  .cons [39, 44, 33] [] (fun _ _ h => .valB hc20 (h _)) rfl rfl <|
                  .cons [33, 45] [] (fun _ _ h => .brT (h _)) rfl rfl <|
                  .cons [46] [] (fun _ _ h => .move (h _)) rfl rfl <|
                  .cons [47] [] (fun _ _ h => .skip (h _)) rfl rfl <|
                  .cons [47] [] (fun _ _ h => .skip (h _)) rfl rfl <|
                  .cons [47] [] (fun _ _ h => .skip (h _)) rfl rfl <|
                  .cons [47] [] (fun _ _ h => .skip (h _)) rfl rfl <|
                  .cons [47] [] (fun _ _ h => .skip (h _)) rfl rfl <|
                  .cons [47] [] (fun _ _ h => .skip (h _)) rfl rfl <|
                  .cons [47] [] (fun _ _ h => .skip (h _)) rfl rfl <|
                  .cons [47] [] (fun _ _ h => .skip (h _)) rfl rfl <|
                  .cons [47, 55] [] (fun _ _ h => .brF (h _)) rfl rfl <|
                  .cons [56] [] (fun _ _ h => .assign (h _)) rfl rfl <|
                  .nil)
                  (.nil)
                  (by kernel_rfl) rfl (.cons rfl (.nil)) (.nil) (.cons rfl (.nil)) ?_
                cases h
                exact .ret (fin_gen0 none)
            · replace h := (if_neg (nt hc18)).symm.trans h
              refine .draw [] [[], [], [], [], [], [], [], [], [], [], [], [], [], [], [], [], [], [], [], [], [], [], [], [], [], [], [], [], [], [], [], [], [], [], [], [], [], [], [], [], [], [], [], [], [], [], [], [], [], [], [], [], [], [], []] [[], [], [], [], [], [], [], [], [], [], [], [], [], [], [], [], [], [], [], [], [], [], [], [], [], [], [], [], [], [], [], [], [], [], [], [], [], [], [], [], [], [], [], [], [], [], [], [], [], [], [], [], [], [], []] [[]]
                [(0, 0), (1, 0), (2, 0), (3, 0), (4, 0), (5, 0), (6, 0), (7, 0), (8, 0), (9, 0), (10, 0), (11, 0), (12, 0), (13, 0), (14, 0), (15, 0), (16, 0), (17, 0), (18, 0), (19, 0), (20, 0), (21, 0), (22, 0), (23, 0), (24, 0), (25, 0), (26, 0), (27, 0), (28, 0), (29, 0), (30, 0), (31, 0), (32, 0), (33, 0), (34, 0), (35, 0), (36, 0), (37, 0), (38, 0), (39, 0), (40, 0), (41, 0), (42, 0), (43, 0), (44, 0), (45, 0), (46, 0), (47, 0), (48, 0), (49, 0), (50, 0), (51, 0), (52, 0), (53, 0), (54, 0)] [] 0
                [⟨[(3, .ptr (.loc 0 0) 1), (4, .int .i64 a0.Capacity), (5, .bool true), (6, .bool true), (7, .ptr (.loc 0 0) 1), (8, .int .i64 a0.Capacity), (9, .bool true), (10, .bool true), (11, .bool true), (12, .ptr (.loc 0 0) 3), (13, .int .i64 a0.Read), (14, .bool true), (15, .bool true), (16, .bool true), (17, .ptr (.loc 0 0) 3), (18, .int .i64 a0.Read), (19, .ptr (.loc 0 0) 2), (20, .int .i64 a0.Written), (21, .bool true), (22, .bool true), (23, .bool true), (24, .ptr (.loc 0 0) 2), (25, .int .i64 a0.Written), (26, .bool true), (27, .bool true), (28, .bool true), (29, .agg [.int .i64 a0.Channels, .int .i64 a0.Capacity, .int .i64 a0.Written, .int .i64 a0.Read, .sl 21 .ro (a0.Data.map (PV.int .i32))]), (30, .agg [.int .i64 y16.Channels, .sl 21 .ro (y16.Data.map (PV.int .i32))]), (31, .bool false), (32, .bool false), (33, .bool false), (34, .tup []), (35, .tup []), (36, .tup []), (37, .tup []), (38, .tup []), (39, .tup []), (40, .tup []), (41, .tup []), (42, .tup []), (43, .tup []), (44, .tup []), (45, .tup []), (46, .bool false), (47, .bool false), (48, .tup []), (49, .tup []), (50, .tup []), (51, .tup []), (52, .tup []), (53, .tup []), (54, .tup []), (55, .tup []), (56, .bool false), (2, .bool false), (1, .ptr (.loc 0 0) 0)], [], [((.loc 0 0), [.int .i64 a0.Channels, .int .i64 a0.Capacity, .int .i64 a0.Written, .int .i64 a0.Read, .sl 21 .ro (a0.Data.map (PV.int .i32))])]⟩]
                [(1, .ptr (.loc 0 0) 0)]
                (.cons [1] [] (fun _ _ h => .val (h _)) rfl rfl <|
                .cons [3] [] (fun _ _ h => .val (h _)) rfl rfl <|
                .cons [4] [] (fun _ _ h => .valB hc11 (h _)) rfl rfl <|
                .cons [5] [] (fun _ _ h => .move (h _)) rfl rfl <|
                .cons [1, 6] [] (fun _ _ h => .val (h _)) rfl rfl <|
                .cons [7, 6] [] (fun _ _ h => .val (h _)) rfl rfl <|
                .cons [8, 6] [] (fun _ _ h => .valB hc12 (h _)) rfl rfl <|
                .cons [6, 9] [] (fun _ _ h => .brT (h _)) rfl rfl <|
                .cons [10] [] (fun _ _ h => .move (h _)) rfl rfl <|
                .cons [1, 11] [] (fun _ _ h => .val (h _)) rfl rfl <|
                .cons [12, 11] [] (fun _ _ h => .val (h _)) rfl rfl <|
                .cons [13, 11] [] (fun _ _ h => .valB hc13 (h _)) rfl rfl <|
                .cons [11, 14] [] (fun _ _ h => .brT (h _)) rfl rfl <|
                .cons [15] [] (fun _ _ h => .move (h _)) rfl rfl <|
                .cons [1, 16] [] (fun _ _ h => .val (h _)) rfl rfl <|
                .cons [17, 16] [] (fun _ _ h => .val (h _)) rfl rfl <|
                .cons [1, 16] [] (fun _ _ h => .val (h _)) rfl rfl <|
                .cons [19, 16] [] (fun _ _ h => .val (h _)) rfl rfl <|
                .cons [18, 20, 16] [] (fun _ _ h => .valB hc14 (h _)) rfl rfl <|
                .cons [16, 21] [] (fun _ _ h => .brT (h _)) rfl rfl <|
                .cons [22] [] (fun _ _ h => .move (h _)) rfl rfl <|
                .cons [1, 23] [] (fun _ _ h => .val (h _)) rfl rfl <|
                .cons [24, 23] [] (fun _ _ h => .val (h _)) rfl rfl <|
                .cons [25, 23] [] (fun _ _ h => .valB hc15 (h _)) rfl rfl <|
                .cons [23, 26] [] (fun _ _ h => .brT (h _)) rfl rfl <|
                .cons [27] [] (fun _ _ h => .move (h _)) rfl rfl <|
                .cons [1, 28] [] (fun _ _ h => .val (h _)) rfl rfl <|
                .cons [29, 28] [] (fun _ _ h => .cP (g75 hy16) (h _)) rfl rfl <|
                .cons [30, 28] [] (fun _ _ h => .cP (g74 hy17) (by rw [hc18]; exact h _)) rfl rfl <|
                .cons [28, 31] [] (fun _ _ h => .brT (h _)) rfl rfl <|
                .cons [32] [] (fun _ _ h => .move (h _)) rfl rfl <|
                .cons [33] [] (fun _ _ h => .skip (h _)) rfl rfl <|
                .cons [33] [] (fun _ _ h => .skip (h _)) rfl rfl <|
                .cons [33] [] (fun _ _ h => .skip (h _)) rfl rfl <|
                .cons [33] [] (fun _ _ h => .skip (h _)) rfl rfl <|
                .cons [33] [] (fun _ _ h => .skip (h _)) rfl rfl <|
                .cons [33] [] (fun _ _ h => .skip (h _)) rfl rfl <|
                .cons [33] [] (fun _ _ h => .skip (h _)) rfl rfl <|
                .cons [33] [] (fun _ _ h => .skip (h _)) rfl rfl <|
                .cons [33] [] (fun _ _ h => .skip (h _)) rfl rfl <|
                .cons [33] [] (fun _ _ h => .skip (h _)) rfl rfl <|
                .cons [33] [] (fun _ _ h => .skip (h _)) rfl rfl <|
                .cons [33] [] (fun _ _ h => .skip (h _)) rfl rfl <|
                .cons [33, 45] [] (fun _ _ h => .brF (h _)) rfl rfl <|
                .cons [46] [] (fun _ _ h => .move (h _)) rfl rfl <|
                .cons [47] [] (fun _ _ h => .skip (h _)) rfl rfl <|
                .cons [47] [] (fun _ _ h => .skip (h _)) rfl rfl <|
                .cons [47] [] (fun _ _ h => .skip (h _)) rfl rfl <|
                .cons [47] [] (fun _ _ h => .skip (h _)) rfl rfl <|
                .cons [47] [] (fun _ _ h => .skip (h _)) rfl rfl <|
                .cons [47] [] (fun _ _ h => .skip (h _)) rfl rfl <|
                .cons [47] [] (fun _ _ h => .skip (h _)) rfl rfl <|
                .cons [47] [] (fun _ _ h => .skip (h _)) rfl rfl <|
                .cons [47, 55] [] (fun _ _ h => .brF (h _)) rfl rfl <|
                .cons [56] [] (fun _ _ h => .assign (h _)) rfl rfl <|
                .nil)
                (.nil)
                (by kernel_rfl) rfl (.cons rfl (.nil)) (.nil) (.cons rfl (.nil)) ?_
              cases h
              exact .ret (fin_gen0 none)
          · replace h := (if_neg (nt hc15)).symm.trans h
            refine .draw [] [[], [], [], [], [], [], [], [], [], [], [], [], [], [], [], [], [], [], [], [], [], [], [], [], [], [], [], [], [], [], [], [], [], [], [], [], [], [], [], [], [], [], [], [], [], [], [], [], [], [], [], [], [], [], []] [[], [], [], [], [], [], [], [], [], [], [], [], [], [], [], [], [], [], [], [], [], [], [], [], [], [], [], [], [], [], [], [], [], [], [], [], [], [], [], [], [], [], [], [], [], [], [], [], [], [], [], [], [], [], []] [[]]
              [(0, 0), (1, 0), (2, 0), (3, 0), (4, 0), (5, 0), (6, 0), (7, 0), (8, 0), (9, 0), (10, 0), (11, 0), (12, 0), (13, 0), (14, 0), (15, 0), (16, 0), (17, 0), (18, 0), (19, 0), (20, 0), (21, 0), (22, 0), (23, 0), (24, 0), (25, 0), (26, 0), (27, 0), (28, 0), (29, 0), (30, 0), (31, 0), (32, 0), (33, 0), (34, 0), (35, 0), (36, 0), (37, 0), (38, 0), (39, 0), (40, 0), (41, 0), (42, 0), (43, 0), (44, 0), (45, 0), (46, 0), (47, 0), (48, 0), (49, 0), (50, 0), (51, 0), (52, 0), (53, 0), (54, 0)] [] 0
              [⟨[(3, .ptr (.loc 0 0) 1), (4, .int .i64 a0.Capacity), (5, .bool true), (6, .bool true), (7, .ptr (.loc 0 0) 1), (8, .int .i64 a0.Capacity), (9, .bool true), (10, .bool true), (11, .bool true), (12, .ptr (.loc 0 0) 3), (13, .int .i64 a0.Read), (14, .bool true), (15, .bool true), (16, .bool true), (17, .ptr (.loc 0 0) 3), (18, .int .i64 a0.Read), (19, .ptr (.loc 0 0) 2), (20, .int .i64 a0.Written), (21, .bool true), (22, .bool true), (23, .bool true), (24, .ptr (.loc 0 0) 2), (25, .int .i64 a0.Written), (26, .bool false), (27, .bool false), (28, .bool false), (29, .tup []), (30, .tup []), (31, .tup []), (32, .bool false), (33, .bool false), (34, .tup []), (35, .tup []), (36, .tup []), (37, .tup []), (38, .tup []), (39, .tup []), (40, .tup []), (41, .tup []), (42, .tup []), (43, .tup []), (44, .tup []), (45, .tup []), (46, .bool false), (47, .bool false), (48, .tup []), (49, .tup []), (50, .tup []), (51, .tup []), (52, .tup []), (53, .tup []), (54, .tup []), (55, .tup []), (56, .bool false), (2, .bool false), (1, .ptr (.loc 0 0) 0)], [], [((.loc 0 0), [.int .i64 a0.Channels, .int .i64 a0.Capacity, .int .i64 a0.Written, .int .i64 a0.Read, .sl 21 .ro (a0.Data.map (PV.int .i32))])]⟩]
              [(1, .ptr (.loc 0 0) 0)]
              (.cons [1] [] (fun _ _ h => .val (h _)) rfl rfl <|
              .cons [3] [] (fun _ _ h => .val (h _)) rfl rfl <|
              .cons [4] [] (fun _ _ h => .valB hc11 (h _)) rfl rfl <|
              .cons [5] [] (fun _ _ h => .move (h _)) rfl rfl <|
              .cons [1, 6] [] (fun _ _ h => .val (h _)) rfl rfl <|
              .cons [7, 6] [] (fun _ _ h => .val (h _)) rfl rfl <|
              .cons [8, 6] [] (fun _ _ h => .valB hc12 (h _)) rfl rfl <|
              .cons [6, 9] [] (fun _ _ h => .brT (h _)) rfl rfl <|
              .cons [10] [] (fun _ _ h => .move (h _)) rfl rfl <|
              .cons [1, 11] [] (fun _ _ h => .val (h _)) rfl rfl <|
              .cons [12, 11] [] (fun _ _ h => .val (h _)) rfl rfl <|
              .cons [13, 11] [] (fun _ _ h => .valB hc13 (h _)) rfl rfl <|
              .cons [11, 14] [] (fun _ _ h => .brT (h _)) rfl rfl <|
              .cons [15] [] (fun _ _ h => .move (h _)) rfl rfl <|
              .cons [1, 16] [] (fun _ _ h => .val (h _)) rfl rfl <|
              .cons [17, 16] [] (fun _ _ h => .val (h _)) rfl rfl <|
              .cons [1, 16] [] (fun _ _ h => .val (h _)) rfl rfl <|
              .cons [19, 16] [] (fun _ _ h => .val (h _)) rfl rfl <|
              .cons [18, 20, 16] [] (fun _ _ h => .valB hc14 (h _)) rfl rfl <|
              .cons [16, 21] [] (fun _ _ h => .brT (h _)) rfl rfl <|
              .cons [22] [] (fun _ _ h => .move (h _)) rfl rfl <|
              .cons [1, 23] [] (fun _ _ h => .val (h _)) rfl rfl <|
              .cons [24, 23] [] (fun _ _ h => .val (h _)) rfl rfl <|
              .cons [25, 23] [] (fun _ _ h => .valB hc15 (h _)) rfl rfl <|
              .cons [23, 26] [] (fun _ _ h => .brT (h _)) rfl rfl <|
              .cons [27] [] (fun _ _ h => .move (h _)) rfl rfl <|
              .cons [28] [] (fun _ _ h => .skip (h _)) rfl rfl <|
              .cons [28] [] (fun _ _ h => .skip (h _)) rfl rfl <|
              .cons [28] [] (fun _ _ h => .skip (h _)) rfl rfl <|
              .cons [28, 31] [] (fun _ _ h => .brF (h _)) rfl rfl <|
              .cons [32] [] (fun _ _ h => .move (h _)) rfl rfl <|
              .cons [33] [] (fun _ _ h => .skip (h _)) rfl rfl <|
              .cons [33] [] (fun _ _ h => .skip (h _)) rfl rfl <|
              .cons [33] [] (fun _ _ h => .skip (h _)) rfl rfl <|
              .cons [33] [] (fun _ _ h => .skip (h _)) rfl rfl <|
              .cons [33] [] (fun _ _ h => .skip (h _)) rfl rfl <|
              .cons [33] [] (fun _ _ h => .skip (h _)) rfl rfl <|
              .cons [33] [] (fun _ _ h => .skip (h _)) rfl rfl <|
              .cons [33] [] (fun _ _ h => .skip (h _)) rfl rfl <|
              .cons [33] [] (fun _ _ h => .skip (h _)) rfl rfl <|
              .cons [33] [] (fun _ _ h => .skip (h _)) rfl rfl <|
              .cons [33] [] (fun _ _ h => .skip (h _)) rfl rfl <|
              .cons [33] [] (fun _ _ h => .skip (h _)) rfl rfl <|
              .cons [33, 45] [] (fun _ _ h => .brF (h _)) rfl rfl <|
              .cons [46] [] (fun _ _ h => .move (h _)) rfl rfl <|
              .cons [47] [] (fun _ _ h => .skip (h _)) rfl rfl <|
              .cons [47] [] (fun _ _ h => .skip (h _)) rfl rfl <|
              .cons [47] [] (fun _ _ h => .skip (h _)) rfl rfl <|
              .cons [47] [] (fun _ _ h => .skip (h _)) rfl rfl <|
              .cons [47] [] (fun _ _ h => .skip (h _)) rfl rfl <|
              .cons [47] [] (fun _ _ h => .skip (h _)) rfl rfl <|
              .cons [47] [] (fun _ _ h => .skip (h _)) rfl rfl <|
              .cons [47] [] (fun _ _ h => .skip (h _)) rfl rfl <|
              .cons [47, 55] [] (fun _ _ h => .brF (h _)) rfl rfl <|
              .cons [56] [] (fun _ _ h => .assign (h _)) rfl rfl <|
              .nil)
              (.nil)
              (by kernel_rfl) rfl (.cons rfl (.nil)) (.nil) (.cons rfl (.nil)) ?_
            cases h
            exact .ret (fin_gen0 none)
        · replace h := (if_neg (nt hc14)).symm.trans h
          refine .draw [] [[], [], [], [], [], [], [], [], [], [], [], [], [], [], [], [], [], [], [], [], [], [], [], [], [], [], [], [], [], [], [], [], [], [], [], [], [], [], [], [], [], [], [], [], [], [], [], [], [], [], [], [], [], [], []] [[], [], [], [], [], [], [], [], [], [], [], [], [], [], [], [], [], [], [], [], [], [], [], [], [], [], [], [], [], [], [], [], [], [], [], [], [], [], [], [], [], [], [], [], [], [], [], [], [], [], [], [], [], [], []] [[]]
            [(0, 0), (1, 0), (2, 0), (3, 0), (4, 0), (5, 0), (6, 0), (7, 0), (8, 0), (9, 0), (10, 0), (11, 0), (12, 0), (13, 0), (14, 0), (15, 0), (16, 0), (17, 0), (18, 0), (19, 0), (20, 0), (21, 0), (22, 0), (23, 0), (24, 0), (25, 0), (26, 0), (27, 0), (28, 0), (29, 0), (30, 0), (31, 0), (32, 0), (33, 0), (34, 0), (35, 0), (36, 0), (37, 0), (38, 0), (39, 0), (40, 0), (41, 0), (42, 0), (43, 0), (44, 0), (45, 0), (46, 0), (47, 0), (48, 0), (49, 0), (50, 0), (51, 0), (52, 0), (53, 0), (54, 0)] [] 0
            [⟨[(3, .ptr (.loc 0 0) 1), (4, .int .i64 a0.Capacity), (5, .bool true), (6, .bool true), (7, .ptr (.loc 0 0) 1), (8, .int .i64 a0.Capacity), (9, .bool true), (10, .bool true), (11, .bool true), (12, .ptr (.loc 0 0) 3), (13, .int .i64 a0.Read), (14, .bool true), (15, .bool true), (16, .bool true), (17, .ptr (.loc 0 0) 3), (18, .int .i64 a0.Read), (19, .ptr (.loc 0 0) 2), (20, .int .i64 a0.Written), (21, .bool false), (22, .bool false), (23, .bool false), (24, .tup []), (25, .tup []), (26, .tup []), (27, .bool false), (28, .bool false), (29, .tup []), (30, .tup []), (31, .tup []), (32, .bool false), (33, .bool false), (34, .tup []), (35, .tup []), (36, .tup []), (37, .tup []), (38, .tup []), (39, .tup []), (40, .tup []), (41, .tup []), (42, .tup []), (43, .tup []), (44, .tup []), (45, .tup []), (46, .bool false), (47, .bool false), (48, .tup []), (49, .tup []), (50, .tup []), (51, .tup []), (52, .tup []), (53, .tup []), (54, .tup []), (55, .tup []), (56, .bool false), (2, .bool false), (1, .ptr (.loc 0 0) 0)], [], [((.loc 0 0), [.int .i64 a0.Channels, .int .i64 a0.Capacity, .int .i64 a0.Written, .int .i64 a0.Read, .sl 21 .ro (a0.Data.map (PV.int .i32))])]⟩]
            [(1, .ptr (.loc 0 0) 0)]
            (.cons [1] [] (fun _ _ h => .val (h _)) rfl rfl <|
            .cons [3] [] (fun _ _ h => .val (h _)) rfl rfl <|
            .cons [4] [] (fun _ _ h => .valB hc11 (h _)) rfl rfl <|
            .cons [5] [] (fun _ _ h => .move (h _)) rfl rfl <|
            .cons [1, 6] [] (fun _ _ h => .val (h _)) rfl rfl <|
            .cons [7, 6] [] (fun _ _ h => .val (h _)) rfl rfl <|
            .cons [8, 6] [] (fun _ _ h => .valB hc12 (h _)) rfl rfl <|
            .cons [6, 9] [] (fun _ _ h => .brT (h _)) rfl rfl <|
            .cons [10] [] (fun _ _ h => .move (h _)) rfl rfl <|
            .cons [1, 11] [] (fun _ _ h => .val (h _)) rfl rfl <|
            .cons [12, 11] [] (fun _ _ h => .val (h _)) rfl rfl <|
            .cons [13, 11] [] (fun _ _ h => .valB hc13 (h _)) rfl rfl <|
            .cons [11, 14] [] (fun _ _ h => .brT (h _)) rfl rfl <|
            .cons [15] [] (fun _ _ h => .move (h _)) rfl rfl <|
            .cons [1, 16] [] (fun _ _ h => .val (h _)) rfl rfl <|
            .cons [17, 16] [] (fun _ _ h => .val (h _)) rfl rfl <|
            .cons [1, 16] [] (fun _ _ h => .val (h _)) rfl rfl <|
            .cons [19, 16] [] (fun _ _ h => .val (h _)) rfl rfl <|
            .cons [18, 20, 16] [] (fun _ _ h => .valB hc14 (h _)) rfl rfl <|
            .cons [16, 21] [] (fun _ _ h => .brT (h _)) rfl rfl <|
            .cons [22] [] (fun _ _ h => .move (h _)) rfl rfl <|
            .cons [23] [] (fun _ _ h => .skip (h _)) rfl rfl <|
            .cons [23] [] (fun _ _ h => .skip (h _)) rfl rfl <|
            .cons [23] [] (fun _ _ h => .skip (h _)) rfl rfl <|
            .cons [23, 26] [] (fun _ _ h => .brF (h _)) rfl rfl <|
            .cons [27] [] (fun _ _ h => .move (h _)) rfl rfl <|
            .cons [28] [] (fun _ _ h => .skip (h _)) rfl rfl <|
            .cons [28] [] (fun _ _ h => .skip (h _)) rfl rfl <|
            .cons [28] [] (fun _ _ h => .skip (h _)) rfl rfl <|
            .cons [28, 31] [] (fun _ _ h => .brF (h _)) rfl rfl <|
            .cons [32] [] (fun _ _ h => .move (h _)) rfl rfl <|
            .cons [33] [] (fun _ _ h => .skip (h _)) rfl rfl <|
            .cons [33] [] (fun _ _ h => .skip (h _)) rfl rfl <|
            .cons [33] [] (fun _ _ h => .skip (h _)) rfl rfl <|
            .cons [33] [] (fun _ _ h => .skip (h _)) rfl rfl <|
            .cons [33] [] (fun _ _ h => .skip (h _)) rfl rfl <|
            .cons [33] [] (fun _ _ h => .skip (h _)) rfl rfl <|
            .cons [33] [] (fun _ _ h => .skip (h _)) rfl rfl <|
            .cons [33] [] (fun _ _ h => .skip (h _)) rfl rfl <|
            .cons [33] [] (fun _ _ h => .skip (h _)) rfl rfl <|
            .cons [33] [] (fun _ _ h => .skip (h _)) rfl rfl <|
            .cons [33] [] (fun _ _ h => .skip (h _)) rfl rfl <|
            .cons [33] [] (fun _ _ h => .skip (h _)) rfl rfl <|
            .cons [33, 45] [] (fun _ _ h => .brF (h _)) rfl rfl <|
            .cons [46] [] (fun _ _ h => .move (h _)) rfl rfl <|
            .cons [47] [] (fun _ _ h => .skip (h _)) rfl rfl <|
            .cons [47] [] (fun _ _ h => .skip (h _)) rfl rfl <|
            .cons [47] [] (fun _ _ h => .skip (h _)) rfl rfl <|
            .cons [47] [] (fun _ _ h => .skip (h _)) rfl rfl <|
            .cons [47] [] (fun _ _ h => .skip (h _)) rfl rfl <|
            .cons [47] [] (fun _ _ h => .skip (h _)) rfl rfl <|
            .cons [47] [] (fun _ _ h => .skip (h _)) rfl rfl <|
            .cons [47] [] (fun _ _ h => .skip (h _)) rfl rfl <|
            .cons [47, 55] [] (fun _ _ h => .brF (h _)) rfl rfl <|
            .cons [56] [] (fun _ _ h => .assign (h _)) rfl rfl <|
            .nil)
            (.nil)
            (by kernel_rfl) rfl (.cons rfl (.nil)) (.nil) (.cons rfl (.nil)) ?_
          cases h
          exact .ret (fin_gen0 none)
      · replace h := (if_neg (nt hc13)).symm.trans h
        refine .draw [] [[], [], [], [], [], [], [], [], [], [], [], [], [], [], [], [], [], [], [], [], [], [], [], [], [], [], [], [], [], [], [], [], [], [], [], [], [], [], [], [], [], [], [], [], [], [], [], [], [], [], [], [], [], [], []] [[], [], [], [], [], [], [], [], [], [], [], [], [], [], [], [], [], [], [], [], [], [], [], [], [], [], [], [], [], [], [], [], [], [], [], [], [], [], [], [], [], [], [], [], [], [], [], [], [], [], [], [], [], [], []] [[]]
          [(0, 0), (1, 0), (2, 0), (3, 0), (4, 0), (5, 0), (6, 0), (7, 0), (8, 0), (9, 0), (10, 0), (11, 0), (12, 0), (13, 0), (14, 0), (15, 0), (16, 0), (17, 0), (18, 0), (19, 0), (20, 0), (21, 0), (22, 0), (23, 0), (24, 0), (25, 0), (26, 0), (27, 0), (28, 0), (29, 0), (30, 0), (31, 0), (32, 0), (33, 0), (34, 0), (35, 0), (36, 0), (37, 0), (38, 0), (39, 0), (40, 0), (41, 0), (42, 0), (43, 0), (44, 0), (45, 0), (46, 0), (47, 0), (48, 0), (49, 0), (50, 0), (51, 0), (52, 0), (53, 0), (54, 0)] [] 0
          [⟨[(3, .ptr (.loc 0 0) 1), (4, .int .i64 a0.Capacity), (5, .bool true), (6, .bool true), (7, .ptr (.loc 0 0) 1), (8, .int .i64 a0.Capacity), (9, .bool true), (10, .bool true), (11, .bool true), (12, .ptr (.loc 0 0) 3), (13, .int .i64 a0.Read), (14, .bool false), (15, .bool false), (16, .bool false), (17, .tup []), (18, .tup []), (19, .tup []), (20, .tup []), (21, .tup []), (22, .bool false), (23, .bool false), (24, .tup []), (25, .tup []), (26, .tup []), (27, .bool false), (28, .bool false), (29, .tup []), (30, .tup []), (31, .tup []), (32, .bool false), (33, .bool false), (34, .tup []), (35, .tup []), (36, .tup []), (37, .tup []), (38, .tup []), (39, .tup []), (40, .tup []), (41, .tup []), (42, .tup []), (43, .tup []), (44, .tup []), (45, .tup []), (46, .bool false), (47, .bool false), (48, .tup []), (49, .tup []), (50, .tup []), (51, .tup []), (52, .tup []), (53, .tup []), (54, .tup []), (55, .tup []), (56, .bool false), (2, .bool false), (1, .ptr (.loc 0 0) 0)], [], [((.loc 0 0), [.int .i64 a0.Channels, .int .i64 a0.Capacity, .int .i64 a0.Written, .int .i64 a0.Read, .sl 21 .ro (a0.Data.map (PV.int .i32))])]⟩]
          [(1, .ptr (.loc 0 0) 0)]
          (.cons [1] [] (fun _ _ h => .val (h _)) rfl rfl <|
          .cons [3] [] (fun _ _ h => .val (h _)) rfl rfl <|
          .cons [4] [] (fun _ _ h => .valB hc11 (h _)) rfl rfl <|
          .cons [5] [] (fun _ _ h => .move (h _)) rfl rfl <|
          .cons [1, 6] [] (fun _ _ h => .val (h _)) rfl rfl <|
          .cons [7, 6] [] (fun _ _ h => .val (h _)) rfl rfl <|
          .cons [8, 6] [] (fun _ _ h => .valB hc12 (h _)) rfl rfl <|
          .cons [6, 9] [] (fun _ _ h => .brT (h _)) rfl rfl <|
          .cons [10] [] (fun _ _ h => .move (h _)) rfl rfl <|
          .cons [1, 11] [] (fun _ _ h => .val (h _)) rfl rfl <|
          .cons [12, 11] [] (fun _ _ h => .val (h _)) rfl rfl <|
          .cons [13, 11] [] (fun _ _ h => .valB hc13 (h _)) rfl rfl <|
          .cons [11, 14] [] (fun _ _ h => .brT (h _)) rfl rfl <|
          .cons [15] [] (fun _ _ h => .move (h _)) rfl rfl <|
          .cons [16] [] (fun _ _ h => .skip (h _)) rfl rfl <|
          .cons [16] [] (fun _ _ h => .skip (h _)) rfl rfl <|
          .cons [16] [] (fun _ _ h => .skip (h _)) rfl rfl <|
          .cons [16] [] (fun _ _ h => .skip (h _)) rfl rfl <|
          .cons [16] [] (fun _ _ h => .skip (h _)) rfl rfl <|
          .cons [16, 21] [] (fun _ _ h => .brF (h _)) rfl rfl <|
          .cons [22] [] (fun _ _ h => .move (h _)) rfl rfl <|
          .cons [23] [] (fun _ _ h => .skip (h _)) rfl rfl <|
          .cons [23] [] (fun _ _ h => .skip (h _)) rfl rfl <|
          .cons [23] [] (fun _ _ h => .skip (h _)) rfl rfl <|
          .cons [23, 26] [] (fun _ _ h => .brF (h _)) rfl rfl <|
          .cons [27] [] (fun _ _ h => .move (h _)) rfl rfl <|
          .cons [28] [] (fun _ _ h => .skip (h _)) rfl rfl <|
          .cons [28] [] (fun _ _ h => .skip (h _)) rfl rfl <|
          .cons [28] [] (fun _ _ h => .skip (h _)) rfl rfl <|
          .cons [28, 31] [] (fun _ _ h => .brF (h _)) rfl rfl <|
          .cons [32] [] (fun _ _ h => .move (h _)) rfl rfl <|
          .cons [33] [] (fun _ _ h => .skip (h _)) rfl rfl <|
          .cons [33] [] (fun _ _ h => .skip (h _)) rfl rfl <|
          .cons [33] [] (fun _ _ h => .skip (h _)) rfl rfl <|
          .cons [33] [] (fun _ _ h => .skip (h _)) rfl rfl <|
          .cons [33] [] (fun _ _ h => .skip (h _)) rfl rfl <|
          .cons [33] [] (fun _ _ h => .skip (h _)) rfl rfl <|
          .cons [33] [] (fun _ _ h => .skip (h _)) rfl rfl <|
          .cons [33] [] (fun _ _ h => .skip (h _)) rfl rfl <|
          .cons [33] [] (fun _ _ h => .skip (h _)) rfl rfl <|
          .cons [33] [] (fun _ _ h => .skip (h _)) rfl rfl <|
          .cons [33] [] (fun _ _ h => .skip (h _)) rfl rfl <|
          .cons [33] [] (fun _ _ h => .skip (h _)) rfl rfl <|
          .cons [33, 45] [] (fun _ _ h => .brF (h _)) rfl rfl <|
          .cons [46] [] (fun _ _ h => .move (h _)) rfl rfl <|
          .cons [47] [] (fun _ _ h => .skip (h _)) rfl rfl <|
          .cons [47] [] (fun _ _ h => .skip (h _)) rfl rfl <|
          .cons [47] [] (fun _ _ h => .skip (h _)) rfl rfl <|
          .cons [47] [] (fun _ _ h => .skip (h _)) rfl rfl <|
          .cons [47] [] (fun _ _ h => .skip (h _)) rfl rfl <|
          .cons [47] [] (fun _ _ h => .skip (h _)) rfl rfl <|
          .cons [47] [] (fun _ _ h => .skip (h _)) rfl rfl <|
          .cons [47] [] (fun _ _ h => .skip (h _)) rfl rfl <|
          .cons [47, 55] [] (fun _ _ h => .brF (h _)) rfl rfl <|
          .cons [56] [] (fun _ _ h => .assign (h _)) rfl rfl <|
          .nil)
          (.nil)
          (by kernel_rfl) rfl (.cons rfl (.nil)) (.nil) (.cons rfl (.nil)) ?_
        cases h
        exact .ret (fin_gen0 none)
    · replace h := (if_neg (nt hc12)).symm.trans h
      refine .draw [] [[], [], [], [], [], [], [], [], [], [], [], [], [], [], [], [], [], [], [], [], [], [], [], [], [], [], [], [], [], [], [], [], [], [], [], [], [], [], [], [], [], [], [], [], [], [], [], [], [], [], [], [], [], [], []] [[], [], [], [], [], [], [], [], [], [], [], [], [], [], [], [], [], [], [], [], [], [], [], [], [], [], [], [], [], [], [], [], [], [], [], [], [], [], [], [], [], [], [], [], [], [], [], [], [], [], [], [], [], [], []] [[]]
        [(0, 0), (1, 0), (2, 0), (3, 0), (4, 0), (5, 0), (6, 0), (7, 0), (8, 0), (9, 0), (10, 0), (11, 0), (12, 0), (13, 0), (14, 0), (15, 0), (16, 0), (17, 0), (18, 0), (19, 0), (20, 0), (21, 0), (22, 0), (23, 0), (24, 0), (25, 0), (26, 0), (27, 0), (28, 0), (29, 0), (30, 0), (31, 0), (32, 0), (33, 0), (34, 0), (35, 0), (36, 0), (37, 0), (38, 0), (39, 0), (40, 0), (41, 0), (42, 0), (43, 0), (44, 0), (45, 0), (46, 0), (47, 0), (48, 0), (49, 0), (50, 0), (51, 0), (52, 0), (53, 0), (54, 0)] [] 0
        [⟨[(3, .ptr (.loc 0 0) 1), (4, .int .i64 a0.Capacity), (5, .bool true), (6, .bool true), (7, .ptr (.loc 0 0) 1), (8, .int .i64 a0.Capacity), (9, .bool false), (10, .bool false), (11, .bool false), (12, .tup []), (13, .tup []), (14, .tup []), (15, .bool false), (16, .bool false), (17, .tup []), (18, .tup []), (19, .tup []), (20, .tup []), (21, .tup []), (22, .bool false), (23, .bool false), (24, .tup []), (25, .tup []), (26, .tup []), (27, .bool false), (28, .bool false), (29, .tup []), (30, .tup []), (31, .tup []), (32, .bool false), (33, .bool false), (34, .tup []), (35, .tup []), (36, .tup []), (37, .tup []), (38, .tup []), (39, .tup []), (40, .tup []), (41, .tup []), (42, .tup []), (43, .tup []), (44, .tup []), (45, .tup []), (46, .bool false), (47, .bool false), (48, .tup []), (49, .tup []), (50, .tup []), (51, .tup []), (52, .tup []), (53, .tup []), (54, .tup []), (55, .tup []), (56, .bool false), (2, .bool false), (1, .ptr (.loc 0 0) 0)], [], [((.loc 0 0), [.int .i64 a0.Channels, .int .i64 a0.Capacity, .int .i64 a0.Written, .int .i64 a0.Read, .sl 21 .ro (a0.Data.map (PV.int .i32))])]⟩]
        [(1, .ptr (.loc 0 0) 0)]
        (.cons [1] [] (fun _ _ h => .val (h _)) rfl rfl <|
        .cons [3] [] (fun _ _ h => .val (h _)) rfl rfl <|
        .cons [4] [] (fun _ _ h => .valB hc11 (h _)) rfl rfl <|
        .cons [5] [] (fun _ _ h => .move (h _)) rfl rfl <|
        .cons [1, 6] [] (fun _ _ h => .val (h _)) rfl rfl <|
        .cons [7, 6] [] (fun _ _ h => .val (h _)) rfl rfl <|
        .cons [8, 6] [] (fun _ _ h => .valB hc12 (h _)) rfl rfl <|
        .cons [6, 9] [] (fun _ _ h => .brT (h _)) rfl rfl <|
        .cons [10] [] (fun _ _ h => .move (h _)) rfl rfl <|
        .cons [11] [] (fun _ _ h => .skip (h _)) rfl rfl <|
        .cons [11] [] (fun _ _ h => .skip (h _)) rfl rfl <|
        .cons [11] [] (fun _ _ h => .skip (h _)) rfl rfl <|
        .cons [11, 14] [] (fun _ _ h => .brF (h _)) rfl rfl <|
        .cons [15] [] (fun _ _ h => .move (h _)) rfl rfl <|
        .cons [16] [] (fun _ _ h => .skip (h _)) rfl rfl <|
        .cons [16] [] (fun _ _ h => .skip (h _)) rfl rfl <|
        .cons [16] [] (fun _ _ h => .skip (h _)) rfl rfl <|
        .cons [16] [] (fun _ _ h => .skip (h _)) rfl rfl <|
        .cons [16] [] (fun _ _ h => .skip (h _)) rfl rfl <|
        .cons [16, 21] [] (fun _ _ h => .brF (h _)) rfl rfl <|
        .cons [22] [] (fun _ _ h => .move (h _)) rfl rfl <|
        .cons [23] [] (fun _ _ h => .skip (h _)) rfl rfl <|
        .cons [23] [] (fun _ _ h => .skip (h _)) rfl rfl <|
        .cons [23] [] (fun _ _ h => .skip (h _)) rfl rfl <|
        .cons [23, 26] [] (fun _ _ h => .brF (h _)) rfl rfl <|
        .cons [27] [] (fun _ _ h => .move (h _)) rfl rfl <|
        .cons [28] [] (fun _ _ h => .skip (h _)) rfl rfl <|
        .cons [28] [] (fun _ _ h => .skip (h _)) rfl rfl <|
        .cons [28] [] (fun _ _ h => .skip (h _)) rfl rfl <|
        .cons [28, 31] [] (fun _ _ h => .brF (h _)) rfl rfl <|
        .cons [32] [] (fun _ _ h => .move (h _)) rfl rfl <|
        .cons [33] [] (fun _ _ h => .skip (h _)) rfl rfl <|
        .cons [33] [] (fun _ _ h => .skip (h _)) rfl rfl <|
        .cons [33] [] (fun _ _ h => .skip (h _)) rfl rfl <|
        .cons [33] [] (fun _ _ h => .skip (h _)) rfl rfl <|
        .cons [33] [] (fun _ _ h => .skip (h _)) rfl rfl <|
        .cons [33] [] (fun _ _ h => .skip (h _)) rfl rfl <|
        .cons [33] [] (fun _ _ h => .skip (h _)) rfl rfl <|
        .cons [33] [] (fun _ _ h => .skip (h _)) rfl rfl <|
        .cons [33] [] (fun _ _ h => .skip (h _)) rfl rfl <|
        .cons [33] [] (fun _ _ h => .skip (h _)) rfl rfl <|
        .cons [33] [] (fun _ _ h => .skip (h _)) rfl rfl <|
        .cons [33] [] (fun _ _ h => .skip (h _)) rfl rfl <|
        .cons [33, 45] [] (fun _ _ h => .brF (h _)) rfl rfl <|
        .cons [46] [] (fun _ _ h => .move (h _)) rfl rfl <|
        .cons [47] [] (fun _ _ h => .skip (h _)) rfl rfl <|
        .cons [47] [] (fun _ _ h => .skip (h _)) rfl rfl <|
        .cons [47] [] (fun _ _ h => .skip (h _)) rfl rfl <|
        .cons [47] [] (fun _ _ h => .skip (h _)) rfl rfl <|
        .cons [47] [] (fun _ _ h => .skip (h _)) rfl rfl <|
        .cons [47] [] (fun _ _ h => .skip (h _)) rfl rfl <|
        .cons [47] [] (fun _ _ h => .skip (h _)) rfl rfl <|
        .cons [47] [] (fun _ _ h => .skip (h _)) rfl rfl <|
        .cons [47, 55] [] (fun _ _ h => .brF (h _)) rfl rfl <|
        .cons [56] [] (fun _ _ h => .assign (h _)) rfl rfl <|
        .nil)
        (.nil)
        (by kernel_rfl) rfl (.cons rfl (.nil)) (.nil) (.cons rfl (.nil)) ?_
      cases h
      exact .ret (fin_gen0 none)
  · replace h := (if_neg (nt hc11)).symm.trans h
    refine .draw [] [[], [], [], [], [], [], [], [], [], [], [], [], [], [], [], [], [], [], [], [], [], [], [], [], [], [], [], [], [], [], [], [], [], [], [], [], [], [], [], [], [], [], [], [], [], [], [], [], [], [], [], [], [], [], []] [[], [], [], [], [], [], [], [], [], [], [], [], [], [], [], [], [], [], [], [], [], [], [], [], [], [], [], [], [], [], [], [], [], [], [], [], [], [], [], [], [], [], [], [], [], [], [], [], [], [], [], [], [], [], []] [[]]
      [(0, 0), (1, 0), (2, 0), (3, 0), (4, 0), (5, 0), (6, 0), (7, 0), (8, 0), (9, 0), (10, 0), (11, 0), (12, 0), (13, 0), (14, 0), (15, 0), (16, 0), (17, 0), (18, 0), (19, 0), (20, 0), (21, 0), (22, 0), (23, 0), (24, 0), (25, 0), (26, 0), (27, 0), (28, 0), (29, 0), (30, 0), (31, 0), (32, 0), (33, 0), (34, 0), (35, 0), (36, 0), (37, 0), (38, 0), (39, 0), (40, 0), (41, 0), (42, 0), (43, 0), (44, 0), (45, 0), (46, 0), (47, 0), (48, 0), (49, 0), (50, 0), (51, 0), (52, 0), (53, 0), (54, 0)] [] 0
      [⟨[(3, .ptr (.loc 0 0) 1), (4, .int .i64 a0.Capacity), (5, .bool false), (6, .bool false), (7, .tup []), (8, .tup []), (9, .tup []), (10, .bool false), (11, .bool false), (12, .tup []), (13, .tup []), (14, .tup []), (15, .bool false), (16, .bool false), (17, .tup []), (18, .tup []), (19, .tup []), (20, .tup []), (21, .tup []), (22, .bool false), (23, .bool false), (24, .tup []), (25, .tup []), (26, .tup []), (27, .bool false), (28, .bool false), (29, .tup []), (30, .tup []), (31, .tup []), (32, .bool false), (33, .bool false), (34, .tup []), (35, .tup []), (36, .tup []), (37, .tup []), (38, .tup []), (39, .tup []), (40, .tup []), (41, .tup []), (42, .tup []), (43, .tup []), (44, .tup []), (45, .tup []), (46, .bool false), (47, .bool false), (48, .tup []), (49, .tup []), (50, .tup []), (51, .tup []), (52, .tup []), (53, .tup []), (54, .tup []), (55, .tup []), (56, .bool false), (2, .bool false), (1, .ptr (.loc 0 0) 0)], [], [((.loc 0 0), [.int .i64 a0.Channels, .int .i64 a0.Capacity, .int .i64 a0.Written, .int .i64 a0.Read, .sl 21 .ro (a0.Data.map (PV.int .i32))])]⟩]
      [(1, .ptr (.loc 0 0) 0)]
      (.cons [1] [] (fun _ _ h => .val (h _)) rfl rfl <|
      .cons [3] [] (fun _ _ h => .val (h _)) rfl rfl <|
      .cons [4] [] (fun _ _ h => .valB hc11 (h _)) rfl rfl <|
      .cons [5] [] (fun _ _ h => .move (h _)) rfl rfl <|
      .cons [6] [] (fun _ _ h => .skip (h _)) rfl rfl <|
      .cons [6] [] (fun _ _ h => .skip (h _)) rfl rfl <|
      .cons [6] [] (fun _ _ h => .skip (h _)) rfl rfl <|
      .cons [6, 9] [] (fun _ _ h => .brF (h _)) rfl rfl <|
      .cons [10] [] (fun _ _ h => .move (h _)) rfl rfl <|
      .cons [11] [] (fun _ _ h => .skip (h _)) rfl rfl <|
      .cons [11] [] (fun _ _ h => .skip (h _)) rfl rfl <|
      .cons [11] [] (fun _ _ h => .skip (h _)) rfl rfl <|
      .cons [11, 14] [] (fun _ _ h => .brF (h _)) rfl rfl <|
      .cons [15] [] (fun _ _ h => .move (h _)) rfl rfl <|
      .cons [16] [] (fun _ _ h => .skip (h _)) rfl rfl <|
      .cons [16] [] (fun _ _ h => .skip (h _)) rfl rfl <|
      .cons [16] [] (fun _ _ h => .skip (h _)) rfl rfl <|
      .cons [16] [] (fun _ _ h => .skip (h _)) rfl rfl <|
      .cons [16] [] (fun _ _ h => .skip (h _)) rfl rfl <|
      .cons [16, 21] [] (fun _ _ h => .brF (h _)) rfl rfl <|
      .cons [22] [] (fun _ _ h => .move (h _)) rfl rfl <|
      .cons [23] [] (fun _ _ h => .skip (h _)) rfl rfl <|
      .cons [23] [] (fun _ _ h => .skip (h _)) rfl rfl <|
      .cons [23] [] (fun _ _ h => .skip (h _)) rfl rfl <|
      .cons [23, 26] [] (fun _ _ h => .brF (h _)) rfl rfl <|
      .cons [27] [] (fun _ _ h => .move (h _)) rfl rfl <|
      .cons [28] [] (fun _ _ h => .skip (h _)) rfl rfl <|
      .cons [28] [] (fun _ _ h => .skip (h _)) rfl rfl <|
      .cons [28] [] (fun _ _ h => .skip (h _)) rfl rfl <|
      .cons [28, 31] [] (fun _ _ h => .brF (h _)) rfl rfl <|
      .cons [32] [] (fun _ _ h => .move (h _)) rfl rfl <|
      .cons [33] [] (fun _ _ h => .skip (h _)) rfl rfl <|
      .cons [33] [] (fun _ _ h => .skip (h _)) rfl rfl <|
      .cons [33] [] (fun _ _ h => .skip (h _)) rfl rfl <|
      .cons [33] [] (fun _ _ h => .skip (h _)) rfl rfl <|
      .cons [33] [] (fun _ _ h => .skip (h _)) rfl rfl <|
      .cons [33] [] (fun _ _ h => .skip (h _)) rfl rfl <|
      .cons [33] [] (fun _ _ h => .skip (h _)) rfl rfl <|
      .cons [33] [] (fun _ _ h => .skip (h _)) rfl rfl <|
      .cons [33] [] (fun _ _ h => .skip (h _)) rfl rfl <|
      .cons [33] [] (fun _ _ h => .skip (h _)) rfl rfl <|
      .cons [33] [] (fun _ _ h => .skip (h _)) rfl rfl <|
      .cons [33] [] (fun _ _ h => .skip (h _)) rfl rfl <|
      .cons [33, 45] [] (fun _ _ h => .brF (h _)) rfl rfl <|
      .cons [46] [] (fun _ _ h => .move (h _)) rfl rfl <|
      .cons [47] [] (fun _ _ h => .skip (h _)) rfl rfl <|
      .cons [47] [] (fun _ _ h => .skip (h _)) rfl rfl <|
      .cons [47] [] (fun _ _ h => .skip (h _)) rfl rfl <|
      .cons [47] [] (fun _ _ h => .skip (h _)) rfl rfl <|
      .cons [47] [] (fun _ _ h => .skip (h _)) rfl rfl <|
      .cons [47] [] (fun _ _ h => .skip (h _)) rfl rfl <|
      .cons [47] [] (fun _ _ h => .skip (h _)) rfl rfl <|
      .cons [47] [] (fun _ _ h => .skip (h _)) rfl rfl <|
      .cons [47, 55] [] (fun _ _ h => .brF (h _)) rfl rfl <|
      .cons [56] [] (fun _ _ h => .assign (h _)) rfl rfl <|
      .nil)
      (.nil)
      (by kernel_rfl) rfl (.cons rfl (.nil)) (.nil) (.cons rfl (.nil)) ?_
    cases h
    exact .ret (fin_gen0 none)

/- soundservice/soundserviceref17.New -/
def f34 (n : Nat) (a0 : Int) (a1 : Int) : Option (Ring × Int) :=
  (f32 n (⟨a0, a1, 0, 0, ([] : List Int)⟩ : Ring)).bind fun y3 =>
  if !y3 then (
  some ((⟨0, 0, 0, 0, ([] : List Int)⟩ : Ring), 2))
  else (
  some ((⟨a0, a1, 0, 0, ([] : List Int)⟩ : Ring), 0))
set_option maxHeartbeats 4000000 in
set_option maxRecDepth 100000 in
theorem g34 {n : Nat} {a0 : Int} {a1 : Int} {r : (Ring × Int)} (h : f34 n a0 a1 = some r) :
    Ab.Can Try.prog 34 [.int .i64 a0, .int .i64 a1] H0 (.tup [.agg [.int .i64 r.1.Channels, .int .i64 r.1.Capacity, .int .i64 r.1.Written, .int .i64 r.1.Read, .sl 21 .ro (r.1.Data.map (PV.int .i32))], .int .i64 r.2]) H0 := by
  refine can_of tabOK mix Try.call34 Try.func34 rfl (by kernel_rfl) (by show _ ≤ 15; simp) fun _ => ?_
  rw [f34] at h
  refine .seq ?_
  refine .region ?_
  refine .allocL (cs := [.int .i64 0, .int .i64 0, .int .i64 0, .int .i64 0, .sl 21 .full []]) ?_
  refine .assign ?_
  refine .nil ?_
  refine .seq ?_
  refine .region ?_
  refine .move ?_
  refine .move ?_
  refine .buildL (cs := [.int .i64 a0, .int .i64 a1, .int .i64 0, .int .i64 0, .sl 21 .full []]) ?_
  refine .allocL (cs := [.int .i64 0, .int .i64 0, .int .i64 0, .int .i64 0, .sl 21 .full []]) ?_
  refine .wrL (cs := [.int .i64 a0, .int .i64 a1, .int .i64 0, .int .i64 0, .sl 21 .full []]) ?_
  refine .nil ?_
  refine .seq ?_
  refine .seq ?_
  refine .region ?_
  refine .val (v := .agg [.int .i64 a0, .int .i64 a1, .int .i64 0, .int .i64 0, .sl 21 .full []]) ?_
  obtain ⟨y3, hy3, h⟩ := bindE h
  refine .cP (g32 hy3) ?_
  refine .val ?_
  refine .nil ?_
  refine .cond (fun hc4 => ?_) (fun hc4 => ?_)
  · replace h := (if_pos hc4).symm.trans h
    refine .seq ?_
    refine .region ?_
    refine .buildL (cs := [.int .i64 0, .int .i64 0, .int .i64 0, .int .i64 0, .sl 21 .full []]) ?_
    refine .wrL (cs := [.int .i64 0, .int .i64 0, .int .i64 0, .int .i64 0, .sl 21 .full []]) ?_
    refine .assign ?_
    refine .nil ?_
    cases h
    refine .imp (Imp.cell (.loc 0 0) (ds := [.int .i64 0, .int .i64 0, .int .i64 0, .int .i64 0, .sl 21 .ro (([] : List Int).map (PV.int .i32))]) (.cons (.refl _) rfl (.cons (.refl _) rfl (.cons (.refl _) rfl (.cons (.refl _) rfl (.cons (.ro _ _) rfl (.nil)))))) rfl) ?_
    exact .ret (fin_gen0 none)
  · replace h := (if_neg (nt hc4)).symm.trans h
    refine .skip ?_
    refine .seq ?_
    refine .region ?_
    refine .val (v := .agg [.int .i64 a0, .int .i64 a1, .int .i64 0, .int .i64 0, .sl 21 .full []]) ?_
    refine .wrL (cs := [.int .i64 a0, .int .i64 a1, .int .i64 0, .int .i64 0, .sl 21 .full []]) ?_
    refine .assign ?_
    refine .nil ?_
    cases h
    refine .imp (Imp.cell (.loc 0 0) (ds := [.int .i64 a0, .int .i64 a1, .int .i64 0, .int .i64 0, .sl 21 .ro (([] : List Int).map (PV.int .i32))]) (.cons (.refl _) rfl (.cons (.refl _) rfl (.cons (.refl _) rfl (.cons (.refl _) rfl (.cons (.ro _ _) rfl (.nil)))))) rfl) ?_
    exact .ret (fin_gen0 none)

/- soundservice/soundserviceref17.Fill -/
def f33 (n : Nat) (a0 : Ring) : Option Int :=
  (f32 n (⟨a0.Channels, a0.Capacity, a0.Written, a0.Read, a0.Data⟩ : Ring)).bind fun y3 =>
  if !y3 then (
  some 0)
  else (
  some (w64 (a0.Written - a0.Read)))
set_option maxHeartbeats 4000000 in
set_option maxRecDepth 100000 in
theorem g33 {n : Nat} {a0 : Ring} {r : Int} (h : f33 n a0 = some r) :
    Ab.Can Try.prog 33 [.agg [.int .i64 a0.Channels, .int .i64 a0.Capacity, .int .i64 a0.Written, .int .i64 a0.Read, .sl 21 .ro (a0.Data.map (PV.int .i32))]] H0 (.int .i64 r) H0 := by
  refine can_of tabOK mix Try.call33 Try.func33 rfl (by kernel_rfl) (by show _ ≤ 11; simp) fun _ => ?_
  rw [f33] at h
  refine .seq ?_
  refine .region ?_
  refine .boxL (cs := [.int .i64 a0.Channels, .int .i64 a0.Capacity, .int .i64 a0.Written, .int .i64 a0.Read, .sl 21 .ro (a0.Data.map (PV.int .i32))]) ?_
  refine .assign ?_
  refine .nil ?_
  refine .seq ?_
  refine .seq ?_
  refine .region ?_
  refine .val (v := .agg [.int .i64 a0.Channels, .int .i64 a0.Capacity, .int .i64 a0.Written, .int .i64 a0.Read, .sl 21 .ro (a0.Data.map (PV.int .i32))]) ?_
  obtain ⟨y3, hy3, h⟩ := bindE h
  refine .cP (g32 hy3) ?_
  refine .val ?_
  refine .nil ?_
  refine .cond (fun hc4 => ?_) (fun hc4 => ?_)
  · replace h := (if_pos hc4).symm.trans h
    refine .seq ?_
    refine .region ?_
    refine .assign ?_
    refine .nil ?_
    cases h
    exact .ret (fin_gen0 none)
  · replace h := (if_neg (nt hc4)).symm.trans h
    refine .skip ?_
    refine .seq ?_
    refine .region ?_
    refine .val ?_
    refine .val ?_
    refine .val ?_
    refine .val ?_
    refine .val ?_
    refine .assign ?_
    refine .nil ?_
    cases h
    exact .ret (fin_gen0 none)

/- soundservice/soundserviceref17.Write -/
def f27 (n : Nat) (a0 : Ring) (a1 : Block) : Option (Ring × Int × Int) :=
  joinK (fun (_ : Unit) =>
  some ((⟨0, 0, 0, 0, ([] : List Int)⟩ : Ring), 0, 1)) fun j11 =>
  joinK (fun (v12 : Bool) =>
  if v12 then (
  some ((⟨0, 0, 0, 0, ([] : List Int)⟩ : Ring), 0, 1))
  else (
  if (a1.Channels != a0.Channels) then (
  some ((⟨0, 0, 0, 0, ([] : List Int)⟩ : Ring), 0, 11))
  else (
  (f35 n (⟨a1.Channels, a1.Data⟩ : Block)).bind fun y20 =>
  (f33 n (⟨a0.Channels, a0.Capacity, a0.Written, a0.Read, a0.Data⟩ : Ring)).bind fun y21 =>
  if decide ((w64 (a0.Written + (iMin y20 (w64 (a0.Capacity - y21))))) > (1125899906842624 : Int)) then (
  some ((⟨0, 0, 0, 0, ([] : List Int)⟩ : Ring), 0, 2))
  else (
  (lApp ([] : List Int) a0.Data).bind fun x24 =>
  (lPart a1.Data (0 : Int) (w64 ((iMin y20 (w64 (a0.Capacity - y21))) * a1.Channels))).bind fun x25 =>
  (lApp x24 x25).bind fun x26 =>
  some ((⟨a0.Channels, a0.Capacity, w64 (a0.Written + (iMin y20 (w64 (a0.Capacity - y21)))), a0.Read, x26⟩ : Ring), w64 (y20 - (iMin y20 (w64 (a0.Capacity - y21)))), 0))))) fun j13 =>
  (f32 n (⟨a0.Channels, a0.Capacity, a0.Written, a0.Read, a0.Data⟩ : Ring)).bind fun y14 =>
  if !y14 then (
  j11 ())
  else (
  (f74 n (⟨a1.Channels, a1.Data⟩ : Block)).bind fun y16 =>
  j13 (!y16))
set_option maxHeartbeats 4000000 in
set_option maxRecDepth 100000 in
theorem g27 {n : Nat} {a0 : Ring} {a1 : Block} {r : (Ring × Int × Int)} (h : f27 n a0 a1 = some r) :
    Ab.Can Try.prog 27 [.agg [.int .i64 a0.Channels, .int .i64 a0.Capacity, .int .i64 a0.Written, .int .i64 a0.Read, .sl 21 .ro (a0.Data.map (PV.int .i32))], .agg [.int .i64 a1.Channels, .sl 21 .ro (a1.Data.map (PV.int .i32))]] H0 (.tup [.agg [.int .i64 r.1.Channels, .int .i64 r.1.Capacity, .int .i64 r.1.Written, .int .i64 r.1.Read, .sl 21 .ro (r.1.Data.map (PV.int .i32))], .int .i64 r.2.1, .int .i64 r.2.2]) H0 := by
  refine can_of tabOK mix Try.call27 Try.func27 rfl (by kernel_rfl) (by show _ ≤ 60; simp) fun _ => ?_
  rw [f27] at h
  refine .seq ?_
  refine .region ?_
  refine .boxL (cs := [.int .i64 a0.Channels, .int .i64 a0.Capacity, .int .i64 a0.Written, .int .i64 a0.Read, .sl 21 .ro (a0.Data.map (PV.int .i32))]) ?_
  refine .boxL (cs := [.int .i64 a1.Channels, .sl 21 .ro (a1.Data.map (PV.int .i32))]) ?_
  refine .allocL (cs := [.int .i64 0, .int .i64 0, .int .i64 0, .int .i64 0, .sl 21 .full []]) ?_
  refine .assign ?_
  refine .assign ?_
  refine .nil ?_
  refine .seq ?_
  obtain ⟨j11, hj11, h⟩ := joinE h
  obtain ⟨j13, hj13, h⟩ := joinE h
  refine .cutI (fun T => (T = St.of [(2, .ptr (.loc 0 0) 0), (3, .ptr (.loc 0 1) 0), (4, .ptr (.loc 0 2) 0), (16, .bool true)] [((.loc 0 0), [.int .i64 a0.Channels, .int .i64 a0.Capacity, .int .i64 a0.Written, .int .i64 a0.Read, .sl 21 .ro (a0.Data.map (PV.int .i32))]), ((.loc 0 1), [.int .i64 a1.Channels, .sl 21 .ro (a1.Data.map (PV.int .i32))]), ((.loc 0 2), [.int .i64 0, .int .i64 0, .int .i64 0, .int .i64 0, .sl 21 .full []])] ∧ j11 () = some r) ∨ (∃ (v12 : Bool), T = St.of [(2, .ptr (.loc 0 0) 0), (3, .ptr (.loc 0 1) 0), (4, .ptr (.loc 0 2) 0), (16, .bool v12)] [((.loc 0 0), [.int .i64 a0.Channels, .int .i64 a0.Capacity, .int .i64 a0.Written, .int .i64 a0.Read, .sl 21 .ro (a0.Data.map (PV.int .i32))]), ((.loc 0 1), [.int .i64 a1.Channels, .sl 21 .ro (a1.Data.map (PV.int .i32))]), ((.loc 0 2), [.int .i64 0, .int .i64 0, .int .i64 0, .int .i64 0, .sl 21 .full []])] ∧ j13 v12 = some r)) ?_ ?_
  · refine .region ?_
    refine .val (v := .agg [.int .i64 a0.Channels, .int .i64 a0.Capacity, .int .i64 a0.Written, .int .i64 a0.Read, .sl 21 .ro (a0.Data.map (PV.int .i32))]) ?_
    obtain ⟨y14, hy14, h⟩ := bindE h
    refine .cP (g32 hy14) ?_
    refine .val ?_
    refine .move ?_
    refine .caseG (fun hc15 => ?_) (fun hc15 => ?_)
    · replace h := (if_pos hc15).symm.trans h
      refine .skip ?_
      refine .skip ?_
      refine .skip ?_
      refine .brT ?_
      refine .nil ?_
      exact ⟨_, (.inl ⟨rfl, h⟩), (imp_of (.cons rfl (.cons rfl (.cons rfl (.cons rfl (.nil))))) (.cons rfl (.cons rfl (.cons rfl (.nil)))))⟩
    · replace h := (if_neg (nt hc15)).symm.trans h
      refine .val (v := .agg [.int .i64 a1.Channels, .sl 21 .ro (a1.Data.map (PV.int .i32))]) ?_
      obtain ⟨y16, hy16, h⟩ := bindE h
      refine .cP (g74 hy16) ?_
      refine .val ?_
      refine .brF ?_
      refine .nil ?_
      exact ⟨_, (.inr (⟨_, rfl, h⟩)), (imp_of (.cons rfl (.cons rfl (.cons rfl (.cons rfl (.nil))))) (.cons rfl (.cons rfl (.cons rfl (.nil)))))⟩
  · rintro T (⟨rfl, h⟩ | ⟨v12, rfl, h⟩)
    · subst hj11
      refine .condT ?_
      refine .seq ?_
      refine .region ?_
      refine .buildL (cs := [.int .i64 0, .int .i64 0, .int .i64 0, .int .i64 0, .sl 21 .full []]) ?_
      refine .wrL (cs := [.int .i64 0, .int .i64 0, .int .i64 0, .int .i64 0, .sl 21 .full []]) ?_
      refine .assign ?_
      refine .assign ?_
      refine .nil ?_
      cases h
      refine .imp (Imp.cell (.loc 0 2) (ds := [.int .i64 0, .int .i64 0, .int .i64 0, .int .i64 0, .sl 21 .ro (([] : List Int).map (PV.int .i32))]) (.cons (.refl _) rfl (.cons (.refl _) rfl (.cons (.refl _) rfl (.cons (.refl _) rfl (.cons (.ro _ _) rfl (.nil)))))) rfl) ?_
      exact .ret (fin_gen0 none)
    · subst hj13
      refine .cond (fun hc17 => ?_) (fun hc17 => ?_)
      · replace h := (if_pos hc17).symm.trans h
        refine .seq ?_
        refine .region ?_
        refine .buildL (cs := [.int .i64 0, .int .i64 0, .int .i64 0, .int .i64 0, .sl 21 .full []]) ?_
        refine .wrL (cs := [.int .i64 0, .int .i64 0, .int .i64 0, .int .i64 0, .sl 21 .full []]) ?_
        refine .assign ?_
        refine .assign ?_
        refine .nil ?_
        cases h
        refine .imp (Imp.cell (.loc 0 2) (ds := [.int .i64 0, .int .i64 0, .int .i64 0, .int .i64 0, .sl 21 .ro (([] : List Int).map (PV.int .i32))]) (.cons (.refl _) rfl (.cons (.refl _) rfl (.cons (.refl _) rfl (.cons (.refl _) rfl (.cons (.ro _ _) rfl (.nil)))))) rfl) ?_
        exact .ret (fin_gen0 none)
      · replace h := (if_neg (nt hc17)).symm.trans h
        refine .skip ?_
        refine .seq ?_
        refine .seq ?_
        refine .region ?_
        refine .val ?_
        refine .val ?_
        refine .val ?_
        refine .val ?_
        refine .val ?_
        refine .nil ?_
        refine .cond (fun hc19 => ?_) (fun hc19 => ?_)
        · replace h := (if_pos hc19).symm.trans h
          refine .seq ?_
          refine .region ?_
          refine .buildL (cs := [.int .i64 0, .int .i64 0, .int .i64 0, .int .i64 0, .sl 21 .full []]) ?_
          refine .wrL (cs := [.int .i64 0, .int .i64 0, .int .i64 0, .int .i64 0, .sl 21 .full []]) ?_
          refine .assign ?_
          refine .assign ?_
          refine .nil ?_
          cases h
          refine .imp (Imp.cell (.loc 0 2) (ds := [.int .i64 0, .int .i64 0, .int .i64 0, .int .i64 0, .sl 21 .ro (([] : List Int).map (PV.int .i32))]) (.cons (.refl _) rfl (.cons (.refl _) rfl (.cons (.refl _) rfl (.cons (.refl _) rfl (.cons (.ro _ _) rfl (.nil)))))) rfl) ?_
          exact .ret (fin_gen0 none)
        · replace h := (if_neg (nt hc19)).symm.trans h
          refine .skip ?_
          refine .seq ?_
          refine .region ?_
          refine .val (v := .agg [.int .i64 a1.Channels, .sl 21 .ro (a1.Data.map (PV.int .i32))]) ?_
          obtain ⟨y20, hy20, h⟩ := bindE h
          refine .cP (g35 hy20) ?_
          refine .assign ?_
          refine .nil ?_
          refine .seq ?_
          obtain ⟨y21, hy21, h⟩ := bindE h
          refine .draw [] [[], [], [], [], [], [], [], []] [[], [], [], [], [], [], [], []] [[]]
            [(0, 0), (1, 0), (2, 0), (3, 0), (4, 0), (5, 0), (6, 0), (7, 0)] [] 0
            [⟨[(26, .int .i64 y20), (27, .ptr (.loc 0 0) 1), (28, .int .i64 a0.Capacity), (29, .agg [.int .i64 a0.Channels, .int .i64 a0.Capacity, .int .i64 a0.Written, .int .i64 a0.Read, .sl 21 .ro (a0.Data.map (PV.int .i32))]), (30, .int .i64 y21), (31, .int .i64 (w64 (a0.Capacity - y21))), (32, .int .i64 (iMin y20 (w64 (a0.Capacity - y21)))), (8, .int .i64 (iMin y20 (w64 (a0.Capacity - y21)))), (2, .ptr (.loc 0 0) 0), (3, .ptr (.loc 0 1) 0), (4, .ptr (.loc 0 2) 0), (7, .int .i64 y20)], [], [((.loc 0 0), [.int .i64 a0.Channels, .int .i64 a0.Capacity, .int .i64 a0.Written, .int .i64 a0.Read, .sl 21 .ro (a0.Data.map (PV.int .i32))]), ((.loc 0 1), [.int .i64 a1.Channels, .sl 21 .ro (a1.Data.map (PV.int .i32))]), ((.loc 0 2), [.int .i64 0, .int .i64 0, .int .i64 0, .int .i64 0, .sl 21 .full []])]⟩]
            [(2, .ptr (.loc 0 0) 0), (3, .ptr (.loc 0 1) 0), (4, .ptr (.loc 0 2) 0), (7, .int .i64 y20)]
            (.cons [7] [] (fun _ _ h => .move (h _)) rfl rfl <|
            .cons [2] [] (fun _ _ h => .val (h _)) rfl rfl <|
            .cons [27] [] (fun _ _ h => .val (h _)) rfl rfl <|
            .cons [2] [] (fun _ _ h => .val (h _)) rfl rfl <|
            .cons [29] [] (fun _ _ h => .cP (g33 hy21) (h _)) rfl rfl <|
            .cons [28, 30] [] (fun _ _ h => .val (h _)) rfl rfl <|
            .cons [26, 31] [] (fun _ _ h => .minL (h _)) rfl rfl <|
            .cons [32] [] (fun _ _ h => .assign (h _)) rfl rfl <|
            .nil)
            (.nil)
            (by kernel_rfl) rfl (.cons rfl (.cons rfl (.cons rfl (.cons rfl (.nil))))) (.nil) (.cons rfl (.cons rfl (.cons rfl (.nil)))) ?_
          refine .imp (T := St.of [(2, .ptr (.loc 0 0) 0), (3, .ptr (.loc 0 1) 0), (4, .ptr (.loc 0 2) 0), (7, .int .i64 y20), (8, .int .i64 (iMin y20 (w64 (a0.Capacity - y21))))] [((.loc 0 0), [.int .i64 a0.Channels, .int .i64 a0.Capacity, .int .i64 a0.Written, .int .i64 a0.Read, .sl 21 .ro (a0.Data.map (PV.int .i32))]), ((.loc 0 1), [.int .i64 a1.Channels, .sl 21 .ro (a1.Data.map (PV.int .i32))]), ((.loc 0 2), [.int .i64 0, .int .i64 0, .int .i64 0, .int .i64 0, .sl 21 .full []])]) (imp_of (.cons rfl (.cons rfl (.cons rfl (.cons rfl (.cons rfl (.nil)))))) (.cons rfl (.cons rfl (.cons rfl (.nil))))) ?_
          refine .seq ?_
          refine .seq ?_
          refine .region ?_
          refine .val ?_
          refine .val ?_
          refine .move ?_
          refine .val ?_
          refine .val ?_
          refine .nil ?_
          refine .cond (fun hc23 => ?_) (fun hc23 => ?_)
          · replace h := (if_pos hc23).symm.trans h
            refine .seq ?_
            refine .region ?_
            refine .buildL (cs := [.int .i64 0, .int .i64 0, .int .i64 0, .int .i64 0, .sl 21 .full []]) ?_
            refine .wrL (cs := [.int .i64 0, .int .i64 0, .int .i64 0, .int .i64 0, .sl 21 .full []]) ?_
            refine .assign ?_
            refine .assign ?_
            refine .nil ?_
            cases h
            refine .imp (Imp.cell (.loc 0 2) (ds := [.int .i64 0, .int .i64 0, .int .i64 0, .int .i64 0, .sl 21 .ro (([] : List Int).map (PV.int .i32))]) (.cons (.refl _) rfl (.cons (.refl _) rfl (.cons (.refl _) rfl (.cons (.refl _) rfl (.cons (.ro _ _) rfl (.nil)))))) rfl) ?_
            exact .ret (fin_gen0 none)
          · replace h := (if_neg (nt hc23)).symm.trans h
            refine .skip ?_
            refine .seq ?_
            obtain ⟨x24, hx24, h⟩ := bindE h
            obtain ⟨x25, hx25, h⟩ := bindE h
            obtain ⟨x26, hx26, h⟩ := bindE h
            refine .draw [2, 10, 12] [[], [], [], [], [], [], [], [], [], [], [2], [2, 10], [2, 10]] [[2, 10, 12], [2, 10, 12], [10, 12], [10, 12], [10, 12], [10, 12], [10, 12], [10, 12], [10, 12], [10, 12], [12], [12], []] [[], [2], [2, 10], [2, 10, 12]]
              [(0, 0), (1, 0), (3, 0), (3, 1), (4, 0), (4, 1), (5, 0), (5, 1), (6, 0), (6, 1), (7, 0), (7, 1), (8, 0), (8, 1), (9, 0), (9, 1), (11, 2)] [(0, 2, 1), (1, 10, 2), (2, 12, 3)] 3
              [⟨[(39, .ptr (.loc 0 0) 4), (40, .sl 21 .ro (a0.Data.map (PV.int .i32))), (42, .ptr (.loc 0 1) 1), (43, .sl 21 .ro (a1.Data.map (PV.int .i32))), (44, .int .i64 (iMin y20 (w64 (a0.Capacity - y21)))), (45, .ptr (.loc 0 1) 0), (46, .int .i64 a1.Channels), (47, .int .i64 (w64 ((iMin y20 (w64 (a0.Capacity - y21))) * a1.Channels))), (48, .sl 21 .ro (x25.map (PV.int .i32))), (2, .ptr (.loc 0 0) 0), (3, .ptr (.loc 0 1) 0), (4, .ptr (.loc 0 2) 0), (7, .int .i64 y20), (8, .int .i64 (iMin y20 (w64 (a0.Capacity - y21))))], [], [((.loc 0 0), [.int .i64 a0.Channels, .int .i64 a0.Capacity, .int .i64 a0.Written, .int .i64 a0.Read, .sl 21 .ro (a0.Data.map (PV.int .i32))]), ((.loc 0 1), [.int .i64 a1.Channels, .sl 21 .ro (a1.Data.map (PV.int .i32))]), ((.loc 0 2), [.int .i64 0, .int .i64 0, .int .i64 0, .int .i64 0, .sl 21 .full []])]⟩,
              ⟨[(39, .ptr (.loc 0 0) 4), (40, .sl 21 .ro (a0.Data.map (PV.int .i32))), (41, .sl 21 (.own (.row 9 2)) (x24.map (PV.int .i32))), (42, .ptr (.loc 0 1) 1), (43, .sl 21 .ro (a1.Data.map (PV.int .i32))), (44, .int .i64 (iMin y20 (w64 (a0.Capacity - y21)))), (45, .ptr (.loc 0 1) 0), (46, .int .i64 a1.Channels), (47, .int .i64 (w64 ((iMin y20 (w64 (a0.Capacity - y21))) * a1.Channels))), (48, .sl 21 .ro (x25.map (PV.int .i32))), (2, .ptr (.loc 0 0) 0), (3, .ptr (.loc 0 1) 0), (4, .ptr (.loc 0 2) 0), (7, .int .i64 y20), (8, .int .i64 (iMin y20 (w64 (a0.Capacity - y21))))], [], [((.loc 0 0), [.int .i64 a0.Channels, .int .i64 a0.Capacity, .int .i64 a0.Written, .int .i64 a0.Read, .sl 21 .ro (a0.Data.map (PV.int .i32))]), ((.loc 0 1), [.int .i64 a1.Channels, .sl 21 .ro (a1.Data.map (PV.int .i32))]), ((.loc 0 2), [.int .i64 0, .int .i64 0, .int .i64 0, .int .i64 0, .sl 21 .full []])]⟩,
              ⟨[(39, .ptr (.loc 0 0) 4), (40, .sl 21 .ro (a0.Data.map (PV.int .i32))), (41, .dead), (42, .ptr (.loc 0 1) 1), (43, .sl 21 .ro (a1.Data.map (PV.int .i32))), (44, .int .i64 (iMin y20 (w64 (a0.Capacity - y21)))), (45, .ptr (.loc 0 1) 0), (46, .int .i64 a1.Channels), (47, .int .i64 (w64 ((iMin y20 (w64 (a0.Capacity - y21))) * a1.Channels))), (48, .sl 21 .ro (x25.map (PV.int .i32))), (49, .sl 21 (.own (.row 9 10)) (x26.map (PV.int .i32))), (50, .ptr (.loc 0 0) 4), (2, .ptr (.loc 0 0) 0), (3, .ptr (.loc 0 1) 0), (4, .ptr (.loc 0 2) 0), (7, .int .i64 y20), (8, .int .i64 (iMin y20 (w64 (a0.Capacity - y21))))], [], [((.loc 0 0), [.int .i64 a0.Channels, .int .i64 a0.Capacity, .int .i64 a0.Written, .int .i64 a0.Read, .sl 21 .ro (a0.Data.map (PV.int .i32))]), ((.loc 0 1), [.int .i64 a1.Channels, .sl 21 .ro (a1.Data.map (PV.int .i32))]), ((.loc 0 2), [.int .i64 0, .int .i64 0, .int .i64 0, .int .i64 0, .sl 21 .full []])]⟩,
              ⟨[(39, .ptr (.loc 0 0) 4), (40, .sl 21 .ro (a0.Data.map (PV.int .i32))), (41, .dead), (42, .ptr (.loc 0 1) 1), (43, .sl 21 .ro (a1.Data.map (PV.int .i32))), (44, .int .i64 (iMin y20 (w64 (a0.Capacity - y21)))), (45, .ptr (.loc 0 1) 0), (46, .int .i64 a1.Channels), (47, .int .i64 (w64 ((iMin y20 (w64 (a0.Capacity - y21))) * a1.Channels))), (48, .sl 21 .ro (x25.map (PV.int .i32))), (49, .sl 21 (.own (.row 9 10)) (x26.map (PV.int .i32))), (50, .ptr (.loc 0 0) 4), (2, .ptr (.loc 0 0) 0), (3, .ptr (.loc 0 1) 0), (4, .ptr (.loc 0 2) 0), (7, .int .i64 y20), (8, .int .i64 (iMin y20 (w64 (a0.Capacity - y21))))], [], [((.loc 0 0), [.int .i64 a0.Channels, .int .i64 a0.Capacity, .int .i64 a0.Written, .int .i64 a0.Read, .sl 21 (.own (.row 9 10)) (x26.map (PV.int .i32))]), ((.loc 0 1), [.int .i64 a1.Channels, .sl 21 .ro (a1.Data.map (PV.int .i32))]), ((.loc 0 2), [.int .i64 0, .int .i64 0, .int .i64 0, .int .i64 0, .sl 21 .full []])]⟩]
              [(2, .ptr (.loc 0 0) 0), (3, .ptr (.loc 0 1) 0), (4, .ptr (.loc 0 2) 0), (7, .int .i64 y20), (8, .int .i64 (iMin y20 (w64 (a0.Capacity - y21))))]
              (.cons [2] [] (fun _ _ h => .val (h _)) rfl rfl <|
              .cons [39] [] (fun _ _ h => .val (h _)) rfl rfl <|
              .cons [3] [] (fun _ _ h => .val (h _)) rfl rfl <|
              .cons [3] [] (fun _ _ h => .val (h _)) rfl rfl <|
              .cons [42] [] (fun _ _ h => .val (h _)) rfl rfl <|
              .cons [42] [] (fun _ _ h => .val (h _)) rfl rfl <|
              .cons [8] [] (fun _ _ h => .move (h _)) rfl rfl <|
              .cons [8] [] (fun _ _ h => .move (h _)) rfl rfl <|
              .cons [3] [] (fun _ _ h => .val (h _)) rfl rfl <|
              .cons [3] [] (fun _ _ h => .val (h _)) rfl rfl <|
              .cons [45] [] (fun _ _ h => .val (h _)) rfl rfl <|
              .cons [45] [] (fun _ _ h => .val (h _)) rfl rfl <|
              .cons [44, 46] [] (fun _ _ h => .val (h _)) rfl rfl <|
              .cons [44, 46] [] (fun _ _ h => .val (h _)) rfl rfl <|
              .cons [43, 47] [] (fun _ _ h => .partL (f := (PV.int .i32)) hx25 (h _)) rfl rfl <|
              .cons [43, 47] [] (fun _ _ h => .partL (f := (PV.int .i32)) hx25 (h _)) rfl rfl <|
              .cons [2] [] (fun _ _ h => .val (h _)) rfl rfl <|
              .nil)
              (.cons (PV.sub (oneSub (.row 9 2) .frz)) [40] [] (fun _ _ h => .appN (f := (PV.int .i32)) hx24 (h _ _ (.cons rfl (.cons rfl (.cons rfl (.nil)))))) rfl (.old rfl (.old rfl (.new rfl (.old rfl (.old rfl (.old rfl (.old rfl (.old rfl (.old rfl (.old rfl (.old rfl (.old rfl (.old rfl (.old rfl (.old rfl (.nil)))))))))))))))) rfl rfl <|
              .cons (PV.sub (twoSub (.row 9 2) .kill (.row 9 10) .frz)) [41, 48] [] (fun _ _ h => .appL (f := (PV.int .i32)) hx26 (h _ _ (.cons rfl (.cons rfl (.cons rfl (.nil)))))) rfl (.old rfl (.old rfl (.old rfl (.old rfl (.old rfl (.old rfl (.old rfl (.old rfl (.old rfl (.old rfl (.new rfl (.new rfl (.old rfl (.old rfl (.old rfl (.old rfl (.old rfl (.nil)))))))))))))))))) rfl rfl <|
              .cons (fun x => x) [50, 49] [] (fun _ _ h => .wrL (cs := [.int .i64 a0.Channels, .int .i64 a0.Capacity, .int .i64 a0.Written, .int .i64 a0.Read, .sl 21 (.own (.row 9 10)) (x26.map (PV.int .i32))]) (h _ _ (.cons rfl (.cons rfl (.cons rfl (.nil)))))) rfl (.old rfl (.old rfl (.old rfl (.old rfl (.old rfl (.old rfl (.old rfl (.old rfl (.old rfl (.old rfl (.old rfl (.old rfl (.old rfl (.old rfl (.old rfl (.old rfl (.old rfl (.nil)))))))))))))))))) rfl rfl <|
              .nil)
              (by kernel_rfl) rfl (.cons rfl (.cons rfl (.cons rfl (.cons rfl (.cons rfl (.nil)))))) (.nil) (.cons rfl (.cons rfl (.cons rfl (.nil)))) ?_
            refine .imp (T := St.of [(2, .ptr (.loc 0 0) 0), (4, .ptr (.loc 0 2) 0), (7, .int .i64 y20), (8, .int .i64 (iMin y20 (w64 (a0.Capacity - y21))))] [((.loc 0 0), [.int .i64 a0.Channels, .int .i64 a0.Capacity, .int .i64 a0.Written, .int .i64 a0.Read, .sl 21 (.own (.row 9 10)) (x26.map (PV.int .i32))]), ((.loc 0 2), [.int .i64 0, .int .i64 0, .int .i64 0, .int .i64 0, .sl 21 .full []])]) (imp_of (.cons rfl (.cons rfl (.cons rfl (.cons rfl (.nil))))) (.cons rfl (.cons rfl (.nil)))) ?_
            refine .seq ?_
            refine .region ?_
            refine .val ?_
            refine .val ?_
            refine .move ?_
            refine .val ?_
            refine .val ?_
            refine .wrL (cs := [.int .i64 a0.Channels, .int .i64 a0.Capacity, .int .i64 (w64 (a0.Written + (iMin y20 (w64 (a0.Capacity - y21))))), .int .i64 a0.Read, .sl 21 (.own (.row 9 10)) (x26.map (PV.int .i32))]) ?_
            refine .nil ?_
            refine .seq ?_
            refine .region ?_
            refine .val (v := .agg [.int .i64 a0.Channels, .int .i64 a0.Capacity, .int .i64 (w64 (a0.Written + (iMin y20 (w64 (a0.Capacity - y21))))), .int .i64 a0.Read, .sl 21 (.own (.row 9 10)) (x26.map (PV.int .i32))]) ?_
            refine .move ?_
            refine .move ?_
            refine .val ?_
            refine .wrL (cs := [.int .i64 a0.Channels, .int .i64 a0.Capacity, .int .i64 (w64 (a0.Written + (iMin y20 (w64 (a0.Capacity - y21))))), .int .i64 a0.Read, .sl 21 (.own (.row 9 10)) (x26.map (PV.int .i32))]) ?_
            refine .assign ?_
            refine .assign ?_
            refine .nil ?_
            cases h
            exact .ret (fin_gen0 none)

/- soundservice/soundserviceref17.Read -/
def f28 (n : Nat) (a0 : Ring) (a1 : Int) : Option (Block × Int × Ring × Int) :=
  (f32 n (⟨a0.Channels, a0.Capacity, a0.Written, a0.Read, a0.Data⟩ : Ring)).bind fun y3 =>
  if !y3 then (
  some ((⟨0, ([] : List Int)⟩ : Block), 0, (⟨0, 0, 0, 0, ([] : List Int)⟩ : Ring), 1))
  else (
  joinK (fun (_ : Unit) =>
  some ((⟨0, ([] : List Int)⟩ : Block), 0, (⟨0, 0, 0, 0, ([] : List Int)⟩ : Ring), 2)) fun j10 =>
  joinK (fun (_ : Unit) =>
  if decide (a1 > (65536 : Int)) then (
  some ((⟨0, ([] : List Int)⟩ : Block), 0, (⟨0, 0, 0, 0, ([] : List Int)⟩ : Ring), 2))
  else (
  (f33 n (⟨a0.Channels, a0.Capacity, a0.Written, a0.Read, a0.Data⟩ : Ring)).bind fun y14 =>
  (lPart a0.Data (0 : Int) (w64 ((iMin a1 y14) * a0.Channels))).bind fun x15 =>
  (lApp ([] : List Int) x15).bind fun x16 =>
  (lAppZ x16 (w64 ((w64 (a1 - (iMin a1 y14))) * a0.Channels)) (0 : Int)).bind fun x17 =>
  (lPart a0.Data (w64 ((iMin a1 y14) * a0.Channels)) (a0.Data.length : Int)).bind fun x18 =>
  (lApp ([] : List Int) x18).bind fun x19 =>
  some ((⟨a0.Channels, x17⟩ : Block), w64 (a1 - (iMin a1 y14)), (⟨a0.Channels, a0.Capacity, a0.Written, w64 (a0.Read + (iMin a1 y14)), x19⟩ : Ring), 0))) fun j11 =>
  if decide (a1 < (0 : Int)) then (
  j10 ())
  else (
  j11 ()))
set_option maxHeartbeats 4000000 in
set_option maxRecDepth 100000 in
theorem g28 {n : Nat} {a0 : Ring} {a1 : Int} {r : (Block × Int × Ring × Int)} (h : f28 n a0 a1 = some r) :
    Ab.Can Try.prog 28 [.agg [.int .i64 a0.Channels, .int .i64 a0.Capacity, .int .i64 a0.Written, .int .i64 a0.Read, .sl 21 .ro (a0.Data.map (PV.int .i32))], .int .i64 a1] H0 (.tup [.agg [.int .i64 r.1.Channels, .sl 21 .ro (r.1.Data.map (PV.int .i32))], .int .i64 r.2.1, .agg [.int .i64 r.2.2.1.Channels, .int .i64 r.2.2.1.Capacity, .int .i64 r.2.2.1.Written, .int .i64 r.2.2.1.Read, .sl 21 .ro (r.2.2.1.Data.map (PV.int .i32))], .int .i64 r.2.2.2]) H0 := by
  refine can_of tabOK mix Try.call28 Try.func28 rfl (by kernel_rfl) (by show _ ≤ 67; simp) fun _ => ?_
  rw [f28] at h
  refine .seq ?_
  refine .region ?_
  refine .boxL (cs := [.int .i64 a0.Channels, .int .i64 a0.Capacity, .int .i64 a0.Written, .int .i64 a0.Read, .sl 21 .ro (a0.Data.map (PV.int .i32))]) ?_
  refine .allocL (cs := [.int .i64 0, .sl 21 .full []]) ?_
  refine .assign ?_
  refine .allocL (cs := [.int .i64 0, .int .i64 0, .int .i64 0, .int .i64 0, .sl 21 .full []]) ?_
  refine .assign ?_
  refine .nil ?_
  refine .seq ?_
  refine .seq ?_
  refine .region ?_
  refine .val (v := .agg [.int .i64 a0.Channels, .int .i64 a0.Capacity, .int .i64 a0.Written, .int .i64 a0.Read, .sl 21 .ro (a0.Data.map (PV.int .i32))]) ?_
  obtain ⟨y3, hy3, h⟩ := bindE h
  refine .cP (g32 hy3) ?_
  refine .val ?_
  refine .nil ?_
  refine .cond (fun hc4 => ?_) (fun hc4 => ?_)
  · replace h := (if_pos hc4).symm.trans h
    refine .seq ?_
    refine .region ?_
    refine .buildL (cs := [.int .i64 0, .sl 21 .full []]) ?_
    refine .buildL (cs := [.int .i64 0, .int .i64 0, .int .i64 0, .int .i64 0, .sl 21 .full []]) ?_
    refine .wrL (cs := [.int .i64 0, .sl 21 .full []]) ?_
    refine .assign ?_
    refine .wrL (cs := [.int .i64 0, .int .i64 0, .int .i64 0, .int .i64 0, .sl 21 .full []]) ?_
    refine .assign ?_
    refine .nil ?_
    cases h
    refine .imp (Imp.cell (.loc 0 1) (ds := [.int .i64 0, .sl 21 .ro (([] : List Int).map (PV.int .i32))]) (.cons (.refl _) rfl (.cons (.ro _ _) rfl (.nil))) rfl) ?_
    refine .imp (Imp.cell (.loc 0 3) (ds := [.int .i64 0, .int .i64 0, .int .i64 0, .int .i64 0, .sl 21 .ro (([] : List Int).map (PV.int .i32))]) (.cons (.refl _) rfl (.cons (.refl _) rfl (.cons (.refl _) rfl (.cons (.refl _) rfl (.cons (.ro _ _) rfl (.nil)))))) rfl) ?_
    exact .ret (fin_gen0 none)
  · replace h := (if_neg (nt hc4)).symm.trans h
    refine .skip ?_
    refine .seq ?_
    obtain ⟨j10, hj10, h⟩ := joinE h
    obtain ⟨j11, hj11, h⟩ := joinE h
    refine .cutI (fun T => (T = St.of [(1, .int .i64 a1), (2, .ptr (.loc 0 0) 0), (4, .ptr (.loc 0 1) 0), (6, .ptr (.loc 0 3) 0), (20, .bool true)] [((.loc 0 0), [.int .i64 a0.Channels, .int .i64 a0.Capacity, .int .i64 a0.Written, .int .i64 a0.Read, .sl 21 .ro (a0.Data.map (PV.int .i32))]), ((.loc 0 1), [.int .i64 0, .sl 21 .full []]), ((.loc 0 3), [.int .i64 0, .int .i64 0, .int .i64 0, .int .i64 0, .sl 21 .full []])] ∧ j10 () = some r) ∨ (T = St.of [(1, .int .i64 a1), (2, .ptr (.loc 0 0) 0), (4, .ptr (.loc 0 1) 0), (6, .ptr (.loc 0 3) 0), (20, .bool (decide (a1 > (65536 : Int))))] [((.loc 0 0), [.int .i64 a0.Channels, .int .i64 a0.Capacity, .int .i64 a0.Written, .int .i64 a0.Read, .sl 21 .ro (a0.Data.map (PV.int .i32))]), ((.loc 0 1), [.int .i64 0, .sl 21 .full []]), ((.loc 0 3), [.int .i64 0, .int .i64 0, .int .i64 0, .int .i64 0, .sl 21 .full []])] ∧ j11 () = some r)) ?_ ?_
    · refine .region ?_
      refine .move ?_
      refine .val ?_
      refine .move ?_
      refine .caseG (fun hc12 => ?_) (fun hc12 => ?_)
      · replace h := (if_pos hc12).symm.trans h
        refine .skip ?_
        refine .skip ?_
        refine .brT ?_
        refine .nil ?_
        exact ⟨_, (.inl ⟨rfl, h⟩), (imp_of (.cons rfl (.cons rfl (.cons rfl (.cons rfl (.cons rfl (.nil)))))) (.cons rfl (.cons rfl (.cons rfl (.nil)))))⟩
      · replace h := (if_neg (nt hc12)).symm.trans h
        refine .move ?_
        refine .val ?_
        refine .brF ?_
        refine .nil ?_
        exact ⟨_, (.inr (⟨rfl, h⟩)), (imp_of (.cons rfl (.cons rfl (.cons rfl (.cons rfl (.cons rfl (.nil)))))) (.cons rfl (.cons rfl (.cons rfl (.nil)))))⟩
    · rintro T (⟨rfl, h⟩ | ⟨rfl, h⟩)
      · subst hj10
        refine .condT ?_
        refine .seq ?_
        refine .region ?_
        refine .buildL (cs := [.int .i64 0, .sl 21 .full []]) ?_
        refine .buildL (cs := [.int .i64 0, .int .i64 0, .int .i64 0, .int .i64 0, .sl 21 .full []]) ?_
        refine .wrL (cs := [.int .i64 0, .sl 21 .full []]) ?_
        refine .assign ?_
        refine .wrL (cs := [.int .i64 0, .int .i64 0, .int .i64 0, .int .i64 0, .sl 21 .full []]) ?_
        refine .assign ?_
        refine .nil ?_
        cases h
        refine .imp (Imp.cell (.loc 0 1) (ds := [.int .i64 0, .sl 21 .ro (([] : List Int).map (PV.int .i32))]) (.cons (.refl _) rfl (.cons (.ro _ _) rfl (.nil))) rfl) ?_
        refine .imp (Imp.cell (.loc 0 3) (ds := [.int .i64 0, .int .i64 0, .int .i64 0, .int .i64 0, .sl 21 .ro (([] : List Int).map (PV.int .i32))]) (.cons (.refl _) rfl (.cons (.refl _) rfl (.cons (.refl _) rfl (.cons (.refl _) rfl (.cons (.ro _ _) rfl (.nil)))))) rfl) ?_
        exact .ret (fin_gen0 none)
      · subst hj11
        refine .cond (fun hc13 => ?_) (fun hc13 => ?_)
        · replace h := (if_pos hc13).symm.trans h
          refine .seq ?_
          refine .region ?_
          refine .buildL (cs := [.int .i64 0, .sl 21 .full []]) ?_
          refine .buildL (cs := [.int .i64 0, .int .i64 0, .int .i64 0, .int .i64 0, .sl 21 .full []]) ?_
          refine .wrL (cs := [.int .i64 0, .sl 21 .full []]) ?_
          refine .assign ?_
          refine .wrL (cs := [.int .i64 0, .int .i64 0, .int .i64 0, .int .i64 0, .sl 21 .full []]) ?_
          refine .assign ?_
          refine .nil ?_
          cases h
          refine .imp (Imp.cell (.loc 0 1) (ds := [.int .i64 0, .sl 21 .ro (([] : List Int).map (PV.int .i32))]) (.cons (.refl _) rfl (.cons (.ro _ _) rfl (.nil))) rfl) ?_
          refine .imp (Imp.cell (.loc 0 3) (ds := [.int .i64 0, .int .i64 0, .int .i64 0, .int .i64 0, .sl 21 .ro (([] : List Int).map (PV.int .i32))]) (.cons (.refl _) rfl (.cons (.refl _) rfl (.cons (.refl _) rfl (.cons (.refl _) rfl (.cons (.ro _ _) rfl (.nil)))))) rfl) ?_
          exact .ret (fin_gen0 none)
        · replace h := (if_neg (nt hc13)).symm.trans h
          refine .skip ?_
          refine .seq ?_
          refine .region ?_
          refine .move ?_
          refine .val (v := .agg [.int .i64 a0.Channels, .int .i64 a0.Capacity, .int .i64 a0.Written, .int .i64 a0.Read, .sl 21 .ro (a0.Data.map (PV.int .i32))]) ?_
          obtain ⟨y14, hy14, h⟩ := bindE h
          refine .cP (g33 hy14) ?_
          refine .minL ?_
          refine .assign ?_
          refine .nil ?_
          refine .seq ?_
          obtain ⟨x15, hx15, h⟩ := bindE h
          obtain ⟨x16, hx16, h⟩ := bindE h
          refine .draw [9, 11, 12] [[], [], [], [], [], [], [], [], [], [], [9], [], [9, 11]] [[12], [12], [9, 12], [9, 12], [9, 12], [9, 12], [9, 12], [9, 12], [9, 12], [12], [12], [12], []] [[], [9], [11], [9, 11], [9, 11, 12]]
            [(0, 0), (0, 1), (0, 2), (0, 3), (1, 0), (1, 1), (1, 2), (1, 3), (2, 0), (2, 2), (3, 0), (3, 2), (4, 0), (4, 2), (5, 0), (5, 2), (6, 0), (6, 2), (7, 0), (7, 2), (8, 0), (8, 2), (10, 1), (10, 3)] [(0, 9, 1), (0, 11, 2), (1, 11, 3), (2, 9, 3), (3, 12, 4)] 4
            [⟨[(27, .ptr (.loc 0 0) 0), (28, .int .i64 a0.Channels), (29, .ptr (.loc 0 0) 4), (30, .sl 21 .ro (a0.Data.map (PV.int .i32))), (31, .int .i64 (iMin a1 y14)), (32, .ptr (.loc 0 0) 0), (33, .int .i64 a0.Channels), (34, .int .i64 (w64 ((iMin a1 y14) * a0.Channels))), (35, .sl 21 .ro (x15.map (PV.int .i32))), (1, .int .i64 a1), (2, .ptr (.loc 0 0) 0), (4, .ptr (.loc 0 1) 0), (6, .ptr (.loc 0 3) 0), (8, .int .i64 (iMin a1 y14))], [], [((.loc 0 0), [.int .i64 a0.Channels, .int .i64 a0.Capacity, .int .i64 a0.Written, .int .i64 a0.Read, .sl 21 .ro (a0.Data.map (PV.int .i32))]), ((.loc 0 1), [.int .i64 0, .sl 21 .full []]), ((.loc 0 3), [.int .i64 0, .int .i64 0, .int .i64 0, .int .i64 0, .sl 21 .full []])]⟩,
            ⟨[(27, .ptr (.loc 0 0) 0), (28, .int .i64 a0.Channels), (29, .ptr (.loc 0 0) 4), (30, .sl 21 .ro (a0.Data.map (PV.int .i32))), (31, .int .i64 (iMin a1 y14)), (32, .ptr (.loc 0 0) 0), (33, .int .i64 a0.Channels), (34, .int .i64 (w64 ((iMin a1 y14) * a0.Channels))), (35, .sl 21 .ro (x15.map (PV.int .i32))), (36, .sl 21 (.own (.row 6 9)) (x16.map (PV.int .i32))), (37, .agg [.int .i64 a0.Channels, .sl 21 (.own (.row 6 9)) (x16.map (PV.int .i32))]), (1, .int .i64 a1), (2, .ptr (.loc 0 0) 0), (4, .ptr (.loc 0 1) 0), (6, .ptr (.loc 0 3) 0), (8, .int .i64 (iMin a1 y14))], [], [((.loc 0 0), [.int .i64 a0.Channels, .int .i64 a0.Capacity, .int .i64 a0.Written, .int .i64 a0.Read, .sl 21 .ro (a0.Data.map (PV.int .i32))]), ((.loc 0 1), [.int .i64 0, .sl 21 .full []]), ((.loc 0 3), [.int .i64 0, .int .i64 0, .int .i64 0, .int .i64 0, .sl 21 .full []])]⟩,
            ⟨[(27, .ptr (.loc 0 0) 0), (28, .int .i64 a0.Channels), (29, .ptr (.loc 0 0) 4), (30, .sl 21 .ro (a0.Data.map (PV.int .i32))), (31, .int .i64 (iMin a1 y14)), (32, .ptr (.loc 0 0) 0), (33, .int .i64 a0.Channels), (34, .int .i64 (w64 ((iMin a1 y14) * a0.Channels))), (35, .sl 21 .ro (x15.map (PV.int .i32))), (9, .ptr (.loc 6 11) 0), (1, .int .i64 a1), (2, .ptr (.loc 0 0) 0), (4, .ptr (.loc 0 1) 0), (6, .ptr (.loc 0 3) 0), (8, .int .i64 (iMin a1 y14))], [], [((.loc 0 0), [.int .i64 a0.Channels, .int .i64 a0.Capacity, .int .i64 a0.Written, .int .i64 a0.Read, .sl 21 .ro (a0.Data.map (PV.int .i32))]), ((.loc 0 1), [.int .i64 0, .sl 21 .full []]), ((.loc 0 3), [.int .i64 0, .int .i64 0, .int .i64 0, .int .i64 0, .sl 21 .full []]), ((.loc 6 11), [.int .i64 0, .sl 21 .full []])]⟩,
            ⟨[(27, .ptr (.loc 0 0) 0), (28, .int .i64 a0.Channels), (29, .ptr (.loc 0 0) 4), (30, .sl 21 .ro (a0.Data.map (PV.int .i32))), (31, .int .i64 (iMin a1 y14)), (32, .ptr (.loc 0 0) 0), (33, .int .i64 a0.Channels), (34, .int .i64 (w64 ((iMin a1 y14) * a0.Channels))), (35, .sl 21 .ro (x15.map (PV.int .i32))), (36, .sl 21 (.own (.row 6 9)) (x16.map (PV.int .i32))), (37, .agg [.int .i64 a0.Channels, .sl 21 (.own (.row 6 9)) (x16.map (PV.int .i32))]), (9, .ptr (.loc 6 11) 0), (1, .int .i64 a1), (2, .ptr (.loc 0 0) 0), (4, .ptr (.loc 0 1) 0), (6, .ptr (.loc 0 3) 0), (8, .int .i64 (iMin a1 y14))], [], [((.loc 0 0), [.int .i64 a0.Channels, .int .i64 a0.Capacity, .int .i64 a0.Written, .int .i64 a0.Read, .sl 21 .ro (a0.Data.map (PV.int .i32))]), ((.loc 0 1), [.int .i64 0, .sl 21 .full []]), ((.loc 0 3), [.int .i64 0, .int .i64 0, .int .i64 0, .int .i64 0, .sl 21 .full []]), ((.loc 6 11), [.int .i64 0, .sl 21 .full []])]⟩,
            ⟨[(27, .ptr (.loc 0 0) 0), (28, .int .i64 a0.Channels), (29, .ptr (.loc 0 0) 4), (30, .sl 21 .ro (a0.Data.map (PV.int .i32))), (31, .int .i64 (iMin a1 y14)), (32, .ptr (.loc 0 0) 0), (33, .int .i64 a0.Channels), (34, .int .i64 (w64 ((iMin a1 y14) * a0.Channels))), (35, .sl 21 .ro (x15.map (PV.int .i32))), (36, .sl 21 (.own (.row 6 9)) (x16.map (PV.int .i32))), (37, .agg [.int .i64 a0.Channels, .sl 21 (.own (.row 6 9)) (x16.map (PV.int .i32))]), (9, .ptr (.loc 6 11) 0), (1, .int .i64 a1), (2, .ptr (.loc 0 0) 0), (4, .ptr (.loc 0 1) 0), (6, .ptr (.loc 0 3) 0), (8, .int .i64 (iMin a1 y14))], [], [((.loc 0 0), [.int .i64 a0.Channels, .int .i64 a0.Capacity, .int .i64 a0.Written, .int .i64 a0.Read, .sl 21 .ro (a0.Data.map (PV.int .i32))]), ((.loc 0 1), [.int .i64 0, .sl 21 .full []]), ((.loc 0 3), [.int .i64 0, .int .i64 0, .int .i64 0, .int .i64 0, .sl 21 .full []]), ((.loc 6 11), [.int .i64 a0.Channels, .sl 21 (.own (.row 6 9)) (x16.map (PV.int .i32))])]⟩]
            [(1, .int .i64 a1), (2, .ptr (.loc 0 0) 0), (4, .ptr (.loc 0 1) 0), (6, .ptr (.loc 0 3) 0), (8, .int .i64 (iMin a1 y14))]
            (.cons [2] [] (fun _ _ h => .val (h _)) rfl rfl <|
            .cons [2] [] (fun _ _ h => .val (h _)) rfl rfl <|
            .cons [2] [] (fun _ _ h => .val (h _)) rfl rfl <|
            .cons [2] [] (fun _ _ h => .val (h _)) rfl rfl <|
            .cons [27] [] (fun _ _ h => .val (h _)) rfl rfl <|
            .cons [27] [] (fun _ _ h => .val (h _)) rfl rfl <|
            .cons [27] [] (fun _ _ h => .val (h _)) rfl rfl <|
            .cons [27] [] (fun _ _ h => .val (h _)) rfl rfl <|
            .cons [2] [] (fun _ _ h => .val (h _)) rfl rfl <|
            .cons [2] [] (fun _ _ h => .val (h _)) rfl rfl <|
            .cons [29] [] (fun _ _ h => .val (h _)) rfl rfl <|
            .cons [29] [] (fun _ _ h => .val (h _)) rfl rfl <|
            .cons [8] [] (fun _ _ h => .move (h _)) rfl rfl <|
            .cons [8] [] (fun _ _ h => .move (h _)) rfl rfl <|
            .cons [2] [] (fun _ _ h => .val (h _)) rfl rfl <|
            .cons [2] [] (fun _ _ h => .val (h _)) rfl rfl <|
            .cons [32] [] (fun _ _ h => .val (h _)) rfl rfl <|
            .cons [32] [] (fun _ _ h => .val (h _)) rfl rfl <|
            .cons [31, 33] [] (fun _ _ h => .val (h _)) rfl rfl <|
            .cons [31, 33] [] (fun _ _ h => .val (h _)) rfl rfl <|
            .cons [30, 34] [] (fun _ _ h => .partL (f := (PV.int .i32)) hx15 (h _)) rfl rfl <|
            .cons [30, 34] [] (fun _ _ h => .partL (f := (PV.int .i32)) hx15 (h _)) rfl rfl <|
            .cons [28, 36] [] (fun _ _ h => .buildL (cs := [.int .i64 a0.Channels, .sl 21 (.own (.row 6 9)) (x16.map (PV.int .i32))]) (h _)) rfl rfl <|
            .cons [28, 36] [] (fun _ _ h => .buildL (cs := [.int .i64 a0.Channels, .sl 21 (.own (.row 6 9)) (x16.map (PV.int .i32))]) (h _)) rfl rfl <|
            .nil)
            (.cons (PV.sub (oneSub (.row 6 9) .frz)) [35] [] (fun _ _ h => .appN (f := (PV.int .i32)) hx16 (h _ _ (.cons rfl (.cons rfl (.cons rfl (.nil)))))) rfl (.old rfl (.old rfl (.old rfl (.old rfl (.old rfl (.old rfl (.old rfl (.old rfl (.old rfl (.new rfl (.new rfl (.old rfl (.old rfl (.old rfl (.old rfl (.old rfl (.nil))))))))))))))))) rfl rfl <|
            .cons (PV.sub (oneSub (.loc 6 11) .kill)) [] [] (fun _ _ h => .allocL (cs := [.int .i64 0, .sl 21 .full []]) (h _ _ (.cons rfl (.cons rfl (.cons rfl (.cons rfl (.nil))))))) rfl (.old rfl (.old rfl (.old rfl (.old rfl (.old rfl (.old rfl (.old rfl (.old rfl (.old rfl (.new rfl (.old rfl (.old rfl (.old rfl (.old rfl (.old rfl (.nil)))))))))))))))) rfl rfl <|
            .cons (PV.sub (oneSub (.loc 6 11) .kill)) [] [] (fun _ _ h => .allocL (cs := [.int .i64 0, .sl 21 .full []]) (h _ _ (.cons rfl (.cons rfl (.cons rfl (.cons rfl (.nil))))))) rfl (.old rfl (.old rfl (.old rfl (.old rfl (.old rfl (.old rfl (.old rfl (.old rfl (.old rfl (.old rfl (.old rfl (.new rfl (.old rfl (.old rfl (.old rfl (.old rfl (.old rfl (.nil)))))))))))))))))) rfl rfl <|
            .cons (PV.sub (oneSub (.row 6 9) .frz)) [35] [] (fun _ _ h => .appN (f := (PV.int .i32)) hx16 (h _ _ (.cons rfl (.cons rfl (.cons rfl (.cons rfl (.nil))))))) rfl (.old rfl (.old rfl (.old rfl (.old rfl (.old rfl (.old rfl (.old rfl (.old rfl (.old rfl (.new rfl (.new rfl (.old rfl (.old rfl (.old rfl (.old rfl (.old rfl (.old rfl (.nil)))))))))))))))))) rfl rfl <|
            .cons (fun x => x) [9, 37] [] (fun _ _ h => .wrL (cs := [.int .i64 a0.Channels, .sl 21 (.own (.row 6 9)) (x16.map (PV.int .i32))]) (h _ _ (.cons rfl (.cons rfl (.cons rfl (.cons rfl (.nil))))))) rfl (.old rfl (.old rfl (.old rfl (.old rfl (.old rfl (.old rfl (.old rfl (.old rfl (.old rfl (.old rfl (.old rfl (.old rfl (.old rfl (.old rfl (.old rfl (.old rfl (.old rfl (.nil)))))))))))))))))) rfl rfl <|
            .nil)
            (by kernel_rfl) rfl (.cons rfl (.cons rfl (.cons rfl (.cons rfl (.cons rfl (.nil)))))) (.nil) (.cons rfl (.cons rfl (.cons rfl (.nil)))) ?_
          refine .imp (T := St.of [(1, .int .i64 a1), (2, .ptr (.loc 0 0) 0), (4, .ptr (.loc 0 1) 0), (6, .ptr (.loc 0 3) 0), (8, .int .i64 (iMin a1 y14)), (9, .ptr (.loc 6 11) 0)] [((.loc 0 0), [.int .i64 a0.Channels, .int .i64 a0.Capacity, .int .i64 a0.Written, .int .i64 a0.Read, .sl 21 .ro (a0.Data.map (PV.int .i32))]), ((.loc 0 1), [.int .i64 0, .sl 21 .full []]), ((.loc 0 3), [.int .i64 0, .int .i64 0, .int .i64 0, .int .i64 0, .sl 21 .full []]), ((.loc 6 11), [.int .i64 a0.Channels, .sl 21 (.own (.row 6 9)) (x16.map (PV.int .i32))])]) (imp_of (.cons rfl (.cons rfl (.cons rfl (.cons rfl (.cons rfl (.cons rfl (.nil))))))) (.cons rfl (.cons rfl (.cons rfl (.cons rfl (.nil)))))) ?_
          refine .seq ?_
          refine .region ?_
          refine .val ?_
          refine .val ?_
          refine .move ?_
          refine .move ?_
          refine .val ?_
          refine .val ?_
          refine .val ?_
          refine .val ?_
          obtain ⟨x17, hx17, h⟩ := bindE h
          refine .appZO (f := (PV.int .i32)) hx17 ?_
          refine .val ?_
          refine .wrL (cs := [.int .i64 a0.Channels, .sl 21 (.own (.row 7 8)) (x17.map (PV.int .i32))]) ?_
          refine .nil ?_
          refine .seq ?_
          refine .region ?_
          refine .val ?_
          refine .val ?_
          refine .move ?_
          refine .val ?_
          refine .val ?_
          refine .val ?_
          obtain ⟨x18, hx18, h⟩ := bindE h
          refine .partE (f := (PV.int .i32)) hx18 ?_
          obtain ⟨x19, hx19, h⟩ := bindE h
          refine .appN (f := (PV.int .i32)) hx19 ?_
          refine .val ?_
          refine .wrL (cs := [.int .i64 a0.Channels, .int .i64 a0.Capacity, .int .i64 a0.Written, .int .i64 a0.Read, .sl 21 (.own (.row 8 7)) (x19.map (PV.int .i32))]) ?_
          refine .nil ?_
          refine .imp (T := St.of [(1, .int .i64 a1), (2, .ptr (.loc 0 0) 0), (4, .ptr (.loc 0 1) 0), (6, .ptr (.loc 0 3) 0), (8, .int .i64 (iMin a1 y14)), (9, .ptr (.loc 6 11) 0)] [((.loc 0 0), [.int .i64 a0.Channels, .int .i64 a0.Capacity, .int .i64 a0.Written, .int .i64 a0.Read, .sl 21 (.own (.row 8 7)) (x19.map (PV.int .i32))]), ((.loc 0 1), [.int .i64 0, .sl 21 .full []]), ((.loc 0 3), [.int .i64 0, .int .i64 0, .int .i64 0, .int .i64 0, .sl 21 .full []]), ((.loc 6 11), [.int .i64 a0.Channels, .sl 21 (.own (.row 7 8)) (x17.map (PV.int .i32))])]) (imp_of (.cons rfl (.cons rfl (.cons rfl (.cons rfl (.cons rfl (.cons rfl (.nil))))))) (.cons rfl (.cons rfl (.cons rfl (.cons rfl (.nil)))))) ?_
          refine .seq ?_
          refine .region ?_
          refine .val ?_
          refine .val ?_
          refine .move ?_
          refine .val ?_
          refine .val ?_
          refine .wrL (cs := [.int .i64 a0.Channels, .int .i64 a0.Capacity, .int .i64 a0.Written, .int .i64 (w64 (a0.Read + (iMin a1 y14))), .sl 21 (.own (.row 8 7)) (x19.map (PV.int .i32))]) ?_
          refine .nil ?_
          refine .seq ?_
          refine .draw [5, 7] [[], [], [], [], [], [], [5], [5], [5, 7]] [[5, 7], [7], [7], [7], [7], [7], [7], [], []] [[], [5], [5, 7]]
            [(0, 0), (1, 0), (1, 1), (2, 0), (2, 1), (3, 0), (3, 1), (4, 0), (4, 1), (6, 1), (8, 2)] [(0, 5, 1), (1, 7, 2)] 2
            [⟨[(62, .agg [.int .i64 a0.Channels, .sl 21 (.own (.row 7 8)) (x17.map (PV.int .i32))]), (63, .int .i64 a1), (64, .int .i64 (iMin a1 y14)), (65, .int .i64 (w64 (a1 - (iMin a1 y14)))), (66, .agg [.int .i64 a0.Channels, .int .i64 a0.Capacity, .int .i64 a0.Written, .int .i64 (w64 (a0.Read + (iMin a1 y14))), .sl 21 (.own (.row 8 7)) (x19.map (PV.int .i32))]), (1, .int .i64 a1), (2, .ptr (.loc 0 0) 0), (4, .ptr (.loc 0 1) 0), (6, .ptr (.loc 0 3) 0), (8, .int .i64 (iMin a1 y14)), (9, .ptr (.loc 6 11) 0)], [], [((.loc 0 0), [.int .i64 a0.Channels, .int .i64 a0.Capacity, .int .i64 a0.Written, .int .i64 (w64 (a0.Read + (iMin a1 y14))), .sl 21 (.own (.row 8 7)) (x19.map (PV.int .i32))]), ((.loc 0 1), [.int .i64 0, .sl 21 .full []]), ((.loc 0 3), [.int .i64 0, .int .i64 0, .int .i64 0, .int .i64 0, .sl 21 .full []]), ((.loc 6 11), [.int .i64 a0.Channels, .sl 21 (.own (.row 7 8)) (x17.map (PV.int .i32))])]⟩,
            ⟨[(62, .agg [.int .i64 a0.Channels, .sl 21 (.own (.row 7 8)) (x17.map (PV.int .i32))]), (63, .int .i64 a1), (64, .int .i64 (iMin a1 y14)), (65, .int .i64 (w64 (a1 - (iMin a1 y14)))), (66, .agg [.int .i64 a0.Channels, .int .i64 a0.Capacity, .int .i64 a0.Written, .int .i64 (w64 (a0.Read + (iMin a1 y14))), .sl 21 (.own (.row 8 7)) (x19.map (PV.int .i32))]), (5, .int .i64 (w64 (a1 - (iMin a1 y14)))), (1, .int .i64 a1), (2, .ptr (.loc 0 0) 0), (4, .ptr (.loc 0 1) 0), (6, .ptr (.loc 0 3) 0), (8, .int .i64 (iMin a1 y14)), (9, .ptr (.loc 6 11) 0)], [], [((.loc 0 0), [.int .i64 a0.Channels, .int .i64 a0.Capacity, .int .i64 a0.Written, .int .i64 (w64 (a0.Read + (iMin a1 y14))), .sl 21 (.own (.row 8 7)) (x19.map (PV.int .i32))]), ((.loc 0 1), [.int .i64 a0.Channels, .sl 21 (.own (.row 7 8)) (x17.map (PV.int .i32))]), ((.loc 0 3), [.int .i64 0, .int .i64 0, .int .i64 0, .int .i64 0, .sl 21 .full []]), ((.loc 6 11), [.int .i64 a0.Channels, .sl 21 (.own (.row 7 8)) (x17.map (PV.int .i32))])]⟩,
            ⟨[(62, .agg [.int .i64 a0.Channels, .sl 21 (.own (.row 7 8)) (x17.map (PV.int .i32))]), (63, .int .i64 a1), (64, .int .i64 (iMin a1 y14)), (65, .int .i64 (w64 (a1 - (iMin a1 y14)))), (66, .agg [.int .i64 a0.Channels, .int .i64 a0.Capacity, .int .i64 a0.Written, .int .i64 (w64 (a0.Read + (iMin a1 y14))), .sl 21 (.own (.row 8 7)) (x19.map (PV.int .i32))]), (5, .int .i64 (w64 (a1 - (iMin a1 y14)))), (7, .int .i64 0), (1, .int .i64 a1), (2, .ptr (.loc 0 0) 0), (4, .ptr (.loc 0 1) 0), (6, .ptr (.loc 0 3) 0), (8, .int .i64 (iMin a1 y14)), (9, .ptr (.loc 6 11) 0)], [], [((.loc 0 0), [.int .i64 a0.Channels, .int .i64 a0.Capacity, .int .i64 a0.Written, .int .i64 (w64 (a0.Read + (iMin a1 y14))), .sl 21 (.own (.row 8 7)) (x19.map (PV.int .i32))]), ((.loc 0 1), [.int .i64 a0.Channels, .sl 21 (.own (.row 7 8)) (x17.map (PV.int .i32))]), ((.loc 0 3), [.int .i64 a0.Channels, .int .i64 a0.Capacity, .int .i64 a0.Written, .int .i64 (w64 (a0.Read + (iMin a1 y14))), .sl 21 (.own (.row 8 7)) (x19.map (PV.int .i32))]), ((.loc 6 11), [.int .i64 a0.Channels, .sl 21 (.own (.row 7 8)) (x17.map (PV.int .i32))])]⟩]
            [(1, .int .i64 a1), (2, .ptr (.loc 0 0) 0), (4, .ptr (.loc 0 1) 0), (6, .ptr (.loc 0 3) 0), (8, .int .i64 (iMin a1 y14)), (9, .ptr (.loc 6 11) 0)]
            (.cons [9] [] (fun _ _ h => .val (h _)) rfl rfl <|
            .cons [1] [] (fun _ _ h => .move (h _)) rfl rfl <|
            .cons [1] [] (fun _ _ h => .move (h _)) rfl rfl <|
            .cons [8] [] (fun _ _ h => .move (h _)) rfl rfl <|
            .cons [8] [] (fun _ _ h => .move (h _)) rfl rfl <|
            .cons [63, 64] [] (fun _ _ h => .val (h _)) rfl rfl <|
            .cons [63, 64] [] (fun _ _ h => .val (h _)) rfl rfl <|
            .cons [2] [] (fun _ _ h => .val (h _)) rfl rfl <|
            .cons [2] [] (fun _ _ h => .val (h _)) rfl rfl <|
            .cons [65] [] (fun _ _ h => .assign (h _)) rfl rfl <|
            .cons [] [] (fun _ _ h => .assign (h _)) rfl rfl <|
            .nil)
            (.cons (fun x => x) [4, 62] [] (fun _ _ h => .wrL (cs := [.int .i64 a0.Channels, .sl 21 (.own (.row 7 8)) (x17.map (PV.int .i32))]) (h _ _ (.cons rfl (.cons rfl (.cons rfl (.cons rfl (.nil))))))) rfl (.old rfl (.old rfl (.old rfl (.old rfl (.old rfl (.new rfl (.old rfl (.old rfl (.old rfl (.old rfl (.old rfl (.old rfl (.nil))))))))))))) rfl rfl <|
            .cons (fun x => x) [6, 66] [] (fun _ _ h => .wrL (cs := [.int .i64 a0.Channels, .int .i64 a0.Capacity, .int .i64 a0.Written, .int .i64 (w64 (a0.Read + (iMin a1 y14))), .sl 21 (.own (.row 8 7)) (x19.map (PV.int .i32))]) (h _ _ (.cons rfl (.cons rfl (.cons rfl (.cons rfl (.nil))))))) rfl (.old rfl (.old rfl (.old rfl (.old rfl (.old rfl (.old rfl (.new rfl (.old rfl (.old rfl (.old rfl (.old rfl (.old rfl (.old rfl (.nil)))))))))))))) rfl rfl <|
            .nil)
            (by kernel_rfl) rfl (.cons rfl (.cons rfl (.cons rfl (.cons rfl (.cons rfl (.cons rfl (.nil))))))) (.nil) (.cons rfl (.cons rfl (.cons rfl (.cons rfl (.nil))))) ?_
          cases h
          exact .ret (fin_gen0 none)

/- soundservice/soundservicelaw17.made -/
def f19_l1 (n : Nat) (j43 : Int → Int → Int → Int → (List Int) → (List Int) → Option (Ring × Dice)) : Nat → Int → Int → Int → Int → (List Int) → (List Int) → Int → Option (Ring × Dice)
  | 0, _, _, _, _, _, _, _ => none
  | m71 + 1, v51, v52, v53, v54, v55, v56, v57 =>
    if decide (v57 > (0 : Int)) then (
    (f26 n (⟨v56⟩ : Dice) (9 : Int)).bind fun y79 =>
    (f21 n v57 v51 (0 : Int) y79.1).bind fun y80 =>
    (f27 n (⟨v51, v52, v53, v54, v55⟩ : Ring) y80).bind fun y81 =>
    (f26 n (⟨y79.2.l⟩ : Dice) (6 : Int)).bind fun y82 =>
    (f28 n (⟨y81.1.Channels, y81.1.Capacity, y81.1.Written, y81.1.Read, y81.1.Data⟩ : Ring) y82.1).bind fun y83 =>
    f19_l1 n j43 m71 y83.2.2.1.Channels y83.2.2.1.Capacity y83.2.2.1.Written y83.2.2.1.Read y83.2.2.1.Data y82.2.l (w64 (v57 - (1 : Int))))
    else (
    j43 v51 v52 v53 v54 v55 v56)
def f19 (n : Nat) (a0 : Dice) : Option (Ring × Dice) :=
  (f26 n (⟨a0.l⟩ : Dice) (2 : Int)).bind fun y1 =>
  (f26 n (⟨y1.2.l⟩ : Dice) (12 : Int)).bind fun y2 =>
  (f34 n (w64 ((1 : Int) + y1.1)) (w64 ((1 : Int) + y2.1))).bind fun y3 =>
  joinK (fun (v37 : Int) (v38 : Int) (v39 : Int) (v40 : Int) (v41 : (List Int)) (v42 : (List Int)) =>
  some ((⟨v37, v38, v39, v40, v41⟩ : Ring), (⟨v42⟩ : Dice))) fun j43 =>
  (f26 n (⟨y2.2.l⟩ : Dice) (5 : Int)).bind fun y44 =>
  f19_l1 n j43 n y3.1.Channels y3.1.Capacity y3.1.Written y3.1.Read y3.1.Data y44.2.l y44.1
set_option maxHeartbeats 4000000 in
set_option maxRecDepth 100000 in
theorem g19 {n : Nat} {a0 : Dice} {r : (Ring × Dice)} (h : f19 n a0 = some r) :
    Ab.Can Try.prog 19 [.ptr (.par 0) 0] (lookH [(.par 0, [.sl 5 .ro (a0.l.map (PV.int .u8))])]) (.agg [.int .i64 r.1.Channels, .int .i64 r.1.Capacity, .int .i64 r.1.Written, .int .i64 r.1.Read, .sl 21 .ro (r.1.Data.map (PV.int .i32))]) (lookH [(.par 0, [.sl 5 .ro (r.2.l.map (PV.int .u8))])]) := by
  refine can_of tabOK mix Try.call19 Try.func19 rfl (by kernel_rfl) (by show _ ≤ 44; simp) fun _ => ?_
  rw [f19] at h
  refine .seq ?_
  refine .region ?_
  refine .allocL (cs := [.int .i64 0, .int .i64 0, .int .i64 0, .int .i64 0, .sl 21 .full []]) ?_
  refine .nil ?_
  refine .seq ?_
  refine .region ?_
  refine .move ?_
  obtain ⟨y1, hy1, h⟩ := bindE h
  refine .cH (.par 0) (g26 hy1) ?_
  refine .val ?_
  refine .move ?_
  obtain ⟨y2, hy2, h⟩ := bindE h
  refine .cH (.par 0) (g26 hy2) ?_
  refine .val ?_
  obtain ⟨y3, hy3, h⟩ := bindE h
  refine .cP (g34 hy3) ?_
  refine .move ?_
  refine .val ?_
  refine .val ?_
  refine .allocL (cs := [.int .i64 0, .int .i64 0, .int .i64 0, .int .i64 0, .sl 21 .full []]) ?_
  refine .wrL (cs := [.int .i64 y3.1.Channels, .int .i64 y3.1.Capacity, .int .i64 y3.1.Written, .int .i64 y3.1.Read, .sl 21 .ro (y3.1.Data.map (PV.int .i32))]) ?_
  refine .assign ?_
  refine .nil ?_
  obtain ⟨j43, hj43, h⟩ := joinE h
  refine .cutI (fun T => (∃ (v37 : Int) (v38 : Int) (v39 : Int) (v40 : Int) (v41 : (List Int)) (v42 : (List Int)), T = St.of [(2, .ptr (.loc 0 0) 0), (3, .ptr (.loc 1 10) 0)] [((.loc 0 0), [.int .i64 0, .int .i64 0, .int .i64 0, .int .i64 0, .sl 21 .full []]), ((.loc 1 10), [.int .i64 v37, .int .i64 v38, .int .i64 v39, .int .i64 v40, .sl 21 .ro (v41.map (PV.int .i32))]), ((.par 0), [.sl 5 .ro (v42.map (PV.int .u8))])] ∧ j43 v37 v38 v39 v40 v41 v42 = some r)) ?_ ?_
  · refine .seq ?_
    refine .region ?_
    refine .move ?_
    obtain ⟨y44, hy44, h⟩ := bindE h
    refine .cH (.par 0) (g26 hy44) ?_
    refine .assign ?_
    refine .nil ?_
    refine .block ?_
    refine .loopI (fun m T => ∃ (v51 : Int) (v52 : Int) (v53 : Int) (v54 : Int) (v55 : (List Int)) (v56 : (List Int)) (v57 : Int), T = St.of [(0, .ptr (.par 0) 0), (2, .ptr (.loc 0 0) 0), (3, .ptr (.loc 1 10) 0), (5, .int .i64 v57)] [((.loc 0 0), [.int .i64 0, .int .i64 0, .int .i64 0, .int .i64 0, .sl 21 .full []]), ((.loc 1 10), [.int .i64 v51, .int .i64 v52, .int .i64 v53, .int .i64 v54, .sl 21 .ro (v55.map (PV.int .i32))]), ((.par 0), [.sl 5 .ro (v56.map (PV.int .u8))])] ∧ f19_l1 n j43 m v51 v52 v53 v54 v55 v56 v57 = some r) _ _ ⟨_, _, _, _, _, _, _, rfl, h⟩ (imp_of (.cons rfl (.cons rfl (.cons rfl (.cons rfl (.nil))))) (.cons rfl (.cons rfl (.cons rfl (.nil))))) ?_
    rintro m71 T ⟨v51, v52, v53, v54, v55, v56, v57, rfl, h⟩
    obtain _ | m71 := m71
    · rw [f19_l1] at h; cases h
    rw [f19_l1] at h
    refine .seq ?_
    refine .seq ?_
    refine .region ?_
    refine .move ?_
    refine .val ?_
    refine .nil ?_
    refine .cond (fun hc73 => ?_) (fun hc73 => ?_)
    · replace h := (if_pos hc73).symm.trans h
      refine .skip ?_
      refine .seq ?_
      refine .block ?_
      refine .seq ?_
      obtain ⟨y79, hy79, h⟩ := bindE h
      obtain ⟨y80, hy80, h⟩ := bindE h
      obtain ⟨y81, hy81, h⟩ := bindE h
      refine .draw [5, 12] [[], [], [], [], [], [], [5], [5], [5], [5], [5], [5], [5]] [[12], [12], [12], [12], [5, 12], [12], [12], [12], [12], [12], [], [], []] [[], [5], [5, 12]]
        [(0, 0), (0, 1), (1, 0), (1, 1), (2, 0), (2, 1), (3, 0), (3, 1), (4, 0), (6, 1), (7, 1), (8, 1), (9, 1), (10, 1), (10, 2), (11, 1), (11, 2)] [(0, 5, 1), (1, 12, 2)] 2
        [⟨[(23, .agg [.int .i64 v51, .int .i64 v52, .int .i64 v53, .int .i64 v54, .sl 21 .ro (v55.map (PV.int .i32))]), (24, .int .i64 v57), (25, .ptr (.loc 1 10) 0), (26, .int .i64 v51), (27, .ptr (.par 0) 0), (0, .ptr (.par 0) 0), (2, .ptr (.loc 0 0) 0), (3, .ptr (.loc 1 10) 0), (5, .int .i64 v57)], [], [((.loc 0 0), [.int .i64 0, .int .i64 0, .int .i64 0, .int .i64 0, .sl 21 .full []]), ((.loc 1 10), [.int .i64 v51, .int .i64 v52, .int .i64 v53, .int .i64 v54, .sl 21 .ro (v55.map (PV.int .i32))]), ((.par 0), [.sl 5 .ro (v56.map (PV.int .u8))])]⟩,
        ⟨[(23, .agg [.int .i64 v51, .int .i64 v52, .int .i64 v53, .int .i64 v54, .sl 21 .ro (v55.map (PV.int .i32))]), (24, .int .i64 v57), (25, .ptr (.loc 1 10) 0), (26, .int .i64 v51), (27, .ptr (.par 0) 0), (28, .int .i64 y79.1), (29, .agg [.int .i64 y80.Channels, .sl 21 .ro (y80.Data.map (PV.int .i32))]), (30, .tup [.agg [.int .i64 y81.1.Channels, .int .i64 y81.1.Capacity, .int .i64 y81.1.Written, .int .i64 y81.1.Read, .sl 21 .ro (y81.1.Data.map (PV.int .i32))], .int .i64 y81.2.1, .int .i64 y81.2.2]), (22, .tup [.agg [.int .i64 y81.1.Channels, .int .i64 y81.1.Capacity, .int .i64 y81.1.Written, .int .i64 y81.1.Read, .sl 21 .ro (y81.1.Data.map (PV.int .i32))], .int .i64 y81.2.1, .int .i64 y81.2.2]), (31, .agg [.int .i64 y81.1.Channels, .int .i64 y81.1.Capacity, .int .i64 y81.1.Written, .int .i64 y81.1.Read, .sl 21 .ro (y81.1.Data.map (PV.int .i32))]), (32, .int .i64 y81.2.1), (33, .int .i64 y81.2.2), (0, .ptr (.par 0) 0), (2, .ptr (.loc 0 0) 0), (3, .ptr (.loc 1 10) 0), (5, .int .i64 v57)], [], [((.loc 0 0), [.int .i64 0, .int .i64 0, .int .i64 0, .int .i64 0, .sl 21 .full []]), ((.loc 1 10), [.int .i64 v51, .int .i64 v52, .int .i64 v53, .int .i64 v54, .sl 21 .ro (v55.map (PV.int .i32))]), ((.par 0), [.sl 5 .ro (y79.2.l.map (PV.int .u8))])]⟩,
        ⟨[(23, .agg [.int .i64 v51, .int .i64 v52, .int .i64 v53, .int .i64 v54, .sl 21 .ro (v55.map (PV.int .i32))]), (24, .int .i64 v57), (25, .ptr (.loc 1 10) 0), (26, .int .i64 v51), (27, .ptr (.par 0) 0), (28, .int .i64 y79.1), (29, .agg [.int .i64 y80.Channels, .sl 21 .ro (y80.Data.map (PV.int .i32))]), (30, .tup [.agg [.int .i64 y81.1.Channels, .int .i64 y81.1.Capacity, .int .i64 y81.1.Written, .int .i64 y81.1.Read, .sl 21 .ro (y81.1.Data.map (PV.int .i32))], .int .i64 y81.2.1, .int .i64 y81.2.2]), (22, .tup [.agg [.int .i64 y81.1.Channels, .int .i64 y81.1.Capacity, .int .i64 y81.1.Written, .int .i64 y81.1.Read, .sl 21 .ro (y81.1.Data.map (PV.int .i32))], .int .i64 y81.2.1, .int .i64 y81.2.2]), (31, .agg [.int .i64 y81.1.Channels, .int .i64 y81.1.Capacity, .int .i64 y81.1.Written, .int .i64 y81.1.Read, .sl 21 .ro (y81.1.Data.map (PV.int .i32))]), (32, .int .i64 y81.2.1), (33, .int .i64 y81.2.2), (0, .ptr (.par 0) 0), (2, .ptr (.loc 0 0) 0), (3, .ptr (.loc 1 10) 0), (5, .int .i64 v57)], [], [((.loc 0 0), [.int .i64 0, .int .i64 0, .int .i64 0, .int .i64 0, .sl 21 .full []]), ((.loc 1 10), [.int .i64 y81.1.Channels, .int .i64 y81.1.Capacity, .int .i64 y81.1.Written, .int .i64 y81.1.Read, .sl 21 .ro (y81.1.Data.map (PV.int .i32))]), ((.par 0), [.sl 5 .ro (y79.2.l.map (PV.int .u8))])]⟩]
        [(0, .ptr (.par 0) 0), (2, .ptr (.loc 0 0) 0), (3, .ptr (.loc 1 10) 0), (5, .int .i64 v57)]
        (.cons [3] [] (fun _ _ h => .val (h _)) rfl rfl <|
        .cons [3] [] (fun _ _ h => .val (h _)) rfl rfl <|
        .cons [5] [] (fun _ _ h => .move (h _)) rfl rfl <|
        .cons [5] [] (fun _ _ h => .move (h _)) rfl rfl <|
        .cons [3] [] (fun _ _ h => .val (h _)) rfl rfl <|
        .cons [3] [] (fun _ _ h => .val (h _)) rfl rfl <|
        .cons [25] [] (fun _ _ h => .val (h _)) rfl rfl <|
        .cons [25] [] (fun _ _ h => .val (h _)) rfl rfl <|
        .cons [0] [] (fun _ _ h => .move (h _)) rfl rfl <|
        .cons [24, 26, 28] [] (fun _ _ h => .cP (g21 hy80) (h _)) rfl rfl <|
        .cons [23, 29] [] (fun _ _ h => .cP (g27 hy81) (h _)) rfl rfl <|
        .cons [30] [] (fun _ _ h => .move (h _)) rfl rfl <|
        .cons [22] [] (fun _ _ h => .val (h _)) rfl rfl <|
        .cons [22] [] (fun _ _ h => .val (h _)) rfl rfl <|
        .cons [22] [] (fun _ _ h => .val (h _)) rfl rfl <|
        .cons [22] [] (fun _ _ h => .val (h _)) rfl rfl <|
        .cons [22] [] (fun _ _ h => .val (h _)) rfl rfl <|
        .nil)
        (.cons (fun x => x) [27] [] (fun _ _ h => .cH (.par 0) (g26 hy79) (h _ _ (.cons rfl (.cons rfl (.cons rfl (.nil)))))) rfl (.old rfl (.old rfl (.old rfl (.old rfl (.old rfl (.new rfl (.new rfl (.new rfl (.new rfl (.new rfl (.new rfl (.new rfl (.old rfl (.old rfl (.old rfl (.old rfl (.nil))))))))))))))))) rfl rfl <|
        .cons (fun x => x) [3, 31] [] (fun _ _ h => .wrL (cs := [.int .i64 y81.1.Channels, .int .i64 y81.1.Capacity, .int .i64 y81.1.Written, .int .i64 y81.1.Read, .sl 21 .ro (y81.1.Data.map (PV.int .i32))]) (h _ _ (.cons rfl (.cons rfl (.cons rfl (.nil)))))) rfl (.old rfl (.old rfl (.old rfl (.old rfl (.old rfl (.old rfl (.old rfl (.old rfl (.old rfl (.old rfl (.old rfl (.old rfl (.old rfl (.old rfl (.old rfl (.old rfl (.nil))))))))))))))))) rfl rfl <|
        .nil)
        (by kernel_rfl) rfl (.cons rfl (.cons rfl (.cons rfl (.cons rfl (.nil))))) (.nil) (.cons rfl (.cons rfl (.cons rfl (.nil)))) ?_
      refine .imp (T := St.of [(0, .ptr (.par 0) 0), (2, .ptr (.loc 0 0) 0), (3, .ptr (.loc 1 10) 0), (5, .int .i64 v57)] [((.loc 0 0), [.int .i64 0, .int .i64 0, .int .i64 0, .int .i64 0, .sl 21 .full []]), ((.loc 1 10), [.int .i64 y81.1.Channels, .int .i64 y81.1.Capacity, .int .i64 y81.1.Written, .int .i64 y81.1.Read, .sl 21 .ro (y81.1.Data.map (PV.int .i32))]), ((.par 0), [.sl 5 .ro (y79.2.l.map (PV.int .u8))])]) (imp_of (.cons rfl (.cons rfl (.cons rfl (.cons rfl (.nil))))) (.cons rfl (.cons rfl (.cons rfl (.nil))))) ?_
      obtain ⟨y82, hy82, h⟩ := bindE h
      obtain ⟨y83, hy83, h⟩ := bindE h
      refine .draw [2, 9] [[], [], [], [2], [2], [2], [2], [2], [2], [2]] [[9], [2, 9], [9], [9], [9], [9], [9], [9], [], []] [[], [2], [2, 9]]
        [(0, 0), (0, 1), (1, 0), (3, 1), (4, 1), (5, 1), (6, 1), (7, 1), (8, 1), (8, 2)] [(0, 2, 1), (1, 9, 2)] 2
        [⟨[(35, .agg [.int .i64 y81.1.Channels, .int .i64 y81.1.Capacity, .int .i64 y81.1.Written, .int .i64 y81.1.Read, .sl 21 .ro (y81.1.Data.map (PV.int .i32))]), (36, .ptr (.par 0) 0), (0, .ptr (.par 0) 0), (2, .ptr (.loc 0 0) 0), (3, .ptr (.loc 1 10) 0), (5, .int .i64 v57)], [], [((.loc 0 0), [.int .i64 0, .int .i64 0, .int .i64 0, .int .i64 0, .sl 21 .full []]), ((.loc 1 10), [.int .i64 y81.1.Channels, .int .i64 y81.1.Capacity, .int .i64 y81.1.Written, .int .i64 y81.1.Read, .sl 21 .ro (y81.1.Data.map (PV.int .i32))]), ((.par 0), [.sl 5 .ro (y79.2.l.map (PV.int .u8))])]⟩,
        ⟨[(35, .agg [.int .i64 y81.1.Channels, .int .i64 y81.1.Capacity, .int .i64 y81.1.Written, .int .i64 y81.1.Read, .sl 21 .ro (y81.1.Data.map (PV.int .i32))]), (36, .ptr (.par 0) 0), (37, .int .i64 y82.1), (38, .tup [.agg [.int .i64 y83.1.Channels, .sl 21 .ro (y83.1.Data.map (PV.int .i32))], .int .i64 y83.2.1, .agg [.int .i64 y83.2.2.1.Channels, .int .i64 y83.2.2.1.Capacity, .int .i64 y83.2.2.1.Written, .int .i64 y83.2.2.1.Read, .sl 21 .ro (y83.2.2.1.Data.map (PV.int .i32))], .int .i64 y83.2.2.2]), (34, .tup [.agg [.int .i64 y83.1.Channels, .sl 21 .ro (y83.1.Data.map (PV.int .i32))], .int .i64 y83.2.1, .agg [.int .i64 y83.2.2.1.Channels, .int .i64 y83.2.2.1.Capacity, .int .i64 y83.2.2.1.Written, .int .i64 y83.2.2.1.Read, .sl 21 .ro (y83.2.2.1.Data.map (PV.int .i32))], .int .i64 y83.2.2.2]), (39, .agg [.int .i64 y83.1.Channels, .sl 21 .ro (y83.1.Data.map (PV.int .i32))]), (40, .int .i64 y83.2.1), (41, .agg [.int .i64 y83.2.2.1.Channels, .int .i64 y83.2.2.1.Capacity, .int .i64 y83.2.2.1.Written, .int .i64 y83.2.2.1.Read, .sl 21 .ro (y83.2.2.1.Data.map (PV.int .i32))]), (42, .int .i64 y83.2.2.2), (0, .ptr (.par 0) 0), (2, .ptr (.loc 0 0) 0), (3, .ptr (.loc 1 10) 0), (5, .int .i64 v57)], [], [((.loc 0 0), [.int .i64 0, .int .i64 0, .int .i64 0, .int .i64 0, .sl 21 .full []]), ((.loc 1 10), [.int .i64 y81.1.Channels, .int .i64 y81.1.Capacity, .int .i64 y81.1.Written, .int .i64 y81.1.Read, .sl 21 .ro (y81.1.Data.map (PV.int .i32))]), ((.par 0), [.sl 5 .ro (y82.2.l.map (PV.int .u8))])]⟩,
        ⟨[(35, .agg [.int .i64 y81.1.Channels, .int .i64 y81.1.Capacity, .int .i64 y81.1.Written, .int .i64 y81.1.Read, .sl 21 .ro (y81.1.Data.map (PV.int .i32))]), (36, .ptr (.par 0) 0), (37, .int .i64 y82.1), (38, .tup [.agg [.int .i64 y83.1.Channels, .sl 21 .ro (y83.1.Data.map (PV.int .i32))], .int .i64 y83.2.1, .agg [.int .i64 y83.2.2.1.Channels, .int .i64 y83.2.2.1.Capacity, .int .i64 y83.2.2.1.Written, .int .i64 y83.2.2.1.Read, .sl 21 .ro (y83.2.2.1.Data.map (PV.int .i32))], .int .i64 y83.2.2.2]), (34, .tup [.agg [.int .i64 y83.1.Channels, .sl 21 .ro (y83.1.Data.map (PV.int .i32))], .int .i64 y83.2.1, .agg [.int .i64 y83.2.2.1.Channels, .int .i64 y83.2.2.1.Capacity, .int .i64 y83.2.2.1.Written, .int .i64 y83.2.2.1.Read, .sl 21 .ro (y83.2.2.1.Data.map (PV.int .i32))], .int .i64 y83.2.2.2]), (39, .agg [.int .i64 y83.1.Channels, .sl 21 .ro (y83.1.Data.map (PV.int .i32))]), (40, .int .i64 y83.2.1), (41, .agg [.int .i64 y83.2.2.1.Channels, .int .i64 y83.2.2.1.Capacity, .int .i64 y83.2.2.1.Written, .int .i64 y83.2.2.1.Read, .sl 21 .ro (y83.2.2.1.Data.map (PV.int .i32))]), (42, .int .i64 y83.2.2.2), (0, .ptr (.par 0) 0), (2, .ptr (.loc 0 0) 0), (3, .ptr (.loc 1 10) 0), (5, .int .i64 v57)], [], [((.loc 0 0), [.int .i64 0, .int .i64 0, .int .i64 0, .int .i64 0, .sl 21 .full []]), ((.loc 1 10), [.int .i64 y83.2.2.1.Channels, .int .i64 y83.2.2.1.Capacity, .int .i64 y83.2.2.1.Written, .int .i64 y83.2.2.1.Read, .sl 21 .ro (y83.2.2.1.Data.map (PV.int .i32))]), ((.par 0), [.sl 5 .ro (y82.2.l.map (PV.int .u8))])]⟩]
        [(0, .ptr (.par 0) 0), (2, .ptr (.loc 0 0) 0), (3, .ptr (.loc 1 10) 0), (5, .int .i64 v57)]
        (.cons [3] [] (fun _ _ h => .val (h _)) rfl rfl <|
        .cons [3] [] (fun _ _ h => .val (h _)) rfl rfl <|
        .cons [0] [] (fun _ _ h => .move (h _)) rfl rfl <|
        .cons [35, 37] [] (fun _ _ h => .cP (g28 hy83) (h _)) rfl rfl <|
        .cons [38] [] (fun _ _ h => .move (h _)) rfl rfl <|
        .cons [34] [] (fun _ _ h => .val (h _)) rfl rfl <|
        .cons [34] [] (fun _ _ h => .val (h _)) rfl rfl <|
        .cons [34] [] (fun _ _ h => .val (h _)) rfl rfl <|
        .cons [34] [] (fun _ _ h => .val (h _)) rfl rfl <|
        .cons [34] [] (fun _ _ h => .val (h _)) rfl rfl <|
        .nil)
        (.cons (fun x => x) [36] [] (fun _ _ h => .cH (.par 0) (g26 hy82) (h _ _ (.cons rfl (.cons rfl (.cons rfl (.nil)))))) rfl (.old rfl (.old rfl (.new rfl (.new rfl (.new rfl (.new rfl (.new rfl (.new rfl (.new rfl (.old rfl (.old rfl (.old rfl (.old rfl (.nil)))))))))))))) rfl rfl <|
        .cons (fun x => x) [3, 41] [] (fun _ _ h => .wrL (cs := [.int .i64 y83.2.2.1.Channels, .int .i64 y83.2.2.1.Capacity, .int .i64 y83.2.2.1.Written, .int .i64 y83.2.2.1.Read, .sl 21 .ro (y83.2.2.1.Data.map (PV.int .i32))]) (h _ _ (.cons rfl (.cons rfl (.cons rfl (.nil)))))) rfl (.old rfl (.old rfl (.old rfl (.old rfl (.old rfl (.old rfl (.old rfl (.old rfl (.old rfl (.old rfl (.old rfl (.old rfl (.old rfl (.nil)))))))))))))) rfl rfl <|
        .nil)
        (by kernel_rfl) rfl (.cons rfl (.cons rfl (.cons rfl (.cons rfl (.nil))))) (.nil) (.cons rfl (.cons rfl (.cons rfl (.nil)))) ?_
      refine .imp (T := St.of [(0, .ptr (.par 0) 0), (2, .ptr (.loc 0 0) 0), (3, .ptr (.loc 1 10) 0), (5, .int .i64 v57)] [((.loc 0 0), [.int .i64 0, .int .i64 0, .int .i64 0, .int .i64 0, .sl 21 .full []]), ((.loc 1 10), [.int .i64 y83.2.2.1.Channels, .int .i64 y83.2.2.1.Capacity, .int .i64 y83.2.2.1.Written, .int .i64 y83.2.2.1.Read, .sl 21 .ro (y83.2.2.1.Data.map (PV.int .i32))]), ((.par 0), [.sl 5 .ro (y82.2.l.map (PV.int .u8))])]) (imp_of (.cons rfl (.cons rfl (.cons rfl (.cons rfl (.nil))))) (.cons rfl (.cons rfl (.cons rfl (.nil))))) ?_
      refine .region ?_
      refine .move ?_
      refine .val ?_
      refine .assign ?_
      refine .nil ?_
      exact ⟨m71, _, Nat.lt_succ_self m71, ⟨_, _, _, _, _, _, _, rfl, h⟩, (imp_of (.cons rfl (.cons rfl (.cons rfl (.cons rfl (.nil))))) (.cons rfl (.cons rfl (.cons rfl (.nil)))))⟩
    · replace h := (if_neg (nt hc73)).symm.trans h
      refine .exit (.hit ?_)
      exact ⟨_, ⟨_, _, _, _, _, _, rfl, h⟩, (imp_of (.cons rfl (.cons rfl (.nil))) (.cons rfl (.cons rfl (.cons rfl (.nil)))))⟩
  · rintro T ⟨v37, v38, v39, v40, v41, v42, rfl, h⟩
    subst hj43
    refine .seq ?_
    refine .region ?_
    refine .val (v := .agg [.int .i64 v37, .int .i64 v38, .int .i64 v39, .int .i64 v40, .sl 21 .ro (v41.map (PV.int .i32))]) ?_
    refine .wrL (cs := [.int .i64 v37, .int .i64 v38, .int .i64 v39, .int .i64 v40, .sl 21 .ro (v41.map (PV.int .i32))]) ?_
    refine .nil ?_
    cases h
    exact .ret (fin_gen none (.par .nil))

/- soundservice/soundserviceref17.Same -/
def f23 (n : Nat) (a0 : Ring) (a1 : Ring) : Option Bool :=
  if (a0.Channels == a1.Channels) then (
  if (a0.Capacity == a1.Capacity) then (
  if (a0.Written == a1.Written) then (
  if (a0.Read == a1.Read) then (
  (f73 n a0.Data a1.Data).bind fun y10 =>
  some y10)
  else (
  some false))
  else (
  some false))
  else (
  some false))
  else (
  some false)
set_option maxHeartbeats 4000000 in
set_option maxRecDepth 100000 in
theorem g23 {n : Nat} {a0 : Ring} {a1 : Ring} {r : Bool} (h : f23 n a0 a1 = some r) :
    Ab.Can Try.prog 23 [.agg [.int .i64 a0.Channels, .int .i64 a0.Capacity, .int .i64 a0.Written, .int .i64 a0.Read, .sl 21 .ro (a0.Data.map (PV.int .i32))], .agg [.int .i64 a1.Channels, .int .i64 a1.Capacity, .int .i64 a1.Written, .int .i64 a1.Read, .sl 21 .ro (a1.Data.map (PV.int .i32))]] H0 (.bool r) H0 := by
  refine can_of tabOK mix Try.call23 Try.func23 rfl (by kernel_rfl) (by show _ ≤ 38; simp) fun _ => ?_
  rw [f23] at h
  refine .seq ?_
  refine .region ?_
  refine .boxL (cs := [.int .i64 a0.Channels, .int .i64 a0.Capacity, .int .i64 a0.Written, .int .i64 a0.Read, .sl 21 .ro (a0.Data.map (PV.int .i32))]) ?_
  refine .boxL (cs := [.int .i64 a1.Channels, .int .i64 a1.Capacity, .int .i64 a1.Written, .int .i64 a1.Read, .sl 21 .ro (a1.Data.map (PV.int .i32))]) ?_
  refine .assign ?_
  refine .nil ?_
  refine .seq ?_
  refine .region ?_
  refine .val ?_
  refine .val ?_
  refine .val ?_
  refine .val ?_
  refine .val ?_
  refine .move ?_
  refine .caseG (fun hc6 => ?_) (fun hc6 => ?_)
  · replace h := (if_pos hc6).symm.trans h
    refine .val ?_
    refine .val ?_
    refine .val ?_
    refine .val ?_
    refine .val ?_
    refine .brT ?_
    refine .move ?_
    refine .caseG (fun hc7 => ?_) (fun hc7 => ?_)
    · replace h := (if_pos hc7).symm.trans h
      refine .val ?_
      refine .val ?_
      refine .val ?_
      refine .val ?_
      refine .val ?_
      refine .brT ?_
      refine .move ?_
      refine .caseG (fun hc8 => ?_) (fun hc8 => ?_)
      · replace h := (if_pos hc8).symm.trans h
        refine .val ?_
        refine .val ?_
        refine .val ?_
        refine .val ?_
        refine .val ?_
        refine .brT ?_
        refine .move ?_
        refine .caseG (fun hc9 => ?_) (fun hc9 => ?_)
        · replace h := (if_pos hc9).symm.trans h
          refine .val ?_
          refine .val ?_
          refine .val ?_
          refine .val ?_
          obtain ⟨y10, hy10, h⟩ := bindE h
          refine .cP (g73 hy10) ?_
          refine .brT ?_
          refine .assign ?_
          refine .nil ?_
          cases h
          exact .ret (fin_gen0 none)
        · replace h := (if_neg (nt hc9)).symm.trans h
          refine .skip ?_
          refine .skip ?_
          refine .skip ?_
          refine .skip ?_
          refine .skip ?_
          refine .brF ?_
          refine .assign ?_
          refine .nil ?_
          cases h
          exact .ret (fin_gen0 none)
      · replace h := (if_neg (nt hc8)).symm.trans h
        refine .skip ?_
        refine .skip ?_
        refine .skip ?_
        refine .skip ?_
        refine .skip ?_
        refine .brF ?_
        refine .move ?_
        refine .skip ?_
        refine .skip ?_
        refine .skip ?_
        refine .skip ?_
        refine .skip ?_
        refine .brF ?_
        refine .assign ?_
        refine .nil ?_
        cases h
        exact .ret (fin_gen0 none)
    · replace h := (if_neg (nt hc7)).symm.trans h
      refine .skip ?_
      refine .skip ?_
      refine .skip ?_
      refine .skip ?_
      refine .skip ?_
      refine .brF ?_
      refine .move ?_
      refine .skip ?_
      refine .skip ?_
      refine .skip ?_
      refine .skip ?_
      refine .skip ?_
      refine .brF ?_
      refine .move ?_
      refine .skip ?_
      refine .skip ?_
      refine .skip ?_
      refine .skip ?_
      refine .skip ?_
      refine .brF ?_
      refine .assign ?_
      refine .nil ?_
      cases h
      exact .ret (fin_gen0 none)
  · replace h := (if_neg (nt hc6)).symm.trans h
    refine .skip ?_
    refine .skip ?_
    refine .skip ?_
    refine .skip ?_
    refine .skip ?_
    refine .brF ?_
    refine .move ?_
    refine .skip ?_
    refine .skip ?_
    refine .skip ?_
    refine .skip ?_
    refine .skip ?_
    refine .brF ?_
    refine .move ?_
    refine .skip ?_
    refine .skip ?_
    refine .skip ?_
    refine .skip ?_
    refine .skip ?_
    refine .brF ?_
    refine .move ?_
    refine .skip ?_
    refine .skip ?_
    refine .skip ?_
    refine .skip ?_
    refine .skip ?_
    refine .brF ?_
    refine .assign ?_
    refine .nil ?_
    cases h
    exact .ret (fin_gen0 none)

/- soundservice/ring.Clear -/
def f29 (n : Nat) (a0 : Ring) : Option (Ring × Int) :=
  (f31 n (⟨a0.Channels, a0.Capacity, a0.Written, a0.Read, a0.Data⟩ : Ring)).bind fun y3 =>
  if !y3 then (
  some ((⟨0, 0, 0, 0, ([] : List Int)⟩ : Ring), 1))
  else (
  some ((⟨a0.Channels, a0.Capacity, a0.Written, a0.Written, ([] : List Int)⟩ : Ring), 0))
set_option maxHeartbeats 4000000 in
set_option maxRecDepth 100000 in
theorem g29 {n : Nat} {a0 : Ring} {r : (Ring × Int)} (h : f29 n a0 = some r) :
    Ab.Can Try.prog 29 [.agg [.int .i64 a0.Channels, .int .i64 a0.Capacity, .int .i64 a0.Written, .int .i64 a0.Read, .sl 21 .ro (a0.Data.map (PV.int .i32))]] H0 (.tup [.agg [.int .i64 r.1.Channels, .int .i64 r.1.Capacity, .int .i64 r.1.Written, .int .i64 r.1.Read, .sl 21 .ro (r.1.Data.map (PV.int .i32))], .int .i64 r.2]) H0 := by
  refine can_of tabOK mix Try.call29 Try.func29 rfl (by kernel_rfl) (by show _ ≤ 13; simp) fun _ => ?_
  rw [f29] at h
  refine .seq ?_
  refine .region ?_
  refine .boxL (cs := [.int .i64 a0.Channels, .int .i64 a0.Capacity, .int .i64 a0.Written, .int .i64 a0.Read, .sl 21 .ro (a0.Data.map (PV.int .i32))]) ?_
  refine .allocL (cs := [.int .i64 0, .int .i64 0, .int .i64 0, .int .i64 0, .sl 21 .full []]) ?_
  refine .assign ?_
  refine .nil ?_
  refine .seq ?_
  refine .seq ?_
  refine .region ?_
  refine .val (v := .agg [.int .i64 a0.Channels, .int .i64 a0.Capacity, .int .i64 a0.Written, .int .i64 a0.Read, .sl 21 .ro (a0.Data.map (PV.int .i32))]) ?_
  obtain ⟨y3, hy3, h⟩ := bindE h
  refine .cP (g31 hy3) ?_
  refine .val ?_
  refine .nil ?_
  refine .cond (fun hc4 => ?_) (fun hc4 => ?_)
  · replace h := (if_pos hc4).symm.trans h
    refine .seq ?_
    refine .region ?_
    refine .buildL (cs := [.int .i64 0, .int .i64 0, .int .i64 0, .int .i64 0, .sl 21 .full []]) ?_
    refine .wrL (cs := [.int .i64 0, .int .i64 0, .int .i64 0, .int .i64 0, .sl 21 .full []]) ?_
    refine .assign ?_
    refine .nil ?_
    cases h
    refine .imp (Imp.cell (.loc 0 1) (ds := [.int .i64 0, .int .i64 0, .int .i64 0, .int .i64 0, .sl 21 .ro (([] : List Int).map (PV.int .i32))]) (.cons (.refl _) rfl (.cons (.refl _) rfl (.cons (.refl _) rfl (.cons (.refl _) rfl (.cons (.ro _ _) rfl (.nil)))))) rfl) ?_
    exact .ret (fin_gen0 none)
  · replace h := (if_neg (nt hc4)).symm.trans h
    refine .skip ?_
    refine .seq ?_
    refine .region ?_
    refine .val ?_
    refine .val ?_
    refine .val ?_
    refine .wrL (cs := [.int .i64 a0.Channels, .int .i64 a0.Capacity, .int .i64 a0.Written, .int .i64 a0.Written, .sl 21 .ro (a0.Data.map (PV.int .i32))]) ?_
    refine .val ?_
    refine .wrL (cs := [.int .i64 a0.Channels, .int .i64 a0.Capacity, .int .i64 a0.Written, .int .i64 a0.Written, .sl 21 .full []]) ?_
    refine .nil ?_
    refine .seq ?_
    refine .region ?_
    refine .val (v := .agg [.int .i64 a0.Channels, .int .i64 a0.Capacity, .int .i64 a0.Written, .int .i64 a0.Written, .sl 21 .full []]) ?_
    refine .wrL (cs := [.int .i64 a0.Channels, .int .i64 a0.Capacity, .int .i64 a0.Written, .int .i64 a0.Written, .sl 21 .full []]) ?_
    refine .assign ?_
    refine .nil ?_
    cases h
    refine .imp (Imp.cell (.loc 0 1) (ds := [.int .i64 a0.Channels, .int .i64 a0.Capacity, .int .i64 a0.Written, .int .i64 a0.Written, .sl 21 .ro (([] : List Int).map (PV.int .i32))]) (.cons (.refl _) rfl (.cons (.refl _) rfl (.cons (.refl _) rfl (.cons (.refl _) rfl (.cons (.ro _ _) rfl (.nil)))))) rfl) ?_
    exact .ret (fin_gen0 none)

/- soundservice/soundserviceref17.Clear -/
def f30 (n : Nat) (a0 : Ring) : Option (Ring × Int) :=
  (f32 n (⟨a0.Channels, a0.Capacity, a0.Written, a0.Read, a0.Data⟩ : Ring)).bind fun y3 =>
  if !y3 then (
  some ((⟨0, 0, 0, 0, ([] : List Int)⟩ : Ring), 1))
  else (
  some ((⟨a0.Channels, a0.Capacity, a0.Written, a0.Written, ([] : List Int)⟩ : Ring), 0))
set_option maxHeartbeats 4000000 in
set_option maxRecDepth 100000 in
theorem g30 {n : Nat} {a0 : Ring} {r : (Ring × Int)} (h : f30 n a0 = some r) :
    Ab.Can Try.prog 30 [.agg [.int .i64 a0.Channels, .int .i64 a0.Capacity, .int .i64 a0.Written, .int .i64 a0.Read, .sl 21 .ro (a0.Data.map (PV.int .i32))]] H0 (.tup [.agg [.int .i64 r.1.Channels, .int .i64 r.1.Capacity, .int .i64 r.1.Written, .int .i64 r.1.Read, .sl 21 .ro (r.1.Data.map (PV.int .i32))], .int .i64 r.2]) H0 := by
  refine can_of tabOK mix Try.call30 Try.func30 rfl (by kernel_rfl) (by show _ ≤ 13; simp) fun _ => ?_
  rw [f30] at h
  refine .seq ?_
  refine .region ?_
  refine .boxL (cs := [.int .i64 a0.Channels, .int .i64 a0.Capacity, .int .i64 a0.Written, .int .i64 a0.Read, .sl 21 .ro (a0.Data.map (PV.int .i32))]) ?_
  refine .allocL (cs := [.int .i64 0, .int .i64 0, .int .i64 0, .int .i64 0, .sl 21 .full []]) ?_
  refine .assign ?_
  refine .nil ?_
  refine .seq ?_
  refine .seq ?_
  refine .region ?_
  refine .val (v := .agg [.int .i64 a0.Channels, .int .i64 a0.Capacity, .int .i64 a0.Written, .int .i64 a0.Read, .sl 21 .ro (a0.Data.map (PV.int .i32))]) ?_
  obtain ⟨y3, hy3, h⟩ := bindE h
  refine .cP (g32 hy3) ?_
  refine .val ?_
  refine .nil ?_
  refine .cond (fun hc4 => ?_) (fun hc4 => ?_)
  · replace h := (if_pos hc4).symm.trans h
    refine .seq ?_
    refine .region ?_
    refine .buildL (cs := [.int .i64 0, .int .i64 0, .int .i64 0, .int .i64 0, .sl 21 .full []]) ?_
    refine .wrL (cs := [.int .i64 0, .int .i64 0, .int .i64 0, .int .i64 0, .sl 21 .full []]) ?_
    refine .assign ?_
    refine .nil ?_
    cases h
    refine .imp (Imp.cell (.loc 0 1) (ds := [.int .i64 0, .int .i64 0, .int .i64 0, .int .i64 0, .sl 21 .ro (([] : List Int).map (PV.int .i32))]) (.cons (.refl _) rfl (.cons (.refl _) rfl (.cons (.refl _) rfl (.cons (.refl _) rfl (.cons (.ro _ _) rfl (.nil)))))) rfl) ?_
    exact .ret (fin_gen0 none)
  · replace h := (if_neg (nt hc4)).symm.trans h
    refine .skip ?_
    refine .seq ?_
    refine .region ?_
    refine .val ?_
    refine .val ?_
    refine .val ?_
    refine .wrL (cs := [.int .i64 a0.Channels, .int .i64 a0.Capacity, .int .i64 a0.Written, .int .i64 a0.Written, .sl 21 .ro (a0.Data.map (PV.int .i32))]) ?_
    refine .val ?_
    refine .wrL (cs := [.int .i64 a0.Channels, .int .i64 a0.Capacity, .int .i64 a0.Written, .int .i64 a0.Written, .sl 21 .full []]) ?_
    refine .nil ?_
    refine .seq ?_
    refine .region ?_
    refine .val (v := .agg [.int .i64 a0.Channels, .int .i64 a0.Capacity, .int .i64 a0.Written, .int .i64 a0.Written, .sl 21 .full []]) ?_
    refine .wrL (cs := [.int .i64 a0.Channels, .int .i64 a0.Capacity, .int .i64 a0.Written, .int .i64 a0.Written, .sl 21 .full []]) ?_
    refine .assign ?_
    refine .nil ?_
    cases h
    refine .imp (Imp.cell (.loc 0 1) (ds := [.int .i64 a0.Channels, .int .i64 a0.Capacity, .int .i64 a0.Written, .int .i64 a0.Written, .sl 21 .ro (([] : List Int).map (PV.int .i32))]) (.cons (.refl _) rfl (.cons (.refl _) rfl (.cons (.refl _) rfl (.cons (.refl _) rfl (.cons (.ro _ _) rfl (.nil)))))) rfl) ?_
    exact .ret (fin_gen0 none)
end Go.Proofs.Ytacdknbakjbpiaa
