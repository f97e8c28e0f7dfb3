/-
  Plain functions of soundservicemill, and that the code does what they say.
-/
import Derived.Test.YtacdknbakjbpiaaTy
namespace Go.Proofs.Ytacdknbakjbpiaa
open Go Ab
/- soundservice/soundservicemill.Mod -/
def f39 (_n : Nat) (a0 : Int) (a1 : Int) : Option Int :=
  (iRem a0 a1).bind fun x1 =>
  joinK (fun (v3 : Int) =>
  some v3) fun j4 =>
  if decide (x1 < (0 : Int)) then (
  j4 (w64 (x1 + a1)))
  else (
  j4 x1)
set_option maxHeartbeats 4000000 in
set_option maxRecDepth 100000 in
theorem g39 {n : Nat} {a0 : Int} {a1 : Int} {r : Int} (h : f39 n a0 a1 = some r) :
    Ab.Can Try.prog 39 [.int .i64 a0, .int .i64 a1] H0 (.int .i64 r) H0 := by
  refine can_of tabOK mix Try.call39 Try.func39 rfl (by kernel_rfl) (by show _ ≤ 15; simp) fun _ => ?_
  rw [f39] at h
  refine .seq ?_
  refine .region ?_
  refine .assign ?_
  refine .nil ?_
  refine .seq ?_
  refine .region ?_
  refine .move ?_
  refine .move ?_
  obtain ⟨x1, hx1, h⟩ := bindE h
  refine .remL hx1 ?_
  refine .assign ?_
  refine .nil ?_
  obtain ⟨j4, hj4, h⟩ := joinE h
  refine .cutI (fun T => (∃ (v3 : Int), T = St.of [(5, .int .i64 v3)] [] ∧ j4 v3 = some r)) ?_ ?_
  · refine .seq ?_
    refine .region ?_
    refine .move ?_
    refine .val ?_
    refine .nil ?_
    refine .cond (fun hc5 => ?_) (fun hc5 => ?_)
    · replace h := (if_pos hc5).symm.trans h
      refine .region ?_
      refine .move ?_
      refine .move ?_
      refine .val ?_
      refine .assign ?_
      refine .nil ?_
      exact ⟨_, ⟨_, rfl, h⟩, (imp_of (.cons rfl (.nil)) (.nil))⟩
    · replace h := (if_neg (nt hc5)).symm.trans h
      refine .skip ?_
      exact ⟨_, ⟨_, rfl, h⟩, (imp_of (.cons rfl (.nil)) (.nil))⟩
  · rintro T ⟨v3, rfl, h⟩
    subst hj4
    refine .seq ?_
    refine .region ?_
    refine .move ?_
    refine .assign ?_
    refine .nil ?_
    cases h
    exact .ret (fin_gen0 none)

/- soundservice/soundservicemill.New -/
def f42 (_n : Nat) (a0 : (List Int)) : Option Deck :=
  some (⟨a0, 0⟩ : Deck)
set_option maxHeartbeats 4000000 in
set_option maxRecDepth 100000 in
theorem g42 {n : Nat} {a0 : (List Int)} {r : Deck} (h : f42 n a0 = some r) :
    Ab.Can Try.prog 42 [.sl 3 .ro (a0.map (PV.int .i64))] H0 (.ptr (.ret 0) 0) (lookH [(.ret 0, [.sl 3 .ro (r.L.map (PV.int .i64)), .int .i64 r.At])]) := by
  refine can_of tabOK mix Try.call42 Try.func42 rfl (by kernel_rfl) (by show _ ≤ 6; simp) fun _ => ?_
  rw [f42] at h
  refine .seq ?_
  refine .region ?_
  refine .assign ?_
  refine .nil ?_
  refine .seq ?_
  refine .region ?_
  refine .move ?_
  refine .buildL (cs := [.sl 3 .ro (a0.map (PV.int .i64)), .int .i64 0]) ?_
  refine .boxL (cs := [.sl 3 .ro (a0.map (PV.int .i64)), .int .i64 0]) ?_
  refine .assign ?_
  refine .nil ?_
  cases h
  exact .ret (fin_gen (some (.loc 1 2)) (.ret .nil))

/- (*soundservice/soundservicemill.Deck).Left -/
def f69 (_n : Nat) (a0 : Deck) : Option (Bool × Deck) :=
  some (decide (a0.At < (a0.L.length : Int)), (⟨a0.L, a0.At⟩ : Deck))
set_option maxHeartbeats 4000000 in
set_option maxRecDepth 100000 in
theorem g69 {n : Nat} {a0 : Deck} {r : (Bool × Deck)} (h : f69 n a0 = some r) :
    Ab.Can Try.prog 69 [.ptr (.par 0) 0] (lookH [(.par 0, [.sl 3 .ro (a0.L.map (PV.int .i64)), .int .i64 a0.At])]) (.bool r.1) (lookH [(.par 0, [.sl 3 .ro (r.2.L.map (PV.int .i64)), .int .i64 r.2.At])]) := by
  refine can_of tabOK mix Try.call69 Try.func69 rfl (by kernel_rfl) (by show _ ≤ 13; simp) fun _ => ?_
  rw [f69] at h
  refine .seq ?_
  refine .region ?_
  refine .assign ?_
  refine .nil ?_
  refine .seq ?_
  refine .draw [] [[], [], [], [], [], [], [], [], [], [], []] [[], [], [], [], [], [], [], [], [], [], []] [[]]
    [(0, 0), (1, 0), (2, 0), (3, 0), (4, 0), (5, 0), (6, 0), (7, 0), (8, 0), (9, 0), (10, 0)] [] 0
    [⟨[(3, .ptr (.par 0) 0), (4, .ptr (.par 0) 0), (5, .ptr (.par 0) 1), (6, .int .i64 a0.At), (7, .ptr (.par 0) 0), (8, .ptr (.par 0) 0), (9, .ptr (.par 0) 0), (10, .sl 3 .ro (a0.L.map (PV.int .i64))), (11, .int .i64 (a0.L.length : Int)), (12, .bool (decide (a0.At < (a0.L.length : Int)))), (2, .bool (decide (a0.At < (a0.L.length : Int)))), (0, .ptr (.par 0) 0)], [], [((.par 0), [.sl 3 .ro (a0.L.map (PV.int .i64)), .int .i64 a0.At])]⟩]
    [(0, .ptr (.par 0) 0)]
    (.cons [0] [] (fun _ _ h => .move (h _)) rfl rfl <|
    .cons [3] [] (fun _ _ h => .val (h _)) rfl rfl <|
    .cons [4] [] (fun _ _ h => .val (h _)) rfl rfl <|
    .cons [5] [] (fun _ _ h => .val (h _)) rfl rfl <|
    .cons [0] [] (fun _ _ h => .move (h _)) rfl rfl <|
    .cons [7] [] (fun _ _ h => .val (h _)) rfl rfl <|
    .cons [8] [] (fun _ _ h => .val (h _)) rfl rfl <|
    .cons [9] [] (fun _ _ h => .val (h _)) rfl rfl <|
    .cons [10] [] (fun _ _ h => .lenL (f := (PV.int .i64)) (h _)) rfl rfl <|
    .cons [6, 11] [] (fun _ _ h => .val (h _)) rfl rfl <|
    .cons [12] [] (fun _ _ h => .assign (h _)) rfl rfl <|
    .nil)
    (.nil)
    (by kernel_rfl) rfl (.cons rfl (.nil)) (.nil) (.cons rfl (.nil)) ?_
  cases h
  exact .ret (fin_gen none (.par .nil))

/- (*soundservice/soundservicemill.Deck).Next -/
def f79 (n : Nat) (a0 : Deck) (a1 : Int) : Option (Int × Deck) :=
  (f69 n (⟨a0.L, a0.At⟩ : Deck)).bind fun y3 =>
  if !y3.1 then (
  some (0, (⟨y3.2.L, y3.2.At⟩ : Deck)))
  else (
  (lAt y3.2.L (w64 ((w64 (y3.2.At + (1 : Int))) - (1 : Int)))).bind fun x5 =>
  (f39 n x5 a1).bind fun y6 =>
  some (y6, (⟨y3.2.L, w64 (y3.2.At + (1 : Int))⟩ : Deck)))
set_option maxHeartbeats 4000000 in
set_option maxRecDepth 100000 in
theorem g79 {n : Nat} {a0 : Deck} {a1 : Int} {r : (Int × Deck)} (h : f79 n a0 a1 = some r) :
    Ab.Can Try.prog 79 [.ptr (.par 0) 0, .int .i64 a1] (lookH [(.par 0, [.sl 3 .ro (a0.L.map (PV.int .i64)), .int .i64 a0.At])]) (.int .i64 r.1) (lookH [(.par 0, [.sl 3 .ro (r.2.L.map (PV.int .i64)), .int .i64 r.2.At])]) := by
  refine can_of tabOK mix Try.call79 Try.func79 rfl (by kernel_rfl) (by show _ ≤ 28; simp) fun _ => ?_
  rw [f79] at h
  refine .seq ?_
  refine .region ?_
  refine .assign ?_
  refine .nil ?_
  refine .seq ?_
  refine .seq ?_
  refine .region ?_
  refine .move ?_
  obtain ⟨y3, hy3, h⟩ := bindE h
  refine .cH (.par 0) (g69 hy3) ?_
  refine .val ?_
  refine .nil ?_
  refine .cond (fun hc4 => ?_) (fun hc4 => ?_)
  · replace h := (if_pos hc4).symm.trans h
    refine .seq ?_
    refine .region ?_
    refine .assign ?_
    refine .nil ?_
    cases h
    exact .ret (fin_gen none (.par .nil))
  · replace h := (if_neg (nt hc4)).symm.trans h
    refine .skip ?_
    refine .seq ?_
    refine .region ?_
    refine .move ?_
    refine .val ?_
    refine .val ?_
    refine .val ?_
    refine .val ?_
    refine .val ?_
    refine .val ?_
    refine .wrL (cs := [.sl 3 .ro (y3.2.L.map (PV.int .i64)), .int .i64 (w64 (y3.2.At + (1 : Int)))]) ?_
    refine .nil ?_
    refine .seq ?_
    obtain ⟨x5, hx5, h⟩ := bindE h
    obtain ⟨y6, hy6, h⟩ := bindE h
    refine .draw [] [[], [], [], [], [], [], [], [], [], [], [], [], [], []] [[], [], [], [], [], [], [], [], [], [], [], [], [], []] [[]]
      [(0, 0), (1, 0), (2, 0), (3, 0), (4, 0), (5, 0), (6, 0), (7, 0), (8, 0), (9, 0), (10, 0), (11, 0), (12, 0), (13, 0)] [] 0
      [⟨[(15, .ptr (.par 0) 0), (16, .ptr (.par 0) 0), (17, .ptr (.par 0) 0), (18, .sl 3 .ro (y3.2.L.map (PV.int .i64))), (19, .ptr (.par 0) 0), (20, .ptr (.par 0) 0), (21, .ptr (.par 0) 1), (22, .int .i64 (w64 (y3.2.At + (1 : Int)))), (23, .int .i64 (w64 ((w64 (y3.2.At + (1 : Int))) - (1 : Int)))), (24, .ep 3 .ro (y3.2.L.map (PV.int .i64)) (w64 ((w64 (y3.2.At + (1 : Int))) - (1 : Int)) : Int).toNat 0), (25, .int .i64 x5), (26, .int .i64 a1), (27, .int .i64 y6), (4, .int .i64 y6), (0, .ptr (.par 0) 0), (1, .int .i64 a1)], [], [((.par 0), [.sl 3 .ro (y3.2.L.map (PV.int .i64)), .int .i64 (w64 (y3.2.At + (1 : Int)))])]⟩]
      [(0, .ptr (.par 0) 0), (1, .int .i64 a1)]
      (.cons [0] [] (fun _ _ h => .move (h _)) rfl rfl <|
      .cons [15] [] (fun _ _ h => .val (h _)) rfl rfl <|
      .cons [16] [] (fun _ _ h => .val (h _)) rfl rfl <|
      .cons [17] [] (fun _ _ h => .val (h _)) rfl rfl <|
      .cons [0] [] (fun _ _ h => .move (h _)) rfl rfl <|
      .cons [19] [] (fun _ _ h => .val (h _)) rfl rfl <|
      .cons [20] [] (fun _ _ h => .val (h _)) rfl rfl <|
      .cons [21] [] (fun _ _ h => .val (h _)) rfl rfl <|
      .cons [22] [] (fun _ _ h => .val (h _)) rfl rfl <|
      .cons [18, 23] [] (fun _ _ h => .idxL (f := (PV.int .i64)) hx5 (h _)) rfl rfl <|
      .cons [24] [] (fun _ _ h => .ldL hx5 (h _)) rfl rfl <|
      .cons [1] [] (fun _ _ h => .move (h _)) rfl rfl <|
      .cons [25, 26] [] (fun _ _ h => .cP (g39 hy6) (h _)) rfl rfl <|
      .cons [27] [] (fun _ _ h => .assign (h _)) rfl rfl <|
      .nil)
      (.nil)
      (by kernel_rfl) rfl (.cons rfl (.cons rfl (.nil))) (.nil) (.cons rfl (.nil)) ?_
    cases h
    exact .ret (fin_gen none (.par .nil))

/- (*soundservice/soundservicemill.Deck).Range -/
def f94 (n : Nat) (a0 : Deck) (a1 : Int) (a2 : Int) : Option (Int × Deck) :=
  (f79 n (⟨a0.L, a0.At⟩ : Deck) (w64 ((w64 (a2 - a1)) + (1 : Int)))).bind fun y1 =>
  some (w64 (a1 + y1.1), (⟨y1.2.L, y1.2.At⟩ : Deck))
set_option maxHeartbeats 4000000 in
set_option maxRecDepth 100000 in
theorem g94 {n : Nat} {a0 : Deck} {a1 : Int} {a2 : Int} {r : (Int × Deck)} (h : f94 n a0 a1 a2 = some r) :
    Ab.Can Try.prog 94 [.ptr (.par 0) 0, .int .i64 a1, .int .i64 a2] (lookH [(.par 0, [.sl 3 .ro (a0.L.map (PV.int .i64)), .int .i64 a0.At])]) (.int .i64 r.1) (lookH [(.par 0, [.sl 3 .ro (r.2.L.map (PV.int .i64)), .int .i64 r.2.At])]) := by
  refine can_of tabOK mix Try.call94 Try.func94 rfl (by kernel_rfl) (by show _ ≤ 15; simp) fun _ => ?_
  rw [f94] at h
  refine .seq ?_
  refine .region ?_
  refine .assign ?_
  refine .nil ?_
  refine .seq ?_
  refine .region ?_
  refine .move ?_
  refine .move ?_
  refine .move ?_
  refine .move ?_
  refine .val ?_
  refine .val ?_
  obtain ⟨y1, hy1, h⟩ := bindE h
  refine .cH (.par 0) (g79 hy1) ?_
  refine .val ?_
  refine .assign ?_
  refine .nil ?_
  cases h
  exact .ret (fin_gen none (.par .nil))
end Go.Proofs.Ytacdknbakjbpiaa
