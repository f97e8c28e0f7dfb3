/-
  Plain functions of soundservicelaw30, and that the code does what they say.
-/
import Derived.Test.YtacdknbakjbpiaaGe
namespace Go.Proofs.Ytacdknbakjbpiaa
open Go Ab
/- soundservice/soundservicelaw30.ChoicesFull -/
def f9_l1 (n : Nat) (a0 : Int) (j19 : (List Choose) → Option Bool) : Nat → (List Choose) → Int → Option Bool
  | 0, _, _ => none
  | m30 + 1, v23, v24 =>
    (f39 n a0 (3 : Int)).bind fun y33 =>
    if decide (v24 < (w64 ((31 : Int) + y33))) then (
    (f48 n (⟨v23⟩ : Memory) (⟨(⟨#[109, 117, 115, 105, 99]⟩ : ByteArray), ([IntKind.wrap .u64 (w64 (v24 + (1 : Int)))] : List Int), IntKind.wrap .u64 (w64 (v24 + (1 : Int)))⟩ : Choose)).bind fun y36 =>
    f9_l1 n a0 j19 m30 y36.1.Choices (w64 (v24 + (1 : Int))))
    else (
    j19 v23)
def f9 (n : Nat) (a0 : Int) (a1 : (List Int)) : Option Bool :=
  (f41 n ).bind fun y3 =>
  if !y3 then (
  some false)
  else (
  joinK (fun (v18 : (List Choose)) =>
  (f42 n a1).bind fun y37 =>
  (f44 n (⟨y37.L, y37.At⟩ : Deck)).bind fun y38 =>
  (f47 n (⟨v18⟩ : Memory) (⟨y38.1.Role, y38.1.Set, y38.1.Device⟩ : Choose)).bind fun y39 =>
  (f48 n (⟨v18⟩ : Memory) (⟨y38.1.Role, y38.1.Set, y38.1.Device⟩ : Choose)).bind fun y40 =>
  if (y39.2 == y40.2) then (
  (f49 n (⟨y39.1.Choices⟩ : Memory) (⟨y40.1.Choices⟩ : Memory)).bind fun y46 =>
  if y46 then (
  (f50 n (⟨y39.1.Choices⟩ : Memory) y38.1.Role y38.1.Set).bind fun y48 =>
  some (y48 == y38.1.Device))
  else (
  some false))
  else (
  some false)) fun j19 =>
  f9_l1 n a0 j19 n ([] : List Choose) 0)
set_option maxHeartbeats 4000000 in
set_option maxRecDepth 100000 in
theorem g9 {n : Nat} {a0 : Int} {a1 : (List Int)} {r : Bool} (h : f9 n a0 a1 = some r) :
    Ab.Can Try.prog 9 [.int .i64 a0, .sl 3 .ro (a1.map (PV.int .i64))] H0 (.bool r) H0 := by
  refine can_of tabOK mix Try.call9 Try.func9 rfl (by kernel_rfl) (by show _ ≤ 68; simp) fun _ => ?_
  rw [f9] at h
  refine .seq ?_
  refine .region ?_
  refine .assign ?_
  refine .nil ?_
  refine .seq ?_
  refine .seq ?_
  refine .region ?_
  obtain ⟨y3, hy3, h⟩ := bindE h
  refine .cP (g41 hy3) ?_
  refine .val ?_
  refine .nil ?_
  refine .cond (fun hc4 => ?_) (fun hc4 => ?_)
  · replace h := (if_pos hc4).symm.trans h
    refine .seq ?_
    refine .region ?_
    refine .assign ?_
    refine .nil ?_
    cases h
    exact .ret (fin_gen0 none)
  · replace h := (if_neg (nt hc4)).symm.trans h
    refine .skip ?_
    refine .seq ?_
    refine .region ?_
    refine .allocL (cs := [.sl 73 .full []]) ?_
    refine .nil ?_
    obtain ⟨j19, hj19, h⟩ := joinE h
    refine .cutI (fun T => (∃ (v18 : (List Choose)), T = St.of [(1, .sl 3 .ro (a1.map (PV.int .i64))), (5, .ptr (.loc 3 0) 0)] [((.loc 3 0), [.sl 73 .ro (v18.map pv73)])] ∧ j19 v18 = some r)) ?_ ?_
    · refine .seq ?_
      refine .region ?_
      refine .assign ?_
      refine .nil ?_
      refine .block ?_
      refine .loopI (fun m T => ∃ (v23 : (List Choose)) (v24 : Int), T = St.of [(0, .int .i64 a0), (1, .sl 3 .ro (a1.map (PV.int .i64))), (5, .ptr (.loc 3 0) 0), (6, .int .i64 v24)] [((.loc 3 0), [.sl 73 .ro (v23.map pv73)])] ∧ f9_l1 n a0 j19 m v23 v24 = some r) _ _ ⟨_, _, rfl, h⟩ (imp_of (.cons rfl (.cons rfl (.cons rfl (.cons rfl (.nil))))) (.wk (.cons (.ro _ _) rfl (.nil)) rfl (.nil))) ?_
      rintro m30 T ⟨v23, v24, rfl, h⟩
      obtain _ | m30 := m30
      · rw [f9_l1] at h; cases h
      rw [f9_l1] at h
      refine .seq ?_
      refine .seq ?_
      refine .region ?_
      refine .move ?_
      refine .move ?_
      obtain ⟨y33, hy33, h⟩ := bindE h
      refine .cP (g39 hy33) ?_
      refine .val ?_
      refine .val ?_
      refine .nil ?_
      refine .cond (fun hc34 => ?_) (fun hc34 => ?_)
      · replace h := (if_pos hc34).symm.trans h
        refine .skip ?_
        refine .seq ?_
        refine .block ?_
        refine .region ?_
        refine .val (v := .agg [.sl 73 .ro (v23.map pv73)]) ?_
        refine .move ?_
        refine .val ?_
        refine .val ?_
        refine .litR (f := (PV.int .u64)) ([IntKind.wrap .u64 (w64 (v24 + (1 : Int)))] : List Int) ?_
        refine .move ?_
        refine .val ?_
        refine .val ?_
        refine .buildL (cs := [.str (⟨#[109, 117, 115, 105, 99]⟩ : ByteArray), .sl 71 .ro (([IntKind.wrap .u64 (w64 (v24 + (1 : Int)))] : List Int).map (PV.int .u64)), .int .u64 (IntKind.wrap .u64 (w64 (v24 + (1 : Int))))]) ?_
        obtain ⟨y36, hy36, h⟩ := bindE h
        refine .cP (g48 hy36) ?_
        refine .move ?_
        refine .val ?_
        refine .val ?_
        refine .wrL (cs := [.sl 73 .ro (y36.1.Choices.map pv73)]) ?_
        refine .nil ?_
        refine .region ?_
        refine .move ?_
        refine .val ?_
        refine .assign ?_
        refine .nil ?_
        exact ⟨m30, _, Nat.lt_succ_self m30, ⟨_, _, rfl, h⟩, (imp_of (.cons rfl (.cons rfl (.cons rfl (.cons rfl (.nil))))) (.cons rfl (.nil)))⟩
      · replace h := (if_neg (nt hc34)).symm.trans h
        refine .exit (.hit ?_)
        exact ⟨_, ⟨_, rfl, h⟩, (imp_of (.cons rfl (.cons rfl (.nil))) (.cons rfl (.nil)))⟩
    · rintro T ⟨v18, rfl, h⟩
      subst hj19
      refine .seq ?_
      refine .region ?_
      refine .move ?_
      obtain ⟨y37, hy37, h⟩ := bindE h
      refine .cB (.loc 8 1) (g42 hy37) ?_
      obtain ⟨y38, hy38, h⟩ := bindE h
      refine .cH (.loc 8 1) (g44 hy38) ?_
      refine .allocL (cs := [.str (⟨#[]⟩ : ByteArray), .sl 71 .full [], .int .u64 0]) ?_
      refine .wrL (cs := [.str y38.1.Role, .sl 71 .ro (y38.1.Set.map (PV.int .u64)), .int .u64 y38.1.Device]) ?_
      refine .nil ?_
      refine .seq ?_
      refine .region ?_
      refine .val (v := .agg [.sl 73 .ro (v18.map pv73)]) ?_
      refine .val (v := .agg [.str y38.1.Role, .sl 71 .ro (y38.1.Set.map (PV.int .u64)), .int .u64 y38.1.Device]) ?_
      obtain ⟨y39, hy39, h⟩ := bindE h
      refine .cP (g47 hy39) ?_
      refine .move ?_
      refine .val ?_
      refine .val ?_
      refine .allocL (cs := [.sl 73 .full []]) ?_
      refine .wrL (cs := [.sl 73 .ro (y39.1.Choices.map pv73)]) ?_
      refine .assign ?_
      refine .nil ?_
      refine .seq ?_
      refine .region ?_
      refine .val (v := .agg [.sl 73 .ro (v18.map pv73)]) ?_
      refine .val (v := .agg [.str y38.1.Role, .sl 71 .ro (y38.1.Set.map (PV.int .u64)), .int .u64 y38.1.Device]) ?_
      obtain ⟨y40, hy40, h⟩ := bindE h
      refine .cP (g48 hy40) ?_
      refine .move ?_
      refine .val ?_
      refine .val ?_
      refine .allocL (cs := [.sl 73 .full []]) ?_
      refine .wrL (cs := [.sl 73 .ro (y40.1.Choices.map pv73)]) ?_
      refine .assign ?_
      refine .nil ?_
      refine .imp (T := St.of [(7, .ptr (.loc 8 3) 0), (8, .ptr (.loc 9 6) 0), (9, .int .i64 y39.2), (10, .ptr (.loc 10 6) 0), (11, .int .i64 y40.2)] [((.loc 8 3), [.str y38.1.Role, .sl 71 .ro (y38.1.Set.map (PV.int .u64)), .int .u64 y38.1.Device]), ((.loc 9 6), [.sl 73 .ro (y39.1.Choices.map pv73)]), ((.loc 10 6), [.sl 73 .ro (y40.1.Choices.map pv73)])]) (imp_of (.cons rfl (.cons rfl (.cons rfl (.cons rfl (.cons rfl (.nil)))))) (.cons rfl (.cons rfl (.cons rfl (.nil))))) ?_
      refine .seq ?_
      rcases bool_em ((y39.2 == y40.2)) with hc45 | hc45
      · replace h := (if_pos hc45).symm.trans h
        obtain ⟨y46, hy46, h⟩ := bindE h
        rcases bool_em (y46) with hc47 | hc47
        · replace h := (if_pos hc47).symm.trans h
          obtain ⟨y48, hy48, h⟩ := bindE h
          refine .draw [] [[], [], [], [], [], [], [], [], [], [], [], [], [], [], [], [], [], [], [], []] [[], [], [], [], [], [], [], [], [], [], [], [], [], [], [], [], [], [], [], []] [[]]
            [(0, 0), (1, 0), (2, 0), (3, 0), (4, 0), (5, 0), (6, 0), (7, 0), (8, 0), (9, 0), (10, 0), (11, 0), (12, 0), (13, 0), (14, 0), (15, 0), (16, 0), (17, 0), (18, 0), (19, 0)] [] 0
            [⟨[(49, .int .i64 y39.2), (50, .int .i64 y40.2), (51, .bool true), (52, .bool true), (53, .agg [.sl 73 .ro (y39.1.Choices.map pv73)]), (54, .agg [.sl 73 .ro (y40.1.Choices.map pv73)]), (55, .bool true), (56, .bool true), (57, .bool true), (58, .agg [.sl 73 .ro (y39.1.Choices.map pv73)]), (59, .ptr (.loc 8 3) 0), (60, .str y38.1.Role), (61, .ptr (.loc 8 3) 1), (62, .sl 71 .ro (y38.1.Set.map (PV.int .u64))), (63, .int .u64 y48), (64, .ptr (.loc 8 3) 2), (65, .int .u64 y38.1.Device), (66, .bool (y48 == y38.1.Device)), (67, .bool (y48 == y38.1.Device)), (4, .bool (y48 == y38.1.Device)), (7, .ptr (.loc 8 3) 0), (8, .ptr (.loc 9 6) 0), (9, .int .i64 y39.2), (10, .ptr (.loc 10 6) 0), (11, .int .i64 y40.2)], [], [((.loc 8 3), [.str y38.1.Role, .sl 71 .ro (y38.1.Set.map (PV.int .u64)), .int .u64 y38.1.Device]), ((.loc 9 6), [.sl 73 .ro (y39.1.Choices.map pv73)]), ((.loc 10 6), [.sl 73 .ro (y40.1.Choices.map pv73)])]⟩]
            [(7, .ptr (.loc 8 3) 0), (8, .ptr (.loc 9 6) 0), (9, .int .i64 y39.2), (10, .ptr (.loc 10 6) 0), (11, .int .i64 y40.2)]
            (.cons [9] [] (fun _ _ h => .move (h _)) rfl rfl <|
            .cons [11] [] (fun _ _ h => .move (h _)) rfl rfl <|
            .cons [49, 50] [] (fun _ _ h => .valB hc45 (h _)) rfl rfl <|
            .cons [51] [] (fun _ _ h => .move (h _)) rfl rfl <|
            .cons [8, 52] [] (fun _ _ h => .val (h _)) rfl rfl <|
            .cons [10, 52] [] (fun _ _ h => .val (h _)) rfl rfl <|
            .cons [53, 54, 52] [] (fun _ _ h => .cP (g49 hy46) (by rw [hc47]; exact h _)) rfl rfl <|
            .cons [52, 55] [] (fun _ _ h => .brT (h _)) rfl rfl <|
            .cons [56] [] (fun _ _ h => .move (h _)) rfl rfl <|
            .cons [8, 57] [] (fun _ _ h => .val (h _)) rfl rfl <|
            .cons [7, 57] [] (fun _ _ h => .val (h _)) rfl rfl <|
            .cons [59, 57] [] (fun _ _ h => .val (h _)) rfl rfl <|
            .cons [7, 57] [] (fun _ _ h => .val (h _)) rfl rfl <|
            .cons [61, 57] [] (fun _ _ h => .val (h _)) rfl rfl <|
            .cons [58, 60, 62, 57] [] (fun _ _ h => .cP (g50 hy48) (h _)) rfl rfl <|
            .cons [7, 57] [] (fun _ _ h => .val (h _)) rfl rfl <|
            .cons [64, 57] [] (fun _ _ h => .val (h _)) rfl rfl <|
            .cons [63, 65, 57] [] (fun _ _ h => .val (h _)) rfl rfl <|
            .cons [57, 66] [] (fun _ _ h => .brT (h _)) rfl rfl <|
            .cons [67] [] (fun _ _ h => .assign (h _)) rfl rfl <|
            .nil)
            (.nil)
            (by kernel_rfl) rfl (.cons rfl (.cons rfl (.cons rfl (.cons rfl (.cons rfl (.nil)))))) (.nil) (.cons rfl (.cons rfl (.cons rfl (.nil)))) ?_
          cases h
          exact .ret (fin_gen0 none)
        · replace h := (if_neg (nt hc47)).symm.trans h
          refine .draw [] [[], [], [], [], [], [], [], [], [], [], [], [], [], [], [], [], [], [], [], []] [[], [], [], [], [], [], [], [], [], [], [], [], [], [], [], [], [], [], [], []] [[]]
            [(0, 0), (1, 0), (2, 0), (3, 0), (4, 0), (5, 0), (6, 0), (7, 0), (8, 0), (9, 0), (10, 0), (11, 0), (12, 0), (13, 0), (14, 0), (15, 0), (16, 0), (17, 0), (18, 0), (19, 0)] [] 0
            [⟨[(49, .int .i64 y39.2), (50, .int .i64 y40.2), (51, .bool true), (52, .bool true), (53, .agg [.sl 73 .ro (y39.1.Choices.map pv73)]), (54, .agg [.sl 73 .ro (y40.1.Choices.map pv73)]), (55, .bool false), (56, .bool false), (57, .bool false), (58, .tup []), (59, .tup []), (60, .tup []), (61, .tup []), (62, .tup []), (63, .tup []), (64, .tup []), (65, .tup []), (66, .tup []), (67, .bool false), (4, .bool false), (7, .ptr (.loc 8 3) 0), (8, .ptr (.loc 9 6) 0), (9, .int .i64 y39.2), (10, .ptr (.loc 10 6) 0), (11, .int .i64 y40.2)], [], [((.loc 8 3), [.str y38.1.Role, .sl 71 .ro (y38.1.Set.map (PV.int .u64)), .int .u64 y38.1.Device]), ((.loc 9 6), [.sl 73 .ro (y39.1.Choices.map pv73)]), ((.loc 10 6), [.sl 73 .ro (y40.1.Choices.map pv73)])]⟩]
            [(7, .ptr (.loc 8 3) 0), (8, .ptr (.loc 9 6) 0), (9, .int .i64 y39.2), (10, .ptr (.loc 10 6) 0), (11, .int .i64 y40.2)]
            (.cons [9] [] (fun _ _ h => .move (h _)) rfl rfl <|
            .cons [11] [] (fun _ _ h => .move (h _)) rfl rfl <|
            .cons [49, 50] [] (fun _ _ h => .valB hc45 (h _)) rfl rfl <|
            .cons [51] [] (fun _ _ h => .move (h _)) rfl rfl <|
            .cons [8, 52] [] (fun _ _ h => .val (h _)) rfl rfl <|
            .cons [10, 52] [] (fun _ _ h => .val (h _)) rfl rfl <|
            .cons [53, 54, 52] [] (fun _ _ h => .cP (g49 hy46) (by rw [hc47]; exact h _)) rfl rfl <|
            .cons [52, 55] [] (fun _ _ h => .brT (h _)) rfl rfl <|
            .cons [56] [] (fun _ _ h => .move (h _)) rfl rfl <|
            .cons [57] [] (fun _ _ h => .skip (h _)) rfl rfl <|
            .cons [57] [] (fun _ _ h => .skip (h _)) rfl rfl <|
            .cons [57] [] (fun _ _ h => .skip (h _)) rfl rfl <|
            .cons [57] [] (fun _ _ h => .skip (h _)) rfl rfl <|
            .cons [57] [] (fun _ _ h => .skip (h _)) rfl rfl <|
            .cons [57] [] (fun _ _ h => .skip (h _)) rfl rfl <|
            .cons [57] [] (fun _ _ h => .skip (h _)) rfl rfl <|
            .cons [57] [] (fun _ _ h => .skip (h _)) rfl rfl <|
            .cons [57] [] (fun _ _ h => .skip (h _)) rfl rfl <|
            .cons [57, 66] [] (fun _ _ h => .brF (h _)) rfl rfl <|
            .cons [67] [] (fun _ _ h => .assign (h _)) rfl rfl <|
            .nil)
            (.nil)
            (by kernel_rfl) rfl (.cons rfl (.cons rfl (.cons rfl (.cons rfl (.cons rfl (.nil)))))) (.nil) (.cons rfl (.cons rfl (.cons rfl (.nil)))) ?_
          cases h
          exact .ret (fin_gen0 none)
      · replace h := (if_neg (nt hc45)).symm.trans h
        refine .draw [] [[], [], [], [], [], [], [], [], [], [], [], [], [], [], [], [], [], [], [], []] [[], [], [], [], [], [], [], [], [], [], [], [], [], [], [], [], [], [], [], []] [[]]
          [(0, 0), (1, 0), (2, 0), (3, 0), (4, 0), (5, 0), (6, 0), (7, 0), (8, 0), (9, 0), (10, 0), (11, 0), (12, 0), (13, 0), (14, 0), (15, 0), (16, 0), (17, 0), (18, 0), (19, 0)] [] 0
          [⟨[(49, .int .i64 y39.2), (50, .int .i64 y40.2), (51, .bool false), (52, .bool false), (53, .tup []), (54, .tup []), (55, .tup []), (56, .bool false), (57, .bool false), (58, .tup []), (59, .tup []), (60, .tup []), (61, .tup []), (62, .tup []), (63, .tup []), (64, .tup []), (65, .tup []), (66, .tup []), (67, .bool false), (4, .bool false), (7, .ptr (.loc 8 3) 0), (8, .ptr (.loc 9 6) 0), (9, .int .i64 y39.2), (10, .ptr (.loc 10 6) 0), (11, .int .i64 y40.2)], [], [((.loc 8 3), [.str y38.1.Role, .sl 71 .ro (y38.1.Set.map (PV.int .u64)), .int .u64 y38.1.Device]), ((.loc 9 6), [.sl 73 .ro (y39.1.Choices.map pv73)]), ((.loc 10 6), [.sl 73 .ro (y40.1.Choices.map pv73)])]⟩]
          [(7, .ptr (.loc 8 3) 0), (8, .ptr (.loc 9 6) 0), (9, .int .i64 y39.2), (10, .ptr (.loc 10 6) 0), (11, .int .i64 y40.2)]
          (.cons [9] [] (fun _ _ h => .move (h _)) rfl rfl <|
          .cons [11] [] (fun _ _ h => .move (h _)) rfl rfl <|
          .cons [49, 50] [] (fun _ _ h => .valB hc45 (h _)) rfl rfl <|
          .cons [51] [] (fun _ _ h => .move (h _)) rfl rfl <|
          .cons [52] [] (fun _ _ h => .skip (h _)) rfl rfl <|
          .cons [52] [] (fun _ _ h => .skip (h _)) rfl rfl <|
          .cons [52] [] (fun _ _ h => .skip (h _)) rfl rfl <|
          .cons [52, 55] [] (fun _ _ h => .brF (h _)) rfl rfl <|
          .cons [56] [] (fun _ _ h => .move (h _)) rfl rfl <|
          .cons [57] [] (fun _ _ h => .skip (h _)) rfl rfl <|
          .cons [57] [] (fun _ _ h => .skip (h _)) rfl rfl <|
          .cons [57] [] (fun _ _ h => .skip (h _)) rfl rfl <|
          .cons [57] [] (fun _ _ h => .skip (h _)) rfl rfl <|
          .cons [57] [] (fun _ _ h => .skip (h _)) rfl rfl <|
          .cons [57] [] (fun _ _ h => .skip (h _)) rfl rfl <|
          .cons [57] [] (fun _ _ h => .skip (h _)) rfl rfl <|
          .cons [57] [] (fun _ _ h => .skip (h _)) rfl rfl <|
          .cons [57] [] (fun _ _ h => .skip (h _)) rfl rfl <|
          .cons [57, 66] [] (fun _ _ h => .brF (h _)) rfl rfl <|
          .cons [67] [] (fun _ _ h => .assign (h _)) rfl rfl <|
          .nil)
          (.nil)
          (by kernel_rfl) rfl (.cons rfl (.cons rfl (.cons rfl (.cons rfl (.cons rfl (.nil)))))) (.nil) (.cons rfl (.cons rfl (.cons rfl (.nil)))) ?_
        cases h
        exact .ret (fin_gen0 none)
end Go.Proofs.Ytacdknbakjbpiaa
