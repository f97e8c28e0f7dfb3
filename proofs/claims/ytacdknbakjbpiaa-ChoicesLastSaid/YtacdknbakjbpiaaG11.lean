/-
  Plain functions of soundservicelaw30, and that the code does what they say.
-/
import Derived.Test.YtacdknbakjbpiaaGe
namespace Go.Proofs.Ytacdknbakjbpiaa
open Go Ab
/- soundservice/soundservicelaw30.ChoicesLast -/
def f11_l1 (n : Nat) (y6 : (Memory × Deck)) (y7 : (Choose × Deck)) (y8 : (Memory × Int)) (j113 : Unit → Option Bool) : Nat → (List Int) → Int → Int → Option Bool
  | 0, _, _, _ => none
  | m172 + 1, v140, v141, v142 =>
    if decide (v142 < (5 : Int)) then (
    joinK (fun (v197 : (List Int)) (v198 : Int) =>
    f11_l1 n y6 y7 y8 j113 m172 v197 v198 (w64 (v142 + (1 : Int)))) fun j199 =>
    (f56 n (⟨v140, v141⟩ : Deck)).bind fun y200 =>
    (f57 n (⟨y200.2.L, y200.2.At⟩ : Deck)).bind fun y201 =>
    (f50 n (⟨y8.1.Choices⟩ : Memory) y200.1 y201.1).bind fun y202 =>
    joinK (fun (_ : Unit) =>
    joinK (fun (_ : Unit) =>
    if (y202 != (0 : Int)) then (
    some false)
    else (
    j199 y201.2.L y201.2.At)) fun j238 =>
    joinK (fun (_ : Unit) =>
    j199 y201.2.L y201.2.At) fun j239 =>
    (f59 n (⟨y8.1.Choices⟩ : Memory) y202).bind fun y240 =>
    (f50 n y240 y200.1 y201.1).bind fun y241 =>
    if (y241 == y202) then (
    j238 ())
    else (
    j239 ())) fun j215 =>
    joinK (fun (_ : Unit) =>
    some false) fun j223 =>
    joinK (fun (v224 : Bool) =>
    if v224 then (
    some false)
    else (
    j215 ())) fun j225 =>
    joinK (fun (_ : Unit) =>
    j215 ()) fun j226 =>
    if (y202 != (0 : Int)) then (
    (f58 n y201.1 y202).bind fun y228 =>
    if !y228 then (
    j223 ())
    else (
    if !(sEq y200.1 y7.1.Role) then (
    (f50 n (⟨y6.1.Choices⟩ : Memory) y200.1 y201.1).bind fun y231 =>
    j225 (y202 != y231))
    else (
    j226 ())))
    else (
    if !(sEq y200.1 y7.1.Role) then (
    (f50 n (⟨y6.1.Choices⟩ : Memory) y200.1 y201.1).bind fun y233 =>
    j225 (y202 != y233))
    else (
    j226 ())))
    else (
    j113 ())
def f11 (n : Nat) (a0 : (List Int)) : Option Bool :=
  (f41 n ).bind fun y3 =>
  if !y3 then (
  some false)
  else (
  (f42 n a0).bind fun y5 =>
  (f43 n (⟨y5.L, y5.At⟩ : Deck)).bind fun y6 =>
  (f44 n (⟨y6.2.L, y6.2.At⟩ : Deck)).bind fun y7 =>
  (f47 n (⟨y6.1.Choices⟩ : Memory) (⟨y7.1.Role, y7.1.Set, y7.1.Device⟩ : Choose)).bind fun y8 =>
  joinK (fun (_ : Unit) =>
  some false) fun j21 =>
  joinK (fun (v22 : Bool) =>
  if v22 then (
  some false)
  else (
  joinK (fun (_ : Unit) =>
  some true) fun j113 =>
  f11_l1 n y6 y7 y8 j113 n y7.2.L y7.2.At 0)) fun j23 =>
  if (y8.2 != (0 : Int)) then (
  j21 ())
  else (
  (f50 n (⟨y8.1.Choices⟩ : Memory) y7.1.Role y7.1.Set).bind fun y25 =>
  if (y25 != y7.1.Device) then (
  j21 ())
  else (
  (f45 n (⟨y8.1.Choices⟩ : Memory)).bind fun y27 =>
  j23 (!y27))))
set_option maxHeartbeats 4000000 in
set_option maxRecDepth 100000 in
theorem g11 {n : Nat} {a0 : (List Int)} {r : Bool} (h : f11 n a0 = some r) :
    Ab.Can Try.prog 11 [.sl 3 .ro (a0.map (PV.int .i64))] H0 (.bool r) H0 := by
  refine can_of tabOK mix Try.call11 Try.func11 rfl (by kernel_rfl) (by show _ ≤ 90; simp) fun _ => ?_
  rw [f11] at h
  refine .seq ?_
  refine .region ?_
  refine .assign ?_
  refine .nil ?_
  refine .seq ?_
  refine .seq ?_
  refine .region ?_
  obtain ⟨y3, hy3, h⟩ := bindE h
  refine .cP (g41 hy3) ?_
  refine .val ?_
  refine .nil ?_
  refine .cond (fun hc4 => ?_) (fun hc4 => ?_)
  · replace h := (if_pos hc4).symm.trans h
    refine .seq ?_
    refine .region ?_
    refine .assign ?_
    refine .nil ?_
    cases h
    exact .ret (fin_gen0 none)
  · replace h := (if_neg (nt hc4)).symm.trans h
    refine .skip ?_
    refine .seq ?_
    refine .region ?_
    refine .move ?_
    obtain ⟨y5, hy5, h⟩ := bindE h
    refine .cB (.loc 3 1) (g42 hy5) ?_
    refine .assign ?_
    refine .nil ?_
    refine .seq ?_
    refine .region ?_
    refine .move ?_
    obtain ⟨y6, hy6, h⟩ := bindE h
    refine .cH (.loc 3 1) (g43 hy6) ?_
    refine .move ?_
    obtain ⟨y7, hy7, h⟩ := bindE h
    refine .cH (.loc 3 1) (g44 hy7) ?_
    refine .allocL (cs := [.sl 73 .full []]) ?_
    refine .allocL (cs := [.str (⟨#[]⟩ : ByteArray), .sl 71 .full [], .int .u64 0]) ?_
    refine .wrL (cs := [.sl 73 .ro (y6.1.Choices.map pv73)]) ?_
    refine .wrL (cs := [.str y7.1.Role, .sl 71 .ro (y7.1.Set.map (PV.int .u64)), .int .u64 y7.1.Device]) ?_
    refine .nil ?_
    refine .seq ?_
    refine .region ?_
    refine .val (v := .agg [.sl 73 .ro (y6.1.Choices.map pv73)]) ?_
    refine .val (v := .agg [.str y7.1.Role, .sl 71 .ro (y7.1.Set.map (PV.int .u64)), .int .u64 y7.1.Device]) ?_
    obtain ⟨y8, hy8, h⟩ := bindE h
    refine .cP (g47 hy8) ?_
    refine .move ?_
    refine .val ?_
    refine .val ?_
    refine .allocL (cs := [.sl 73 .full []]) ?_
    refine .wrL (cs := [.sl 73 .ro (y8.1.Choices.map pv73)]) ?_
    refine .assign ?_
    refine .nil ?_
    refine .imp (T := St.of [(3, .ptr (.loc 3 1) 0), (4, .ptr (.loc 4 4) 0), (5, .ptr (.loc 4 5) 0), (6, .ptr (.loc 5 6) 0), (7, .int .i64 y8.2)] [((.loc 3 1), [.sl 3 .ro (y7.2.L.map (PV.int .i64)), .int .i64 y7.2.At]), ((.loc 4 4), [.sl 73 .ro (y6.1.Choices.map pv73)]), ((.loc 4 5), [.str y7.1.Role, .sl 71 .ro (y7.1.Set.map (PV.int .u64)), .int .u64 y7.1.Device]), ((.loc 5 6), [.sl 73 .ro (y8.1.Choices.map pv73)])]) (imp_of (.cons rfl (.cons rfl (.cons rfl (.cons rfl (.cons rfl (.nil)))))) (.cons rfl (.cons rfl (.cons rfl (.cons rfl (.nil)))))) ?_
    refine .seq ?_
    obtain ⟨j21, hj21, h⟩ := joinE h
    obtain ⟨j23, hj23, h⟩ := joinE h
    refine .cutI (fun T => (T = St.of [(3, .ptr (.loc 3 1) 0), (4, .ptr (.loc 4 4) 0), (5, .ptr (.loc 4 5) 0), (6, .ptr (.loc 5 6) 0), (43, .bool true)] [((.loc 3 1), [.sl 3 .ro (y7.2.L.map (PV.int .i64)), .int .i64 y7.2.At]), ((.loc 4 4), [.sl 73 .ro (y6.1.Choices.map pv73)]), ((.loc 4 5), [.str y7.1.Role, .sl 71 .ro (y7.1.Set.map (PV.int .u64)), .int .u64 y7.1.Device]), ((.loc 5 6), [.sl 73 .ro (y8.1.Choices.map pv73)])] ∧ j21 () = some r) ∨ (∃ (v22 : Bool), T = St.of [(3, .ptr (.loc 3 1) 0), (4, .ptr (.loc 4 4) 0), (5, .ptr (.loc 4 5) 0), (6, .ptr (.loc 5 6) 0), (43, .bool v22)] [((.loc 3 1), [.sl 3 .ro (y7.2.L.map (PV.int .i64)), .int .i64 y7.2.At]), ((.loc 4 4), [.sl 73 .ro (y6.1.Choices.map pv73)]), ((.loc 4 5), [.str y7.1.Role, .sl 71 .ro (y7.1.Set.map (PV.int .u64)), .int .u64 y7.1.Device]), ((.loc 5 6), [.sl 73 .ro (y8.1.Choices.map pv73)])] ∧ j23 v22 = some r)) ?_ ?_
    · rcases bool_em ((y8.2 != (0 : Int))) with hc24 | hc24
      · replace h := (if_pos hc24).symm.trans h
        refine .draw [] [[], [], [], [], [], [], [], [], [], [], [], [], [], [], [], [], [], []] [[], [], [], [], [], [], [], [], [], [], [], [], [], [], [], [], [], []] [[]]
          [(0, 0), (1, 0), (2, 0), (3, 0), (4, 0), (5, 0), (6, 0), (7, 0), (8, 0), (9, 0), (10, 0), (11, 0), (12, 0), (13, 0), (14, 0), (15, 0), (16, 0), (17, 0)] [] 0
          [⟨[(26, .int .i64 y8.2), (27, .bool true), (28, .bool true), (29, .tup []), (30, .tup []), (31, .tup []), (32, .tup []), (33, .tup []), (34, .tup []), (35, .tup []), (36, .tup []), (37, .tup []), (38, .bool true), (39, .bool true), (40, .tup []), (41, .tup []), (42, .tup []), (43, .bool true), (3, .ptr (.loc 3 1) 0), (4, .ptr (.loc 4 4) 0), (5, .ptr (.loc 4 5) 0), (6, .ptr (.loc 5 6) 0), (7, .int .i64 y8.2)], [], [((.loc 3 1), [.sl 3 .ro (y7.2.L.map (PV.int .i64)), .int .i64 y7.2.At]), ((.loc 4 4), [.sl 73 .ro (y6.1.Choices.map pv73)]), ((.loc 4 5), [.str y7.1.Role, .sl 71 .ro (y7.1.Set.map (PV.int .u64)), .int .u64 y7.1.Device]), ((.loc 5 6), [.sl 73 .ro (y8.1.Choices.map pv73)])]⟩]
          [(3, .ptr (.loc 3 1) 0), (4, .ptr (.loc 4 4) 0), (5, .ptr (.loc 4 5) 0), (6, .ptr (.loc 5 6) 0), (7, .int .i64 y8.2)]
          (.cons [7] [] (fun _ _ h => .move (h _)) rfl rfl <|
          .cons [26] [] (fun _ _ h => .valB hc24 (h _)) rfl rfl <|
          .cons [27] [] (fun _ _ h => .move (h _)) rfl rfl <|
          .cons [28] [] (fun _ _ h => .skip (h _)) rfl rfl <|
          .cons [28] [] (fun _ _ h => .skip (h _)) rfl rfl <|
          .cons [28] [] (fun _ _ h => .skip (h _)) rfl rfl <|
          .cons [28] [] (fun _ _ h => .skip (h _)) rfl rfl <|
          .cons [28] [] (fun _ _ h => .skip (h _)) rfl rfl <|
          .cons [28] [] (fun _ _ h => .skip (h _)) rfl rfl <|
          .cons [28] [] (fun _ _ h => .skip (h _)) rfl rfl <|
          .cons [28] [] (fun _ _ h => .skip (h _)) rfl rfl <|
          .cons [28] [] (fun _ _ h => .skip (h _)) rfl rfl <|
          .cons [28, 37] [] (fun _ _ h => .brT (h _)) rfl rfl <|
          .cons [38] [] (fun _ _ h => .move (h _)) rfl rfl <|
          .cons [39] [] (fun _ _ h => .skip (h _)) rfl rfl <|
          .cons [39] [] (fun _ _ h => .skip (h _)) rfl rfl <|
          .cons [39] [] (fun _ _ h => .skip (h _)) rfl rfl <|
          .cons [39, 42] [] (fun _ _ h => .brT (h _)) rfl rfl <|
          .nil)
          (.nil)
          (by kernel_rfl) rfl (.cons rfl (.cons rfl (.cons rfl (.cons rfl (.cons rfl (.nil)))))) (.nil) (.cons rfl (.cons rfl (.cons rfl (.cons rfl (.nil))))) ?_
        exact ⟨_, (.inl ⟨rfl, h⟩), (imp_of (.cons rfl (.cons rfl (.cons rfl (.cons rfl (.cons rfl (.nil)))))) (.cons rfl (.cons rfl (.cons rfl (.cons rfl (.nil))))))⟩
      · replace h := (if_neg (nt hc24)).symm.trans h
        obtain ⟨y25, hy25, h⟩ := bindE h
        rcases bool_em ((y25 != y7.1.Device)) with hc26 | hc26
        · replace h := (if_pos hc26).symm.trans h
          refine .draw [] [[], [], [], [], [], [], [], [], [], [], [], [], [], [], [], [], [], []] [[], [], [], [], [], [], [], [], [], [], [], [], [], [], [], [], [], []] [[]]
            [(0, 0), (1, 0), (2, 0), (3, 0), (4, 0), (5, 0), (6, 0), (7, 0), (8, 0), (9, 0), (10, 0), (11, 0), (12, 0), (13, 0), (14, 0), (15, 0), (16, 0), (17, 0)] [] 0
            [⟨[(26, .int .i64 y8.2), (27, .bool false), (28, .bool false), (29, .agg [.sl 73 .ro (y8.1.Choices.map pv73)]), (30, .ptr (.loc 4 5) 0), (31, .str y7.1.Role), (32, .ptr (.loc 4 5) 1), (33, .sl 71 .ro (y7.1.Set.map (PV.int .u64))), (34, .int .u64 y25), (35, .ptr (.loc 4 5) 2), (36, .int .u64 y7.1.Device), (37, .bool true), (38, .bool true), (39, .bool true), (40, .tup []), (41, .tup []), (42, .tup []), (43, .bool true), (3, .ptr (.loc 3 1) 0), (4, .ptr (.loc 4 4) 0), (5, .ptr (.loc 4 5) 0), (6, .ptr (.loc 5 6) 0), (7, .int .i64 y8.2)], [], [((.loc 3 1), [.sl 3 .ro (y7.2.L.map (PV.int .i64)), .int .i64 y7.2.At]), ((.loc 4 4), [.sl 73 .ro (y6.1.Choices.map pv73)]), ((.loc 4 5), [.str y7.1.Role, .sl 71 .ro (y7.1.Set.map (PV.int .u64)), .int .u64 y7.1.Device]), ((.loc 5 6), [.sl 73 .ro (y8.1.Choices.map pv73)])]⟩]
            [(3, .ptr (.loc 3 1) 0), (4, .ptr (.loc 4 4) 0), (5, .ptr (.loc 4 5) 0), (6, .ptr (.loc 5 6) 0), (7, .int .i64 y8.2)]
            (.cons [7] [] (fun _ _ h => .move (h _)) rfl rfl <|
            .cons [26] [] (fun _ _ h => .valB hc24 (h _)) rfl rfl <|
            .cons [27] [] (fun _ _ h => .move (h _)) rfl rfl <|
            .cons [6, 28] [] (fun _ _ h => .val (h _)) rfl rfl <|
            .cons [5, 28] [] (fun _ _ h => .val (h _)) rfl rfl <|
            .cons [30, 28] [] (fun _ _ h => .val (h _)) rfl rfl <|
            .cons [5, 28] [] (fun _ _ h => .val (h _)) rfl rfl <|
            .cons [32, 28] [] (fun _ _ h => .val (h _)) rfl rfl <|
            .cons [29, 31, 33, 28] [] (fun _ _ h => .cP (g50 hy25) (h _)) rfl rfl <|
            .cons [5, 28] [] (fun _ _ h => .val (h _)) rfl rfl <|
            .cons [35, 28] [] (fun _ _ h => .val (h _)) rfl rfl <|
            .cons [34, 36, 28] [] (fun _ _ h => .valB hc26 (h _)) rfl rfl <|
            .cons [28, 37] [] (fun _ _ h => .brF (h _)) rfl rfl <|
            .cons [38] [] (fun _ _ h => .move (h _)) rfl rfl <|
            .cons [39] [] (fun _ _ h => .skip (h _)) rfl rfl <|
            .cons [39] [] (fun _ _ h => .skip (h _)) rfl rfl <|
            .cons [39] [] (fun _ _ h => .skip (h _)) rfl rfl <|
            .cons [39, 42] [] (fun _ _ h => .brT (h _)) rfl rfl <|
            .nil)
            (.nil)
            (by kernel_rfl) rfl (.cons rfl (.cons rfl (.cons rfl (.cons rfl (.cons rfl (.nil)))))) (.nil) (.cons rfl (.cons rfl (.cons rfl (.cons rfl (.nil))))) ?_
          exact ⟨_, (.inl ⟨rfl, h⟩), (imp_of (.cons rfl (.cons rfl (.cons rfl (.cons rfl (.cons rfl (.nil)))))) (.cons rfl (.cons rfl (.cons rfl (.cons rfl (.nil))))))⟩
        · replace h := (if_neg (nt hc26)).symm.trans h
          obtain ⟨y27, hy27, h⟩ := bindE h
          refine .draw [] [[], [], [], [], [], [], [], [], [], [], [], [], [], [], [], [], [], []] [[], [], [], [], [], [], [], [], [], [], [], [], [], [], [], [], [], []] [[]]
            [(0, 0), (1, 0), (2, 0), (3, 0), (4, 0), (5, 0), (6, 0), (7, 0), (8, 0), (9, 0), (10, 0), (11, 0), (12, 0), (13, 0), (14, 0), (15, 0), (16, 0), (17, 0)] [] 0
            [⟨[(26, .int .i64 y8.2), (27, .bool false), (28, .bool false), (29, .agg [.sl 73 .ro (y8.1.Choices.map pv73)]), (30, .ptr (.loc 4 5) 0), (31, .str y7.1.Role), (32, .ptr (.loc 4 5) 1), (33, .sl 71 .ro (y7.1.Set.map (PV.int .u64))), (34, .int .u64 y25), (35, .ptr (.loc 4 5) 2), (36, .int .u64 y7.1.Device), (37, .bool false), (38, .bool false), (39, .bool false), (40, .agg [.sl 73 .ro (y8.1.Choices.map pv73)]), (41, .bool y27), (42, .bool (!y27)), (43, .bool (!y27)), (3, .ptr (.loc 3 1) 0), (4, .ptr (.loc 4 4) 0), (5, .ptr (.loc 4 5) 0), (6, .ptr (.loc 5 6) 0), (7, .int .i64 y8.2)], [], [((.loc 3 1), [.sl 3 .ro (y7.2.L.map (PV.int .i64)), .int .i64 y7.2.At]), ((.loc 4 4), [.sl 73 .ro (y6.1.Choices.map pv73)]), ((.loc 4 5), [.str y7.1.Role, .sl 71 .ro (y7.1.Set.map (PV.int .u64)), .int .u64 y7.1.Device]), ((.loc 5 6), [.sl 73 .ro (y8.1.Choices.map pv73)])]⟩]
            [(3, .ptr (.loc 3 1) 0), (4, .ptr (.loc 4 4) 0), (5, .ptr (.loc 4 5) 0), (6, .ptr (.loc 5 6) 0), (7, .int .i64 y8.2)]
            (.cons [7] [] (fun _ _ h => .move (h _)) rfl rfl <|
            .cons [26] [] (fun _ _ h => .valB hc24 (h _)) rfl rfl <|
            .cons [27] [] (fun _ _ h => .move (h _)) rfl rfl <|
            .cons [6, 28] [] (fun _ _ h => .val (h _)) rfl rfl <|
            .cons [5, 28] [] (fun _ _ h => .val (h _)) rfl rfl <|
            .cons [30, 28] [] (fun _ _ h => .val (h _)) rfl rfl <|
            .cons [5, 28] [] (fun _ _ h => .val (h _)) rfl rfl <|
            .cons [32, 28] [] (fun _ _ h => .val (h _)) rfl rfl <|
            .cons [29, 31, 33, 28] [] (fun _ _ h => .cP (g50 hy25) (h _)) rfl rfl <|
            .cons [5, 28] [] (fun _ _ h => .val (h _)) rfl rfl <|
            .cons [35, 28] [] (fun _ _ h => .val (h _)) rfl rfl <|
            .cons [34, 36, 28] [] (fun _ _ h => .valB hc26 (h _)) rfl rfl <|
            .cons [28, 37] [] (fun _ _ h => .brF (h _)) rfl rfl <|
            .cons [38] [] (fun _ _ h => .move (h _)) rfl rfl <|
            .cons [6, 39] [] (fun _ _ h => .val (h _)) rfl rfl <|
            .cons [40, 39] [] (fun _ _ h => .cP (g45 hy27) (h _)) rfl rfl <|
            .cons [41, 39] [] (fun _ _ h => .val (h _)) rfl rfl <|
            .cons [39, 42] [] (fun _ _ h => .brF (h _)) rfl rfl <|
            .nil)
            (.nil)
            (by kernel_rfl) rfl (.cons rfl (.cons rfl (.cons rfl (.cons rfl (.cons rfl (.nil)))))) (.nil) (.cons rfl (.cons rfl (.cons rfl (.cons rfl (.nil))))) ?_
          exact ⟨_, (.inr (⟨_, rfl, h⟩)), (imp_of (.cons rfl (.cons rfl (.cons rfl (.cons rfl (.cons rfl (.nil)))))) (.cons rfl (.cons rfl (.cons rfl (.cons rfl (.nil))))))⟩
    · rintro T (⟨rfl, h⟩ | ⟨v22, rfl, h⟩)
      · subst hj21
        refine .condT ?_
        refine .seq ?_
        refine .region ?_
        refine .assign ?_
        refine .nil ?_
        cases h
        exact .ret (fin_gen0 none)
      · subst hj23
        refine .cond (fun hc28 => ?_) (fun hc28 => ?_)
        · replace h := (if_pos hc28).symm.trans h
          refine .seq ?_
          refine .region ?_
          refine .assign ?_
          refine .nil ?_
          cases h
          exact .ret (fin_gen0 none)
        · replace h := (if_neg (nt hc28)).symm.trans h
          refine .skip ?_
          obtain ⟨j113, hj113, h⟩ := joinE h
          refine .cutI (fun T => (T = St.of [] [] ∧ j113 () = some r)) ?_ ?_
          · refine .seq ?_
            refine .region ?_
            refine .assign ?_
            refine .nil ?_
            refine .block ?_
            refine .loopI (fun m T => ∃ (v140 : (List Int)) (v141 : Int) (v142 : Int), T = St.of [(3, .ptr (.loc 3 1) 0), (4, .ptr (.loc 4 4) 0), (5, .ptr (.loc 4 5) 0), (6, .ptr (.loc 5 6) 0), (8, .int .i64 v142)] [((.loc 3 1), [.sl 3 .ro (v140.map (PV.int .i64)), .int .i64 v141]), ((.loc 4 4), [.sl 73 .ro (y6.1.Choices.map pv73)]), ((.loc 4 5), [.str y7.1.Role, .sl 71 .ro (y7.1.Set.map (PV.int .u64)), .int .u64 y7.1.Device]), ((.loc 5 6), [.sl 73 .ro (y8.1.Choices.map pv73)])] ∧ f11_l1 n y6 y7 y8 j113 m v140 v141 v142 = some r) _ _ ⟨_, _, _, rfl, h⟩ (imp_of (.cons rfl (.cons rfl (.cons rfl (.cons rfl (.cons rfl (.nil)))))) (.cons rfl (.cons rfl (.cons rfl (.cons rfl (.nil)))))) ?_
            rintro m172 T ⟨v140, v141, v142, rfl, h⟩
            obtain _ | m172 := m172
            · rw [f11_l1] at h; cases h
            rw [f11_l1] at h
            refine .seq ?_
            refine .seq ?_
            refine .region ?_
            refine .move ?_
            refine .val ?_
            refine .nil ?_
            refine .cond (fun hc174 => ?_) (fun hc174 => ?_)
            · replace h := (if_pos hc174).symm.trans h
              refine .skip ?_
              obtain ⟨j199, hj199, h⟩ := joinE h
              refine .cutI (fun T => (∃ (v197 : (List Int)) (v198 : Int), T = St.of [(3, .ptr (.loc 3 1) 0), (4, .ptr (.loc 4 4) 0), (5, .ptr (.loc 4 5) 0), (6, .ptr (.loc 5 6) 0), (8, .int .i64 v142)] [((.loc 3 1), [.sl 3 .ro (v197.map (PV.int .i64)), .int .i64 v198]), ((.loc 4 4), [.sl 73 .ro (y6.1.Choices.map pv73)]), ((.loc 4 5), [.str y7.1.Role, .sl 71 .ro (y7.1.Set.map (PV.int .u64)), .int .u64 y7.1.Device]), ((.loc 5 6), [.sl 73 .ro (y8.1.Choices.map pv73)])] ∧ j199 v197 v198 = some r)) ?_ ?_
              · refine .block ?_
                refine .seq ?_
                refine .region ?_
                refine .move ?_
                obtain ⟨y200, hy200, h⟩ := bindE h
                refine .cH (.loc 3 1) (g56 hy200) ?_
                refine .move ?_
                obtain ⟨y201, hy201, h⟩ := bindE h
                refine .cH (.loc 3 1) (g57r hy201) ?_
                refine .assign ?_
                refine .assign ?_
                refine .nil ?_
                refine .seq ?_
                refine .region ?_
                refine .val (v := .agg [.sl 73 .ro (y8.1.Choices.map pv73)]) ?_
                refine .move ?_
                refine .move ?_
                obtain ⟨y202, hy202, h⟩ := bindE h
                refine .cP (g50 hy202) ?_
                refine .assign ?_
                refine .nil ?_
                obtain ⟨j215, hj215, h⟩ := joinE h
                refine .cutI (fun T => (T = St.of [(3, .ptr (.loc 3 1) 0), (4, .ptr (.loc 4 4) 0), (5, .ptr (.loc 4 5) 0), (6, .ptr (.loc 5 6) 0), (8, .int .i64 v142), (9, .str y200.1), (10, .sl 71 .ro (y201.1.map (PV.int .u64))), (11, .int .u64 y202)] [((.loc 3 1), [.sl 3 .ro (y201.2.L.map (PV.int .i64)), .int .i64 y201.2.At]), ((.loc 4 4), [.sl 73 .ro (y6.1.Choices.map pv73)]), ((.loc 4 5), [.str y7.1.Role, .sl 71 .ro (y7.1.Set.map (PV.int .u64)), .int .u64 y7.1.Device]), ((.loc 5 6), [.sl 73 .ro (y8.1.Choices.map pv73)])] ∧ j215 () = some r)) ?_ ?_
                · obtain ⟨j223, hj223, h⟩ := joinE h
                  obtain ⟨j225, hj225, h⟩ := joinE h
                  obtain ⟨j226, hj226, h⟩ := joinE h
                  refine .cutI (fun T => (T = St.of [(3, .ptr (.loc 3 1) 0), (4, .ptr (.loc 4 4) 0), (5, .ptr (.loc 4 5) 0), (6, .ptr (.loc 5 6) 0), (8, .int .i64 v142), (9, .str y200.1), (10, .sl 71 .ro (y201.1.map (PV.int .u64))), (11, .int .u64 y202), (77, .bool true)] [((.loc 3 1), [.sl 3 .ro (y201.2.L.map (PV.int .i64)), .int .i64 y201.2.At]), ((.loc 4 4), [.sl 73 .ro (y6.1.Choices.map pv73)]), ((.loc 4 5), [.str y7.1.Role, .sl 71 .ro (y7.1.Set.map (PV.int .u64)), .int .u64 y7.1.Device]), ((.loc 5 6), [.sl 73 .ro (y8.1.Choices.map pv73)])] ∧ j223 () = some r) ∨ (∃ (v224 : Bool), T = St.of [(3, .ptr (.loc 3 1) 0), (4, .ptr (.loc 4 4) 0), (5, .ptr (.loc 4 5) 0), (6, .ptr (.loc 5 6) 0), (8, .int .i64 v142), (9, .str y200.1), (10, .sl 71 .ro (y201.1.map (PV.int .u64))), (11, .int .u64 y202), (77, .bool v224)] [((.loc 3 1), [.sl 3 .ro (y201.2.L.map (PV.int .i64)), .int .i64 y201.2.At]), ((.loc 4 4), [.sl 73 .ro (y6.1.Choices.map pv73)]), ((.loc 4 5), [.str y7.1.Role, .sl 71 .ro (y7.1.Set.map (PV.int .u64)), .int .u64 y7.1.Device]), ((.loc 5 6), [.sl 73 .ro (y8.1.Choices.map pv73)])] ∧ j225 v224 = some r) ∨ (T = St.of [(3, .ptr (.loc 3 1) 0), (4, .ptr (.loc 4 4) 0), (5, .ptr (.loc 4 5) 0), (6, .ptr (.loc 5 6) 0), (8, .int .i64 v142), (9, .str y200.1), (10, .sl 71 .ro (y201.1.map (PV.int .u64))), (11, .int .u64 y202), (77, .bool false)] [((.loc 3 1), [.sl 3 .ro (y201.2.L.map (PV.int .i64)), .int .i64 y201.2.At]), ((.loc 4 4), [.sl 73 .ro (y6.1.Choices.map pv73)]), ((.loc 4 5), [.str y7.1.Role, .sl 71 .ro (y7.1.Set.map (PV.int .u64)), .int .u64 y7.1.Device]), ((.loc 5 6), [.sl 73 .ro (y8.1.Choices.map pv73)])] ∧ j226 () = some r)) ?_ ?_
                  · refine .region ?_
                    refine .move ?_
                    refine .val ?_
                    refine .move ?_
                    refine .caseG (fun hc227 => ?_) (fun hc227 => ?_)
                    · replace h := (if_pos hc227).symm.trans h
                      refine .move ?_
                      refine .move ?_
                      obtain ⟨y228, hy228, h⟩ := bindE h
                      refine .cP (g58 hy228) ?_
                      refine .val ?_
                      refine .brT ?_
                      refine .move ?_
                      refine .caseG (fun hc229 => ?_) (fun hc229 => ?_)
                      · replace h := (if_pos hc229).symm.trans h
                        refine .skip ?_
                        refine .skip ?_
                        refine .skip ?_
                        refine .skip ?_
                        refine .skip ?_
                        refine .skip ?_
                        refine .skip ?_
                        refine .skip ?_
                        refine .skip ?_
                        refine .skip ?_
                        refine .skip ?_
                        refine .skip ?_
                        refine .brT ?_
                        refine .nil ?_
                        exact ⟨_, (.inl ⟨rfl, h⟩), (imp_of (.cons rfl (.cons rfl (.cons rfl (.cons rfl (.cons rfl (.cons rfl (.cons rfl (.cons rfl (.cons rfl (.nil)))))))))) (.cons rfl (.cons rfl (.cons rfl (.cons rfl (.nil))))))⟩
                      · replace h := (if_neg (nt hc229)).symm.trans h
                        refine .move ?_
                        refine .val ?_
                        refine .val ?_
                        refine .val ?_
                        refine .move ?_
                        refine .caseG (fun hc230 => ?_) (fun hc230 => ?_)
                        · replace h := (if_pos hc230).symm.trans h
                          refine .move ?_
                          refine .val (v := .agg [.sl 73 .ro (y6.1.Choices.map pv73)]) ?_
                          refine .move ?_
                          refine .move ?_
                          obtain ⟨y231, hy231, h⟩ := bindE h
                          refine .cP (g50 hy231) ?_
                          refine .val ?_
                          refine .brT ?_
                          refine .brF ?_
                          refine .nil ?_
                          exact ⟨_, (.inr (.inl ⟨_, rfl, h⟩)), (imp_of (.cons rfl (.cons rfl (.cons rfl (.cons rfl (.cons rfl (.cons rfl (.cons rfl (.cons rfl (.cons rfl (.nil)))))))))) (.cons rfl (.cons rfl (.cons rfl (.cons rfl (.nil))))))⟩
                        · replace h := (if_neg (nt hc230)).symm.trans h
                          refine .skip ?_
                          refine .skip ?_
                          refine .skip ?_
                          refine .skip ?_
                          refine .skip ?_
                          refine .skip ?_
                          refine .brF ?_
                          refine .brF ?_
                          refine .nil ?_
                          exact ⟨_, (.inr (.inr (⟨rfl, h⟩))), (imp_of (.cons rfl (.cons rfl (.cons rfl (.cons rfl (.cons rfl (.cons rfl (.cons rfl (.cons rfl (.cons rfl (.nil)))))))))) (.cons rfl (.cons rfl (.cons rfl (.cons rfl (.nil))))))⟩
                    · replace h := (if_neg (nt hc227)).symm.trans h
                      refine .skip ?_
                      refine .skip ?_
                      refine .skip ?_
                      refine .skip ?_
                      refine .brF ?_
                      refine .move ?_
                      refine .move ?_
                      refine .val ?_
                      refine .val ?_
                      refine .val ?_
                      refine .move ?_
                      refine .caseG (fun hc232 => ?_) (fun hc232 => ?_)
                      · replace h := (if_pos hc232).symm.trans h
                        refine .move ?_
                        refine .val (v := .agg [.sl 73 .ro (y6.1.Choices.map pv73)]) ?_
                        refine .move ?_
                        refine .move ?_
                        obtain ⟨y233, hy233, h⟩ := bindE h
                        refine .cP (g50 hy233) ?_
                        refine .val ?_
                        refine .brT ?_
                        refine .brF ?_
                        refine .nil ?_
                        exact ⟨_, (.inr (.inl ⟨_, rfl, h⟩)), (imp_of (.cons rfl (.cons rfl (.cons rfl (.cons rfl (.cons rfl (.cons rfl (.cons rfl (.cons rfl (.cons rfl (.nil)))))))))) (.cons rfl (.cons rfl (.cons rfl (.cons rfl (.nil))))))⟩
                      · replace h := (if_neg (nt hc232)).symm.trans h
                        refine .skip ?_
                        refine .skip ?_
                        refine .skip ?_
                        refine .skip ?_
                        refine .skip ?_
                        refine .skip ?_
                        refine .brF ?_
                        refine .brF ?_
                        refine .nil ?_
                        exact ⟨_, (.inr (.inr (⟨rfl, h⟩))), (imp_of (.cons rfl (.cons rfl (.cons rfl (.cons rfl (.cons rfl (.cons rfl (.cons rfl (.cons rfl (.cons rfl (.nil)))))))))) (.cons rfl (.cons rfl (.cons rfl (.cons rfl (.nil))))))⟩
                  · rintro T (⟨rfl, h⟩ | ⟨v224, rfl, h⟩ | ⟨rfl, h⟩)
                    · subst hj223
                      refine .condT ?_
                      refine .seq ?_
                      refine .region ?_
                      refine .assign ?_
                      refine .nil ?_
                      cases h
                      exact .ret (fin_gen0 none)
                    · subst hj225
                      refine .cond (fun hc234 => ?_) (fun hc234 => ?_)
                      · replace h := (if_pos hc234).symm.trans h
                        refine .seq ?_
                        refine .region ?_
                        refine .assign ?_
                        refine .nil ?_
                        cases h
                        exact .ret (fin_gen0 none)
                      · replace h := (if_neg (nt hc234)).symm.trans h
                        refine .skip ?_
                        exact ⟨_, ⟨rfl, h⟩, (imp_of (.cons rfl (.cons rfl (.cons rfl (.cons rfl (.cons rfl (.cons rfl (.cons rfl (.cons rfl (.nil))))))))) (.cons rfl (.cons rfl (.cons rfl (.cons rfl (.nil))))))⟩
                    · subst hj226
                      refine .condF ?_
                      refine .skip ?_
                      exact ⟨_, ⟨rfl, h⟩, (imp_of (.cons rfl (.cons rfl (.cons rfl (.cons rfl (.cons rfl (.cons rfl (.cons rfl (.cons rfl (.nil))))))))) (.cons rfl (.cons rfl (.cons rfl (.cons rfl (.nil))))))⟩
                · rintro T ⟨rfl, h⟩
                  subst hj215
                  obtain ⟨j238, hj238, h⟩ := joinE h
                  obtain ⟨j239, hj239, h⟩ := joinE h
                  refine .cutI (fun T => (T = St.of [(3, .ptr (.loc 3 1) 0), (4, .ptr (.loc 4 4) 0), (5, .ptr (.loc 4 5) 0), (6, .ptr (.loc 5 6) 0), (8, .int .i64 v142), (89, .bool (y202 != (0 : Int)))] [((.loc 3 1), [.sl 3 .ro (y201.2.L.map (PV.int .i64)), .int .i64 y201.2.At]), ((.loc 4 4), [.sl 73 .ro (y6.1.Choices.map pv73)]), ((.loc 4 5), [.str y7.1.Role, .sl 71 .ro (y7.1.Set.map (PV.int .u64)), .int .u64 y7.1.Device]), ((.loc 5 6), [.sl 73 .ro (y8.1.Choices.map pv73)])] ∧ j238 () = some r) ∨ (T = St.of [(3, .ptr (.loc 3 1) 0), (4, .ptr (.loc 4 4) 0), (5, .ptr (.loc 4 5) 0), (6, .ptr (.loc 5 6) 0), (8, .int .i64 v142), (89, .bool false)] [((.loc 3 1), [.sl 3 .ro (y201.2.L.map (PV.int .i64)), .int .i64 y201.2.At]), ((.loc 4 4), [.sl 73 .ro (y6.1.Choices.map pv73)]), ((.loc 4 5), [.str y7.1.Role, .sl 71 .ro (y7.1.Set.map (PV.int .u64)), .int .u64 y7.1.Device]), ((.loc 5 6), [.sl 73 .ro (y8.1.Choices.map pv73)])] ∧ j239 () = some r)) ?_ ?_
                  · refine .region ?_
                    refine .val (v := .agg [.sl 73 .ro (y8.1.Choices.map pv73)]) ?_
                    refine .move ?_
                    obtain ⟨y240, hy240, h⟩ := bindE h
                    refine .cP (g59 hy240) ?_
                    refine .move ?_
                    refine .move ?_
                    obtain ⟨y241, hy241, h⟩ := bindE h
                    refine .cP (g50 hy241) ?_
                    refine .move ?_
                    refine .val ?_
                    refine .move ?_
                    refine .caseG (fun hc242 => ?_) (fun hc242 => ?_)
                    · replace h := (if_pos hc242).symm.trans h
                      refine .move ?_
                      refine .val ?_
                      refine .brT ?_
                      refine .nil ?_
                      exact ⟨_, (.inl ⟨rfl, h⟩), (imp_of (.cons rfl (.cons rfl (.cons rfl (.cons rfl (.cons rfl (.cons rfl (.nil))))))) (.cons rfl (.cons rfl (.cons rfl (.cons rfl (.nil))))))⟩
                    · replace h := (if_neg (nt hc242)).symm.trans h
                      refine .skip ?_
                      refine .skip ?_
                      refine .brF ?_
                      refine .nil ?_
                      exact ⟨_, (.inr (⟨rfl, h⟩)), (imp_of (.cons rfl (.cons rfl (.cons rfl (.cons rfl (.cons rfl (.cons rfl (.nil))))))) (.cons rfl (.cons rfl (.cons rfl (.cons rfl (.nil))))))⟩
                  · rintro T (⟨rfl, h⟩ | ⟨rfl, h⟩)
                    · subst hj238
                      refine .cond (fun hc243 => ?_) (fun hc243 => ?_)
                      · replace h := (if_pos hc243).symm.trans h
                        refine .seq ?_
                        refine .region ?_
                        refine .assign ?_
                        refine .nil ?_
                        cases h
                        exact .ret (fin_gen0 none)
                      · replace h := (if_neg (nt hc243)).symm.trans h
                        refine .skip ?_
                        exact ⟨_, ⟨_, _, rfl, h⟩, (imp_of (.cons rfl (.cons rfl (.cons rfl (.cons rfl (.cons rfl (.nil)))))) (.cons rfl (.cons rfl (.cons rfl (.cons rfl (.nil))))))⟩
                    · subst hj239
                      refine .condF ?_
                      refine .skip ?_
                      exact ⟨_, ⟨_, _, rfl, h⟩, (imp_of (.cons rfl (.cons rfl (.cons rfl (.cons rfl (.cons rfl (.nil)))))) (.cons rfl (.cons rfl (.cons rfl (.cons rfl (.nil))))))⟩
              · rintro T ⟨v197, v198, rfl, h⟩
                subst hj199
                refine .region ?_
                refine .move ?_
                refine .val ?_
                refine .assign ?_
                refine .nil ?_
                exact ⟨m172, _, Nat.lt_succ_self m172, ⟨_, _, _, rfl, h⟩, (imp_of (.cons rfl (.cons rfl (.cons rfl (.cons rfl (.cons rfl (.nil)))))) (.cons rfl (.cons rfl (.cons rfl (.cons rfl (.nil))))))⟩
            · replace h := (if_neg (nt hc174)).symm.trans h
              refine .exit (.hit ?_)
              exact ⟨_, ⟨rfl, h⟩, (imp_of (.nil) (.nil))⟩
          · rintro T ⟨rfl, h⟩
            subst hj113
            refine .seq ?_
            refine .region ?_
            refine .assign ?_
            refine .nil ?_
            cases h
            exact .ret (fin_gen0 none)
end Go.Proofs.Ytacdknbakjbpiaa
