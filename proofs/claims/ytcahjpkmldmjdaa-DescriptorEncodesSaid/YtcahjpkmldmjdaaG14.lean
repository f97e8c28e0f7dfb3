/-
  Plain functions of soundservicelaw11, and that the code does what they say.
-/
import Derived.Test.YtcahjpkmldmjdaaGh
namespace Go.Proofs.Ytcahjpkmldmjdaa
open Go Ab
/- soundservice/soundservicelaw11.DescriptorEncodes -/
def f14_l1 (n : Nat) (a0 : Descriptor) (j54 : Unit → Option Bool) (y56 : Descriptor) : Nat → Int → Option Bool
  | 0, _ => none
  | m81 + 1, v68 =>
    if decide (v68 < (([(⟨a0.ID, a0.Name, a0.Direction, a0.Domain, a0.Latency, a0.Drift, a0.Jitter, a0.Boxes⟩ : Descriptor), y56] : List Descriptor).length : Int)) then (
    (lAt ([(⟨a0.ID, a0.Name, a0.Direction, a0.Domain, a0.Latency, a0.Drift, a0.Jitter, a0.Boxes⟩ : Descriptor), y56] : List Descriptor) v68).bind fun x94 =>
    (f39 n (⟨x94.ID, x94.Name, x94.Direction, x94.Domain, x94.Latency, x94.Drift, x94.Jitter, x94.Boxes⟩ : Descriptor)).bind fun y95 =>
    (f55 n (⟨x94.ID, x94.Name, x94.Direction, x94.Domain, x94.Latency, x94.Drift, x94.Jitter, x94.Boxes⟩ : Descriptor)).bind fun y96 =>
    joinK (fun (_ : Unit) =>
    some false) fun j101 =>
    joinK (fun (_ : Unit) =>
    if (y95.2 != y96.2) then (
    some false)
    else (
    f14_l1 n a0 j54 y56 m81 (w64 (v68 + (1 : Int))))) fun j102 =>
    (f56 n (⟨x94.ID, x94.Name, x94.Direction, x94.Domain, x94.Latency, x94.Drift, x94.Jitter, x94.Boxes⟩ : Descriptor)).bind fun y103 =>
    (f57 n (⟨x94.ID, x94.Name, x94.Direction, x94.Domain, x94.Latency, x94.Drift, x94.Jitter, x94.Boxes⟩ : Descriptor)).bind fun y104 =>
    if !(y103 == y104) then (
    j101 ())
    else (
    if !(sEq (mkStr y95.1) (mkStr y96.1)) then (
    j101 ())
    else (
    j102 ())))
    else (
    j54 ())
def f14 (n : Nat) (a0 : Descriptor) (a1 : (List Int)) (a2 : Int) (a3 : Int) : Option Bool :=
  (f38 n ).bind fun y3 =>
  if !y3 then (
  some false)
  else (
  joinK (fun (_ : Unit) =>
  some true) fun j12 =>
  joinK (fun (_ : Unit) =>
  if decide ((a0.Name.size : Int) > (200 : Int)) then (
  some true)
  else (
  joinK (fun (_ : Unit) =>
  some true) fun j54 =>
  (f40 n a1).bind fun y55 =>
  (f54 n (⟨y55.ID, y55.Name, y55.Direction, y55.Domain, y55.Latency, y55.Drift, y55.Jitter, y55.Boxes⟩ : Descriptor) a2 a3).bind fun y56 =>
  f14_l1 n a0 j54 y56 n 0)) fun j13 =>
  (f53 n a0.Boxes (10 : Int)).bind fun y14 =>
  if !y14 then (
  j12 ())
  else (
  j13 ()))
set_option maxHeartbeats 4000000 in
set_option maxRecDepth 100000 in
theorem g14 {n : Nat} {a0 : Descriptor} {a1 : (List Int)} {a2 : Int} {a3 : Int} {r : Bool} (h : f14 n a0 a1 a2 a3 = some r) :
    Ab.Can Try.prog 14 [.agg [.int .u64 a0.ID, .str a0.Name, .int .i64 a0.Direction, .int .i64 a0.Domain, .int .i64 a0.Latency, .int .i64 a0.Drift, .int .i64 a0.Jitter, .sl 94 .ro (a0.Boxes.map pv94)], .sl 5 .ro (a1.map (PV.int .u8)), .int .u8 a2, .int .u8 a3] H0 (.bool r) H0 := by
  refine can_of tabOK mix Try.call14 Try.func14 rfl (by kernel_rfl) (by show _ ≤ 67; simp) fun _ => ?_
  rw [f14] at h
  refine .seq ?_
  refine .region ?_
  refine .boxL (cs := [.int .u64 a0.ID, .str a0.Name, .int .i64 a0.Direction, .int .i64 a0.Domain, .int .i64 a0.Latency, .int .i64 a0.Drift, .int .i64 a0.Jitter, .sl 94 .ro (a0.Boxes.map pv94)]) ?_
  refine .assign ?_
  refine .nil ?_
  refine .seq ?_
  refine .seq ?_
  refine .region ?_
  obtain ⟨y3, hy3, h⟩ := bindE h
  refine .cP (g38 hy3) ?_
  refine .val ?_
  refine .nil ?_
  refine .cond (fun hc4 => ?_) (fun hc4 => ?_)
  · replace h := (if_pos hc4).symm.trans h
    refine .seq ?_
    refine .region ?_
    refine .assign ?_
    refine .nil ?_
    cases h
    exact .ret (fin_gen0 none)
  · replace h := (if_neg (nt hc4)).symm.trans h
    refine .skip ?_
    refine .seq ?_
    obtain ⟨j12, hj12, h⟩ := joinE h
    obtain ⟨j13, hj13, h⟩ := joinE h
    refine .cutI (fun T => (T = St.of [(1, .sl 5 .ro (a1.map (PV.int .u8))), (2, .int .u8 a2), (3, .int .u8 a3), (4, .ptr (.loc 0 0) 0), (26, .bool true)] [((.loc 0 0), [.int .u64 a0.ID, .str a0.Name, .int .i64 a0.Direction, .int .i64 a0.Domain, .int .i64 a0.Latency, .int .i64 a0.Drift, .int .i64 a0.Jitter, .sl 94 .ro (a0.Boxes.map pv94)])] ∧ j12 () = some r) ∨ (T = St.of [(1, .sl 5 .ro (a1.map (PV.int .u8))), (2, .int .u8 a2), (3, .int .u8 a3), (4, .ptr (.loc 0 0) 0), (26, .bool (decide ((a0.Name.size : Int) > (200 : Int))))] [((.loc 0 0), [.int .u64 a0.ID, .str a0.Name, .int .i64 a0.Direction, .int .i64 a0.Domain, .int .i64 a0.Latency, .int .i64 a0.Drift, .int .i64 a0.Jitter, .sl 94 .ro (a0.Boxes.map pv94)])] ∧ j13 () = some r)) ?_ ?_
    · refine .region ?_
      refine .val ?_
      refine .val ?_
      obtain ⟨y14, hy14, h⟩ := bindE h
      refine .cP (g53 hy14) ?_
      refine .val ?_
      refine .move ?_
      refine .caseG (fun hc15 => ?_) (fun hc15 => ?_)
      · replace h := (if_pos hc15).symm.trans h
        refine .skip ?_
        refine .skip ?_
        refine .skip ?_
        refine .skip ?_
        refine .brT ?_
        refine .nil ?_
        exact ⟨_, (.inl ⟨rfl, h⟩), (imp_of (.cons rfl (.cons rfl (.cons rfl (.cons rfl (.cons rfl (.nil)))))) (.cons rfl (.nil)))⟩
      · replace h := (if_neg (nt hc15)).symm.trans h
        refine .val ?_
        refine .val ?_
        refine .val ?_
        refine .val ?_
        refine .brF ?_
        refine .nil ?_
        exact ⟨_, (.inr (⟨rfl, h⟩)), (imp_of (.cons rfl (.cons rfl (.cons rfl (.cons rfl (.cons rfl (.nil)))))) (.cons rfl (.nil)))⟩
    · rintro T (⟨rfl, h⟩ | ⟨rfl, h⟩)
      · subst hj12
        refine .condT ?_
        refine .seq ?_
        refine .region ?_
        refine .assign ?_
        refine .nil ?_
        cases h
        exact .ret (fin_gen0 none)
      · subst hj13
        refine .cond (fun hc16 => ?_) (fun hc16 => ?_)
        · replace h := (if_pos hc16).symm.trans h
          refine .seq ?_
          refine .region ?_
          refine .assign ?_
          refine .nil ?_
          cases h
          exact .ret (fin_gen0 none)
        · replace h := (if_neg (nt hc16)).symm.trans h
          refine .skip ?_
          obtain ⟨j54, hj54, h⟩ := joinE h
          refine .cutI (fun T => (T = St.of [] [] ∧ j54 () = some r)) ?_ ?_
          · refine .seq ?_
            obtain ⟨y55, hy55, h⟩ := bindE h
            obtain ⟨y56, hy56, h⟩ := bindE h
            refine .draw [2, 5] [[], [], [], [], [], [2], [2, 5], [2, 5], []] [[], [2, 5], [5], [5], [5], [], [], [], []] [[], [2], [2, 5]]
              [(0, 0), (0, 1), (0, 2), (1, 0), (3, 0), (3, 1), (4, 0), (4, 1), (6, 2), (7, 2), (8, 0), (8, 1), (8, 2)] [(0, 2, 1), (1, 5, 2)] 2
              [⟨[(27, .agg [.int .u64 a0.ID, .str a0.Name, .int .i64 a0.Direction, .int .i64 a0.Domain, .int .i64 a0.Latency, .int .i64 a0.Drift, .int .i64 a0.Jitter, .sl 94 .ro (a0.Boxes.map pv94)]), (28, .sl 5 .ro (a1.map (PV.int .u8))), (30, .int .u8 a2), (31, .int .u8 a3), (35, .int .i64 0), (1, .sl 5 .ro (a1.map (PV.int .u8))), (2, .int .u8 a2), (3, .int .u8 a3), (4, .ptr (.loc 0 0) 0)], [], [((.loc 0 0), [.int .u64 a0.ID, .str a0.Name, .int .i64 a0.Direction, .int .i64 a0.Domain, .int .i64 a0.Latency, .int .i64 a0.Drift, .int .i64 a0.Jitter, .sl 94 .ro (a0.Boxes.map pv94)])]⟩,
              ⟨[(27, .agg [.int .u64 a0.ID, .str a0.Name, .int .i64 a0.Direction, .int .i64 a0.Domain, .int .i64 a0.Latency, .int .i64 a0.Drift, .int .i64 a0.Jitter, .sl 94 .ro (a0.Boxes.map pv94)]), (28, .sl 5 .ro (a1.map (PV.int .u8))), (29, .agg [.int .u64 y55.ID, .str y55.Name, .int .i64 y55.Direction, .int .i64 y55.Domain, .int .i64 y55.Latency, .int .i64 y55.Drift, .int .i64 y55.Jitter, .sl 94 (.own (.row 5 2)) (y55.Boxes.map pv94)]), (30, .int .u8 a2), (31, .int .u8 a3), (35, .int .i64 0), (1, .sl 5 .ro (a1.map (PV.int .u8))), (2, .int .u8 a2), (3, .int .u8 a3), (4, .ptr (.loc 0 0) 0)], [], [((.loc 0 0), [.int .u64 a0.ID, .str a0.Name, .int .i64 a0.Direction, .int .i64 a0.Domain, .int .i64 a0.Latency, .int .i64 a0.Drift, .int .i64 a0.Jitter, .sl 94 .ro (a0.Boxes.map pv94)])]⟩,
              ⟨[(27, .agg [.int .u64 a0.ID, .str a0.Name, .int .i64 a0.Direction, .int .i64 a0.Domain, .int .i64 a0.Latency, .int .i64 a0.Drift, .int .i64 a0.Jitter, .sl 94 .ro (a0.Boxes.map pv94)]), (28, .sl 5 .ro (a1.map (PV.int .u8))), (29, .agg [.int .u64 y55.ID, .str y55.Name, .int .i64 y55.Direction, .int .i64 y55.Domain, .int .i64 y55.Latency, .int .i64 y55.Drift, .int .i64 y55.Jitter, .dead]), (30, .int .u8 a2), (31, .int .u8 a3), (32, .agg [.int .u64 y56.ID, .str y56.Name, .int .i64 y56.Direction, .int .i64 y56.Domain, .int .i64 y56.Latency, .int .i64 y56.Drift, .int .i64 y56.Jitter, .sl 94 .ro (y56.Boxes.map pv94)]), (33, .sl 53 .ro (([(⟨a0.ID, a0.Name, a0.Direction, a0.Domain, a0.Latency, a0.Drift, a0.Jitter, a0.Boxes⟩ : Descriptor), y56] : List Descriptor).map pv53)), (34, .int .i64 (([(⟨a0.ID, a0.Name, a0.Direction, a0.Domain, a0.Latency, a0.Drift, a0.Jitter, a0.Boxes⟩ : Descriptor), y56] : List Descriptor).length : Int)), (35, .int .i64 0), (1, .sl 5 .ro (a1.map (PV.int .u8))), (2, .int .u8 a2), (3, .int .u8 a3), (4, .ptr (.loc 0 0) 0)], [], [((.loc 0 0), [.int .u64 a0.ID, .str a0.Name, .int .i64 a0.Direction, .int .i64 a0.Domain, .int .i64 a0.Latency, .int .i64 a0.Drift, .int .i64 a0.Jitter, .sl 94 .ro (a0.Boxes.map pv94)])]⟩]
              [(1, .sl 5 .ro (a1.map (PV.int .u8))), (2, .int .u8 a2), (3, .int .u8 a3), (4, .ptr (.loc 0 0) 0)]
              (.cons [4] [] (fun _ _ h => .val (h _)) rfl rfl <|
              .cons [4] [] (fun _ _ h => .val (h _)) rfl rfl <|
              .cons [4] [] (fun _ _ h => .val (h _)) rfl rfl <|
              .cons [1] [] (fun _ _ h => .move (h _)) rfl rfl <|
              .cons [2] [] (fun _ _ h => .move (h _)) rfl rfl <|
              .cons [2] [] (fun _ _ h => .move (h _)) rfl rfl <|
              .cons [3] [] (fun _ _ h => .move (h _)) rfl rfl <|
              .cons [3] [] (fun _ _ h => .move (h _)) rfl rfl <|
              .cons [27, 32] [] (fun _ _ h => .litR (f := pv53) ([(⟨a0.ID, a0.Name, a0.Direction, a0.Domain, a0.Latency, a0.Drift, a0.Jitter, a0.Boxes⟩ : Descriptor), y56] : List Descriptor) (h _)) rfl rfl <|
              .cons [33] [] (fun _ _ h => .lenL (f := pv53) (h _)) rfl rfl <|
              .cons [] [] (fun _ _ h => .move (h _)) rfl rfl <|
              .cons [] [] (fun _ _ h => .move (h _)) rfl rfl <|
              .cons [] [] (fun _ _ h => .move (h _)) rfl rfl <|
              .nil)
              (.cons (PV.sub (frzKill [] (.row 5 2))) [28] [] (fun _ _ h => .cO (.row 5 2) (g40 hy55) (u := .agg [.int .u64 y55.ID, .str y55.Name, .int .i64 y55.Direction, .int .i64 y55.Domain, .int .i64 y55.Latency, .int .i64 y55.Drift, .int .i64 y55.Jitter, .sl 94 (.own (.row 5 2)) (y55.Boxes.map pv94)]) (h _ _ (.cons rfl (.nil)))) rfl (.old rfl (.old rfl (.new rfl (.old rfl (.old rfl (.old rfl (.old rfl (.old rfl (.old rfl (.old rfl (.nil))))))))))) rfl rfl <|
              .cons (PV.sub (oneSub (.row 5 2) .kill)) [29, 30, 31] [] (fun _ _ h => .cR (.row 5 2) (g54 hy56) (h _ _ (.cons rfl (.nil)))) rfl (.old rfl (.old rfl (.old rfl (.old rfl (.old rfl (.new rfl (.new rfl (.new rfl (.old rfl (.old rfl (.old rfl (.old rfl (.old rfl (.nil)))))))))))))) rfl rfl <|
              .nil)
              (by kernel_rfl) rfl (.cons rfl (.cons rfl (.cons rfl (.cons rfl (.nil))))) (.nil) (.cons rfl (.nil)) ?_
            refine .imp (T := St.of [(33, .sl 53 .ro (([(⟨a0.ID, a0.Name, a0.Direction, a0.Domain, a0.Latency, a0.Drift, a0.Jitter, a0.Boxes⟩ : Descriptor), y56] : List Descriptor).map pv53)), (34, .int .i64 (([(⟨a0.ID, a0.Name, a0.Direction, a0.Domain, a0.Latency, a0.Drift, a0.Jitter, a0.Boxes⟩ : Descriptor), y56] : List Descriptor).length : Int)), (35, .int .i64 0)] []) (imp_of (.cons rfl (.cons rfl (.cons rfl (.nil)))) (.nil)) ?_
            refine .block ?_
            refine .loopI (fun m T => ∃ (v68 : Int), T = St.of [(33, .sl 53 .ro (([(⟨a0.ID, a0.Name, a0.Direction, a0.Domain, a0.Latency, a0.Drift, a0.Jitter, a0.Boxes⟩ : Descriptor), y56] : List Descriptor).map pv53)), (34, .int .i64 (([(⟨a0.ID, a0.Name, a0.Direction, a0.Domain, a0.Latency, a0.Drift, a0.Jitter, a0.Boxes⟩ : Descriptor), y56] : List Descriptor).length : Int)), (35, .int .i64 v68)] [] ∧ f14_l1 n a0 j54 y56 m v68 = some r) _ _ ⟨_, rfl, h⟩ (imp_of (.cons rfl (.cons rfl (.cons rfl (.nil)))) (.nil)) ?_
            rintro m81 T ⟨v68, rfl, h⟩
            obtain _ | m81 := m81
            · rw [f14_l1] at h; cases h
            rw [f14_l1] at h
            refine .seq ?_
            refine .region ?_
            refine .val ?_
            refine .nil ?_
            refine .seq ?_
            refine .cond (fun hc83 => ?_) (fun hc83 => ?_)
            · replace h := (if_pos hc83).symm.trans h
              refine .skip ?_
              refine .seq ?_
              refine .block ?_
              refine .seq ?_
              refine .region ?_
              obtain ⟨x94, hx94, h⟩ := bindE h
              refine .idxL (f := pv53) hx94 ?_
              refine .ldL hx94 (y := .agg [.int .u64 x94.ID, .str x94.Name, .int .i64 x94.Direction, .int .i64 x94.Domain, .int .i64 x94.Latency, .int .i64 x94.Drift, .int .i64 x94.Jitter, .sl 94 .ro (x94.Boxes.map pv94)]) ?_
              refine .allocL (cs := [.int .u64 0, .str (⟨#[]⟩ : ByteArray), .int .i64 0, .int .i64 0, .int .i64 0, .int .i64 0, .int .i64 0, .sl 94 .full []]) ?_
              refine .wrL (cs := [.int .u64 x94.ID, .str x94.Name, .int .i64 x94.Direction, .int .i64 x94.Domain, .int .i64 x94.Latency, .int .i64 x94.Drift, .int .i64 x94.Jitter, .sl 94 .ro (x94.Boxes.map pv94)]) ?_
              refine .nil ?_
              refine .seq ?_
              refine .region ?_
              refine .val (v := .agg [.int .u64 x94.ID, .str x94.Name, .int .i64 x94.Direction, .int .i64 x94.Domain, .int .i64 x94.Latency, .int .i64 x94.Drift, .int .i64 x94.Jitter, .sl 94 .ro (x94.Boxes.map pv94)]) ?_
              obtain ⟨y95, hy95, h⟩ := bindE h
              refine .cP (g39r hy95) ?_
              refine .move ?_
              refine .val ?_
              refine .val ?_
              refine .assign ?_
              refine .assign ?_
              refine .nil ?_
              refine .seq ?_
              refine .region ?_
              refine .val (v := .agg [.int .u64 x94.ID, .str x94.Name, .int .i64 x94.Direction, .int .i64 x94.Domain, .int .i64 x94.Latency, .int .i64 x94.Drift, .int .i64 x94.Jitter, .sl 94 .ro (x94.Boxes.map pv94)]) ?_
              obtain ⟨y96, hy96, h⟩ := bindE h
              refine .cP (g55r hy96) ?_
              refine .move ?_
              refine .val ?_
              refine .val ?_
              refine .assign ?_
              refine .assign ?_
              refine .nil ?_
              obtain ⟨j101, hj101, h⟩ := joinE h
              obtain ⟨j102, hj102, h⟩ := joinE h
              refine .cutI (fun T => (T = St.of [(33, .sl 53 .ro (([(⟨a0.ID, a0.Name, a0.Direction, a0.Domain, a0.Latency, a0.Drift, a0.Jitter, a0.Boxes⟩ : Descriptor), y56] : List Descriptor).map pv53)), (34, .int .i64 (([(⟨a0.ID, a0.Name, a0.Direction, a0.Domain, a0.Latency, a0.Drift, a0.Jitter, a0.Boxes⟩ : Descriptor), y56] : List Descriptor).length : Int)), (35, .int .i64 v68), (65, .bool true)] [] ∧ j101 () = some r) ∨ (T = St.of [(33, .sl 53 .ro (([(⟨a0.ID, a0.Name, a0.Direction, a0.Domain, a0.Latency, a0.Drift, a0.Jitter, a0.Boxes⟩ : Descriptor), y56] : List Descriptor).map pv53)), (34, .int .i64 (([(⟨a0.ID, a0.Name, a0.Direction, a0.Domain, a0.Latency, a0.Drift, a0.Jitter, a0.Boxes⟩ : Descriptor), y56] : List Descriptor).length : Int)), (35, .int .i64 v68), (65, .bool (y95.2 != y96.2))] [] ∧ j102 () = some r)) ?_ ?_
              · obtain ⟨y103, hy103, h⟩ := bindE h
                obtain ⟨y104, hy104, h⟩ := bindE h
                rcases bool_em (!(y103 == y104)) with hc105 | hc105
                · replace h := (if_pos hc105).symm.trans h
                  refine .draw [] [[], [], [], [], [], [], [], [], [], [], [], [], [], [], [], [], []] [[], [], [], [], [], [], [], [], [], [], [], [], [], [], [], [], []] [[]]
                    [(0, 0), (1, 0), (2, 0), (3, 0), (4, 0), (5, 0), (6, 0), (7, 0), (8, 0), (9, 0), (10, 0), (11, 0), (12, 0), (13, 0), (14, 0), (15, 0), (16, 0)] [] 0
                    [⟨[(49, .agg [.int .u64 x94.ID, .str x94.Name, .int .i64 x94.Direction, .int .i64 x94.Domain, .int .i64 x94.Latency, .int .i64 x94.Drift, .int .i64 x94.Jitter, .sl 94 .ro (x94.Boxes.map pv94)]), (50, .bool y103), (51, .agg [.int .u64 x94.ID, .str x94.Name, .int .i64 x94.Direction, .int .i64 x94.Domain, .int .i64 x94.Latency, .int .i64 x94.Drift, .int .i64 x94.Jitter, .sl 94 .ro (x94.Boxes.map pv94)]), (52, .bool y104), (53, .bool true), (54, .bool true), (55, .tup []), (56, .tup []), (57, .tup []), (58, .tup []), (59, .tup []), (60, .bool true), (61, .bool true), (62, .tup []), (63, .tup []), (64, .tup []), (65, .bool true), (10, .ptr (.loc 7 2) 0), (11, .sl 5 .ro (y95.1.map (PV.int .u8))), (12, .int .i64 y95.2), (13, .sl 5 .ro (y96.1.map (PV.int .u8))), (14, .int .i64 y96.2), (33, .sl 53 .ro (([(⟨a0.ID, a0.Name, a0.Direction, a0.Domain, a0.Latency, a0.Drift, a0.Jitter, a0.Boxes⟩ : Descriptor), y56] : List Descriptor).map pv53)), (34, .int .i64 (([(⟨a0.ID, a0.Name, a0.Direction, a0.Domain, a0.Latency, a0.Drift, a0.Jitter, a0.Boxes⟩ : Descriptor), y56] : List Descriptor).length : Int)), (35, .int .i64 v68)], [], [((.loc 7 2), [.int .u64 x94.ID, .str x94.Name, .int .i64 x94.Direction, .int .i64 x94.Domain, .int .i64 x94.Latency, .int .i64 x94.Drift, .int .i64 x94.Jitter, .sl 94 .ro (x94.Boxes.map pv94)])]⟩]
                    [(10, .ptr (.loc 7 2) 0), (11, .sl 5 .ro (y95.1.map (PV.int .u8))), (12, .int .i64 y95.2), (13, .sl 5 .ro (y96.1.map (PV.int .u8))), (14, .int .i64 y96.2), (33, .sl 53 .ro (([(⟨a0.ID, a0.Name, a0.Direction, a0.Domain, a0.Latency, a0.Drift, a0.Jitter, a0.Boxes⟩ : Descriptor), y56] : List Descriptor).map pv53)), (34, .int .i64 (([(⟨a0.ID, a0.Name, a0.Direction, a0.Domain, a0.Latency, a0.Drift, a0.Jitter, a0.Boxes⟩ : Descriptor), y56] : List Descriptor).length : Int)), (35, .int .i64 v68)]
                    (.cons [10] [] (fun _ _ h => .val (h _)) rfl rfl <|
                    .cons [49] [] (fun _ _ h => .cP (g56 hy103) (h _)) rfl rfl <|
                    .cons [10] [] (fun _ _ h => .val (h _)) rfl rfl <|
                    .cons [51] [] (fun _ _ h => .cP (g57 hy104) (h _)) rfl rfl <|
                    .cons [50, 52] [] (fun _ _ h => .valB hc105 (h _)) rfl rfl <|
                    .cons [53] [] (fun _ _ h => .move (h _)) rfl rfl <|
                    .cons [54] [] (fun _ _ h => .skip (h _)) rfl rfl <|
                    .cons [54] [] (fun _ _ h => .skip (h _)) rfl rfl <|
                    .cons [54] [] (fun _ _ h => .skip (h _)) rfl rfl <|
                    .cons [54] [] (fun _ _ h => .skip (h _)) rfl rfl <|
                    .cons [54] [] (fun _ _ h => .skip (h _)) rfl rfl <|
                    .cons [54, 59] [] (fun _ _ h => .brT (h _)) rfl rfl <|
                    .cons [60] [] (fun _ _ h => .move (h _)) rfl rfl <|
                    .cons [61] [] (fun _ _ h => .skip (h _)) rfl rfl <|
                    .cons [61] [] (fun _ _ h => .skip (h _)) rfl rfl <|
                    .cons [61] [] (fun _ _ h => .skip (h _)) rfl rfl <|
                    .cons [61, 64] [] (fun _ _ h => .brT (h _)) rfl rfl <|
                    .nil)
                    (.nil)
                    (by kernel_rfl) rfl (.cons rfl (.cons rfl (.cons rfl (.cons rfl (.cons rfl (.cons rfl (.cons rfl (.cons rfl (.nil))))))))) (.nil) (.cons rfl (.nil)) ?_
                  exact ⟨_, (.inl ⟨rfl, h⟩), (imp_of (.cons rfl (.cons rfl (.cons rfl (.cons rfl (.nil))))) (.nil))⟩
                · replace h := (if_neg (nt hc105)).symm.trans h
                  rcases bool_em (!(sEq (mkStr y95.1) (mkStr y96.1))) with hc106 | hc106
                  · replace h := (if_pos hc106).symm.trans h
                    refine .draw [] [[], [], [], [], [], [], [], [], [], [], [], [], [], [], [], [], []] [[], [], [], [], [], [], [], [], [], [], [], [], [], [], [], [], []] [[]]
                      [(0, 0), (1, 0), (2, 0), (3, 0), (4, 0), (5, 0), (6, 0), (7, 0), (8, 0), (9, 0), (10, 0), (11, 0), (12, 0), (13, 0), (14, 0), (15, 0), (16, 0)] [] 0
                      [⟨[(49, .agg [.int .u64 x94.ID, .str x94.Name, .int .i64 x94.Direction, .int .i64 x94.Domain, .int .i64 x94.Latency, .int .i64 x94.Drift, .int .i64 x94.Jitter, .sl 94 .ro (x94.Boxes.map pv94)]), (50, .bool y103), (51, .agg [.int .u64 x94.ID, .str x94.Name, .int .i64 x94.Direction, .int .i64 x94.Domain, .int .i64 x94.Latency, .int .i64 x94.Drift, .int .i64 x94.Jitter, .sl 94 .ro (x94.Boxes.map pv94)]), (52, .bool y104), (53, .bool false), (54, .bool false), (55, .sl 5 .ro (y95.1.map (PV.int .u8))), (56, .str (mkStr y95.1)), (57, .sl 5 .ro (y96.1.map (PV.int .u8))), (58, .str (mkStr y96.1)), (59, .bool true), (60, .bool true), (61, .bool true), (62, .tup []), (63, .tup []), (64, .tup []), (65, .bool true), (10, .ptr (.loc 7 2) 0), (11, .sl 5 .ro (y95.1.map (PV.int .u8))), (12, .int .i64 y95.2), (13, .sl 5 .ro (y96.1.map (PV.int .u8))), (14, .int .i64 y96.2), (33, .sl 53 .ro (([(⟨a0.ID, a0.Name, a0.Direction, a0.Domain, a0.Latency, a0.Drift, a0.Jitter, a0.Boxes⟩ : Descriptor), y56] : List Descriptor).map pv53)), (34, .int .i64 (([(⟨a0.ID, a0.Name, a0.Direction, a0.Domain, a0.Latency, a0.Drift, a0.Jitter, a0.Boxes⟩ : Descriptor), y56] : List Descriptor).length : Int)), (35, .int .i64 v68)], [], [((.loc 7 2), [.int .u64 x94.ID, .str x94.Name, .int .i64 x94.Direction, .int .i64 x94.Domain, .int .i64 x94.Latency, .int .i64 x94.Drift, .int .i64 x94.Jitter, .sl 94 .ro (x94.Boxes.map pv94)])]⟩]
                      [(10, .ptr (.loc 7 2) 0), (11, .sl 5 .ro (y95.1.map (PV.int .u8))), (12, .int .i64 y95.2), (13, .sl 5 .ro (y96.1.map (PV.int .u8))), (14, .int .i64 y96.2), (33, .sl 53 .ro (([(⟨a0.ID, a0.Name, a0.Direction, a0.Domain, a0.Latency, a0.Drift, a0.Jitter, a0.Boxes⟩ : Descriptor), y56] : List Descriptor).map pv53)), (34, .int .i64 (([(⟨a0.ID, a0.Name, a0.Direction, a0.Domain, a0.Latency, a0.Drift, a0.Jitter, a0.Boxes⟩ : Descriptor), y56] : List Descriptor).length : Int)), (35, .int .i64 v68)]
                      (.cons [10] [] (fun _ _ h => .val (h _)) rfl rfl <|
                      .cons [49] [] (fun _ _ h => .cP (g56 hy103) (h _)) rfl rfl <|
                      .cons [10] [] (fun _ _ h => .val (h _)) rfl rfl <|
                      .cons [51] [] (fun _ _ h => .cP (g57 hy104) (h _)) rfl rfl <|
                      .cons [50, 52] [] (fun _ _ h => .valB hc105 (h _)) rfl rfl <|
                      .cons [53] [] (fun _ _ h => .move (h _)) rfl rfl <|
                      .cons [11, 54] [] (fun _ _ h => .move (h _)) rfl rfl <|
                      .cons [55, 54] [] (fun _ _ h => .toStr (h _)) rfl rfl <|
                      .cons [13, 54] [] (fun _ _ h => .move (h _)) rfl rfl <|
                      .cons [57, 54] [] (fun _ _ h => .toStr (h _)) rfl rfl <|
                      .cons [56, 58, 54] [] (fun _ _ h => .valB hc106 (h _)) rfl rfl <|
                      .cons [54, 59] [] (fun _ _ h => .brF (h _)) rfl rfl <|
                      .cons [60] [] (fun _ _ h => .move (h _)) rfl rfl <|
                      .cons [61] [] (fun _ _ h => .skip (h _)) rfl rfl <|
                      .cons [61] [] (fun _ _ h => .skip (h _)) rfl rfl <|
                      .cons [61] [] (fun _ _ h => .skip (h _)) rfl rfl <|
                      .cons [61, 64] [] (fun _ _ h => .brT (h _)) rfl rfl <|
                      .nil)
                      (.nil)
                      (by kernel_rfl) rfl (.cons rfl (.cons rfl (.cons rfl (.cons rfl (.cons rfl (.cons rfl (.cons rfl (.cons rfl (.nil))))))))) (.nil) (.cons rfl (.nil)) ?_
                    exact ⟨_, (.inl ⟨rfl, h⟩), (imp_of (.cons rfl (.cons rfl (.cons rfl (.cons rfl (.nil))))) (.nil))⟩
                  · replace h := (if_neg (nt hc106)).symm.trans h
                    refine .draw [] [[], [], [], [], [], [], [], [], [], [], [], [], [], [], [], [], []] [[], [], [], [], [], [], [], [], [], [], [], [], [], [], [], [], []] [[]]
                      [(0, 0), (1, 0), (2, 0), (3, 0), (4, 0), (5, 0), (6, 0), (7, 0), (8, 0), (9, 0), (10, 0), (11, 0), (12, 0), (13, 0), (14, 0), (15, 0), (16, 0)] [] 0
                      [⟨[(49, .agg [.int .u64 x94.ID, .str x94.Name, .int .i64 x94.Direction, .int .i64 x94.Domain, .int .i64 x94.Latency, .int .i64 x94.Drift, .int .i64 x94.Jitter, .sl 94 .ro (x94.Boxes.map pv94)]), (50, .bool y103), (51, .agg [.int .u64 x94.ID, .str x94.Name, .int .i64 x94.Direction, .int .i64 x94.Domain, .int .i64 x94.Latency, .int .i64 x94.Drift, .int .i64 x94.Jitter, .sl 94 .ro (x94.Boxes.map pv94)]), (52, .bool y104), (53, .bool false), (54, .bool false), (55, .sl 5 .ro (y95.1.map (PV.int .u8))), (56, .str (mkStr y95.1)), (57, .sl 5 .ro (y96.1.map (PV.int .u8))), (58, .str (mkStr y96.1)), (59, .bool false), (60, .bool false), (61, .bool false), (62, .int .i64 y95.2), (63, .int .i64 y96.2), (64, .bool (y95.2 != y96.2)), (65, .bool (y95.2 != y96.2)), (10, .ptr (.loc 7 2) 0), (11, .sl 5 .ro (y95.1.map (PV.int .u8))), (12, .int .i64 y95.2), (13, .sl 5 .ro (y96.1.map (PV.int .u8))), (14, .int .i64 y96.2), (33, .sl 53 .ro (([(⟨a0.ID, a0.Name, a0.Direction, a0.Domain, a0.Latency, a0.Drift, a0.Jitter, a0.Boxes⟩ : Descriptor), y56] : List Descriptor).map pv53)), (34, .int .i64 (([(⟨a0.ID, a0.Name, a0.Direction, a0.Domain, a0.Latency, a0.Drift, a0.Jitter, a0.Boxes⟩ : Descriptor), y56] : List Descriptor).length : Int)), (35, .int .i64 v68)], [], [((.loc 7 2), [.int .u64 x94.ID, .str x94.Name, .int .i64 x94.Direction, .int .i64 x94.Domain, .int .i64 x94.Latency, .int .i64 x94.Drift, .int .i64 x94.Jitter, .sl 94 .ro (x94.Boxes.map pv94)])]⟩]
                      [(10, .ptr (.loc 7 2) 0), (11, .sl 5 .ro (y95.1.map (PV.int .u8))), (12, .int .i64 y95.2), (13, .sl 5 .ro (y96.1.map (PV.int .u8))), (14, .int .i64 y96.2), (33, .sl 53 .ro (([(⟨a0.ID, a0.Name, a0.Direction, a0.Domain, a0.Latency, a0.Drift, a0.Jitter, a0.Boxes⟩ : Descriptor), y56] : List Descriptor).map pv53)), (34, .int .i64 (([(⟨a0.ID, a0.Name, a0.Direction, a0.Domain, a0.Latency, a0.Drift, a0.Jitter, a0.Boxes⟩ : Descriptor), y56] : List Descriptor).length : Int)), (35, .int .i64 v68)]
                      (.cons [10] [] (fun _ _ h => .val (h _)) rfl rfl <|
                      .cons [49] [] (fun _ _ h => .cP (g56 hy103) (h _)) rfl rfl <|
                      .cons [10] [] (fun _ _ h => .val (h _)) rfl rfl <|
                      .cons [51] [] (fun _ _ h => .cP (g57 hy104) (h _)) rfl rfl <|
                      .cons [50, 52] [] (fun _ _ h => .valB hc105 (h _)) rfl rfl <|
                      .cons [53] [] (fun _ _ h => .move (h _)) rfl rfl <|
                      .cons [11, 54] [] (fun _ _ h => .move (h _)) rfl rfl <|
                      .cons [55, 54] [] (fun _ _ h => .toStr (h _)) rfl rfl <|
                      .cons [13, 54] [] (fun _ _ h => .move (h _)) rfl rfl <|
                      .cons [57, 54] [] (fun _ _ h => .toStr (h _)) rfl rfl <|
                      .cons [56, 58, 54] [] (fun _ _ h => .valB hc106 (h _)) rfl rfl <|
                      .cons [54, 59] [] (fun _ _ h => .brF (h _)) rfl rfl <|
                      .cons [60] [] (fun _ _ h => .move (h _)) rfl rfl <|
                      .cons [12, 61] [] (fun _ _ h => .move (h _)) rfl rfl <|
                      .cons [14, 61] [] (fun _ _ h => .move (h _)) rfl rfl <|
                      .cons [62, 63, 61] [] (fun _ _ h => .val (h _)) rfl rfl <|
                      .cons [61, 64] [] (fun _ _ h => .brF (h _)) rfl rfl <|
                      .nil)
                      (.nil)
                      (by kernel_rfl) rfl (.cons rfl (.cons rfl (.cons rfl (.cons rfl (.cons rfl (.cons rfl (.cons rfl (.cons rfl (.nil))))))))) (.nil) (.cons rfl (.nil)) ?_
                    exact ⟨_, (.inr (⟨rfl, h⟩)), (imp_of (.cons rfl (.cons rfl (.cons rfl (.cons rfl (.nil))))) (.nil))⟩
              · rintro T (⟨rfl, h⟩ | ⟨rfl, h⟩)
                · subst hj101
                  refine .condT ?_
                  refine .seq ?_
                  refine .region ?_
                  refine .assign ?_
                  refine .nil ?_
                  cases h
                  exact .ret (fin_gen0 none)
                · subst hj102
                  refine .cond (fun hc107 => ?_) (fun hc107 => ?_)
                  · replace h := (if_pos hc107).symm.trans h
                    refine .seq ?_
                    refine .region ?_
                    refine .assign ?_
                    refine .nil ?_
                    cases h
                    exact .ret (fin_gen0 none)
                  · replace h := (if_neg (nt hc107)).symm.trans h
                    refine .skip ?_
                    refine .region ?_
                    refine .val ?_
                    refine .move ?_
                    refine .nil ?_
                    exact ⟨m81, _, Nat.lt_succ_self m81, ⟨_, rfl, h⟩, (imp_of (.cons rfl (.cons rfl (.cons rfl (.nil)))) (.nil))⟩
            · replace h := (if_neg (nt hc83)).symm.trans h
              refine .exit (.hit ?_)
              exact ⟨_, ⟨rfl, h⟩, (imp_of (.nil) (.nil))⟩
          · rintro T ⟨rfl, h⟩
            subst hj54
            refine .seq ?_
            refine .region ?_
            refine .assign ?_
            refine .nil ?_
            cases h
            exact .ret (fin_gen0 none)
end Go.Proofs.Ytcahjpkmldmjdaa
