/-
  Plain functions of soundservicelaw38, and that the code does what they say.
-/
import Derived.Test.YtacdknbakjbpiaaGm
namespace Go.Proofs.Ytacdknbakjbpiaa
open Go Ab
/- soundservice/soundservicelaw38.RecorderFinds -/
def f10_l1 (n : Nat) (a1 : Recorder) (a2 : Int) (a3 : Int) (a4 : Int) (j73 : Unit → Option Bool) (y74 : Recorder) : Nat → Int → Option Bool
  | 0, _ => none
  | m119 + 1, v96 =>
    if decide (v96 < (([y74, (⟨a1.Limit, a1.Last, a1.Counts, a1.Frames, a1.Buckets⟩ : Recorder)] : List Recorder).length : Int)) then (
    (lAt ([y74, (⟨a1.Limit, a1.Last, a1.Counts, a1.Frames, a1.Buckets⟩ : Recorder)] : List Recorder) v96).bind fun x142 =>
    joinK (fun (_ : Unit) =>
    some false) fun j158 =>
    joinK (fun (v159 : Bool) =>
    if v159 then (
    some false)
    else (
    f10_l1 n a1 a2 a3 a4 j73 y74 m119 (w64 (v96 + (1 : Int))))) fun j160 =>
    (f53 n (⟨x142.Limit, x142.Last, x142.Counts, x142.Frames, x142.Buckets⟩ : Recorder) a2 a3).bind fun y161 =>
    (f54 n (⟨x142.Limit, x142.Last, x142.Counts, x142.Frames, x142.Buckets⟩ : Recorder) a2 a3).bind fun y162 =>
    (f52 n y161 y162).bind fun y163 =>
    if !y163 then (
    j158 ())
    else (
    (f53 n (⟨x142.Limit, x142.Last, x142.Counts, x142.Frames, x142.Buckets⟩ : Recorder) (Int.tmod a2 (20 : Int)) (Int.tmod a3 (20 : Int))).bind fun y165 =>
    (f54 n (⟨x142.Limit, x142.Last, x142.Counts, x142.Frames, x142.Buckets⟩ : Recorder) (Int.tmod a2 (20 : Int)) (Int.tmod a3 (20 : Int))).bind fun y166 =>
    (f52 n y165 y166).bind fun y167 =>
    if !y167 then (
    j158 ())
    else (
    (f40 n (⟨x142.Limit, x142.Last, x142.Counts, x142.Frames, x142.Buckets⟩ : Recorder) a4).bind fun y169 =>
    (f55 n (⟨x142.Limit, x142.Last, x142.Counts, x142.Frames, x142.Buckets⟩ : Recorder) a4).bind fun y170 =>
    if (y169 != y170) then (
    j158 ())
    else (
    (f39 n a4 (101 : Int)).bind fun y172 =>
    (f40 n (⟨x142.Limit, x142.Last, x142.Counts, x142.Frames, x142.Buckets⟩ : Recorder) y172).bind fun y173 =>
    (f39 n a4 (101 : Int)).bind fun y174 =>
    (f55 n (⟨x142.Limit, x142.Last, x142.Counts, x142.Frames, x142.Buckets⟩ : Recorder) y174).bind fun y175 =>
    j160 (y173 != y175)))))
    else (
    j73 ())
def f10 (n : Nat) (a0 : (List Int)) (a1 : Recorder) (a2 : Int) (a3 : Int) (a4 : Int) : Option Bool :=
  (f36 n ).bind fun y3 =>
  if !y3 then (
  some false)
  else (
  if decide ((a1.Last.length : Int) > (10 : Int)) then (
  some true)
  else (
  joinK (fun (_ : Unit) =>
  some true) fun j73 =>
  (f51 n a0).bind fun y74 =>
  f10_l1 n a1 a2 a3 a4 j73 y74 n 0))
set_option maxHeartbeats 4000000 in
set_option maxRecDepth 100000 in
theorem g10 {n : Nat} {a0 : (List Int)} {a1 : Recorder} {a2 : Int} {a3 : Int} {a4 : Int} {r : Bool} (h : f10 n a0 a1 a2 a3 a4 = some r) :
    Ab.Can Try.prog 10 [.sl 3 .ro (a0.map (PV.int .i64)), .agg [.int .i64 a1.Limit, .sl 97 .ro (a1.Last.map pv97), .int .i64 (a1.Counts 0), .int .i64 (a1.Counts 1), .int .i64 (a1.Counts 2), .int .i64 (a1.Counts 3), .int .i64 (a1.Counts 4), .int .i64 a1.Frames, .int .i64 (a1.Buckets 0), .int .i64 (a1.Buckets 1), .int .i64 (a1.Buckets 2), .int .i64 (a1.Buckets 3), .int .i64 (a1.Buckets 4), .int .i64 (a1.Buckets 5), .int .i64 (a1.Buckets 6), .int .i64 (a1.Buckets 7), .int .i64 (a1.Buckets 8), .int .i64 (a1.Buckets 9), .int .i64 (a1.Buckets 10), .int .i64 (a1.Buckets 11), .int .i64 (a1.Buckets 12), .int .i64 (a1.Buckets 13), .int .i64 (a1.Buckets 14), .int .i64 (a1.Buckets 15), .int .i64 (a1.Buckets 16), .int .i64 (a1.Buckets 17), .int .i64 (a1.Buckets 18), .int .i64 (a1.Buckets 19), .int .i64 (a1.Buckets 20), .int .i64 (a1.Buckets 21), .int .i64 (a1.Buckets 22), .int .i64 (a1.Buckets 23)], .int .i64 a2, .int .i64 a3, .int .i64 a4] H0 (.bool r) H0 := by
  refine can_of tabOK mix Try.call10 Try.func10 rfl (by kernel_rfl) (by show _ ≤ 75; simp) fun _ => ?_
  rw [f10] at h
  refine .seq ?_
  refine .region ?_
  refine .boxL (cs := [.int .i64 a1.Limit, .sl 97 .ro (a1.Last.map pv97), .int .i64 (a1.Counts 0), .int .i64 (a1.Counts 1), .int .i64 (a1.Counts 2), .int .i64 (a1.Counts 3), .int .i64 (a1.Counts 4), .int .i64 a1.Frames, .int .i64 (a1.Buckets 0), .int .i64 (a1.Buckets 1), .int .i64 (a1.Buckets 2), .int .i64 (a1.Buckets 3), .int .i64 (a1.Buckets 4), .int .i64 (a1.Buckets 5), .int .i64 (a1.Buckets 6), .int .i64 (a1.Buckets 7), .int .i64 (a1.Buckets 8), .int .i64 (a1.Buckets 9), .int .i64 (a1.Buckets 10), .int .i64 (a1.Buckets 11), .int .i64 (a1.Buckets 12), .int .i64 (a1.Buckets 13), .int .i64 (a1.Buckets 14), .int .i64 (a1.Buckets 15), .int .i64 (a1.Buckets 16), .int .i64 (a1.Buckets 17), .int .i64 (a1.Buckets 18), .int .i64 (a1.Buckets 19), .int .i64 (a1.Buckets 20), .int .i64 (a1.Buckets 21), .int .i64 (a1.Buckets 22), .int .i64 (a1.Buckets 23)]) ?_
  refine .assign ?_
  refine .nil ?_
  refine .seq ?_
  refine .seq ?_
  refine .region ?_
  obtain ⟨y3, hy3, h⟩ := bindE h
  refine .cP (g36 hy3) ?_
  refine .val ?_
  refine .nil ?_
  refine .cond (fun hc4 => ?_) (fun hc4 => ?_)
  · replace h := (if_pos hc4).symm.trans h
    refine .seq ?_
    refine .region ?_
    refine .assign ?_
    refine .nil ?_
    cases h
    exact .ret (fin_gen0 none)
  · replace h := (if_neg (nt hc4)).symm.trans h
    refine .skip ?_
    refine .seq ?_
    refine .seq ?_
    refine .region ?_
    refine .val ?_
    refine .val ?_
    refine .lenL (f := pv97) ?_
    refine .val ?_
    refine .nil ?_
    refine .cond (fun hc6 => ?_) (fun hc6 => ?_)
    · replace h := (if_pos hc6).symm.trans h
      refine .seq ?_
      refine .region ?_
      refine .assign ?_
      refine .nil ?_
      cases h
      exact .ret (fin_gen0 none)
    · replace h := (if_neg (nt hc6)).symm.trans h
      refine .skip ?_
      obtain ⟨j73, hj73, h⟩ := joinE h
      refine .cutI (fun T => (T = St.of [] [] ∧ j73 () = some r)) ?_ ?_
      · refine .seq ?_
        obtain ⟨y74, hy74, h⟩ := bindE h
        refine .draw [] [[], [], [], [], [], []] [[], [], [], [], [], []] [[]]
          [(0, 0), (1, 0), (2, 0), (3, 0), (4, 0), (5, 0)] [] 0
          [⟨[(19, .sl 3 .ro (a0.map (PV.int .i64))), (20, .agg [.int .i64 y74.Limit, .sl 97 .ro (y74.Last.map pv97), .int .i64 (y74.Counts 0), .int .i64 (y74.Counts 1), .int .i64 (y74.Counts 2), .int .i64 (y74.Counts 3), .int .i64 (y74.Counts 4), .int .i64 y74.Frames, .int .i64 (y74.Buckets 0), .int .i64 (y74.Buckets 1), .int .i64 (y74.Buckets 2), .int .i64 (y74.Buckets 3), .int .i64 (y74.Buckets 4), .int .i64 (y74.Buckets 5), .int .i64 (y74.Buckets 6), .int .i64 (y74.Buckets 7), .int .i64 (y74.Buckets 8), .int .i64 (y74.Buckets 9), .int .i64 (y74.Buckets 10), .int .i64 (y74.Buckets 11), .int .i64 (y74.Buckets 12), .int .i64 (y74.Buckets 13), .int .i64 (y74.Buckets 14), .int .i64 (y74.Buckets 15), .int .i64 (y74.Buckets 16), .int .i64 (y74.Buckets 17), .int .i64 (y74.Buckets 18), .int .i64 (y74.Buckets 19), .int .i64 (y74.Buckets 20), .int .i64 (y74.Buckets 21), .int .i64 (y74.Buckets 22), .int .i64 (y74.Buckets 23)]), (21, .agg [.int .i64 a1.Limit, .sl 97 .ro (a1.Last.map pv97), .int .i64 (a1.Counts 0), .int .i64 (a1.Counts 1), .int .i64 (a1.Counts 2), .int .i64 (a1.Counts 3), .int .i64 (a1.Counts 4), .int .i64 a1.Frames, .int .i64 (a1.Buckets 0), .int .i64 (a1.Buckets 1), .int .i64 (a1.Buckets 2), .int .i64 (a1.Buckets 3), .int .i64 (a1.Buckets 4), .int .i64 (a1.Buckets 5), .int .i64 (a1.Buckets 6), .int .i64 (a1.Buckets 7), .int .i64 (a1.Buckets 8), .int .i64 (a1.Buckets 9), .int .i64 (a1.Buckets 10), .int .i64 (a1.Buckets 11), .int .i64 (a1.Buckets 12), .int .i64 (a1.Buckets 13), .int .i64 (a1.Buckets 14), .int .i64 (a1.Buckets 15), .int .i64 (a1.Buckets 16), .int .i64 (a1.Buckets 17), .int .i64 (a1.Buckets 18), .int .i64 (a1.Buckets 19), .int .i64 (a1.Buckets 20), .int .i64 (a1.Buckets 21), .int .i64 (a1.Buckets 22), .int .i64 (a1.Buckets 23)]), (22, .sl 60 .ro (([y74, (⟨a1.Limit, a1.Last, a1.Counts, a1.Frames, a1.Buckets⟩ : Recorder)] : List Recorder).map pv60)), (23, .int .i64 (([y74, (⟨a1.Limit, a1.Last, a1.Counts, a1.Frames, a1.Buckets⟩ : Recorder)] : List Recorder).length : Int)), (24, .int .i64 0), (0, .sl 3 .ro (a0.map (PV.int .i64))), (2, .int .i64 a2), (3, .int .i64 a3), (4, .int .i64 a4), (6, .ptr (.loc 0 0) 0)], [], [((.loc 0 0), [.int .i64 a1.Limit, .sl 97 .ro (a1.Last.map pv97), .int .i64 (a1.Counts 0), .int .i64 (a1.Counts 1), .int .i64 (a1.Counts 2), .int .i64 (a1.Counts 3), .int .i64 (a1.Counts 4), .int .i64 a1.Frames, .int .i64 (a1.Buckets 0), .int .i64 (a1.Buckets 1), .int .i64 (a1.Buckets 2), .int .i64 (a1.Buckets 3), .int .i64 (a1.Buckets 4), .int .i64 (a1.Buckets 5), .int .i64 (a1.Buckets 6), .int .i64 (a1.Buckets 7), .int .i64 (a1.Buckets 8), .int .i64 (a1.Buckets 9), .int .i64 (a1.Buckets 10), .int .i64 (a1.Buckets 11), .int .i64 (a1.Buckets 12), .int .i64 (a1.Buckets 13), .int .i64 (a1.Buckets 14), .int .i64 (a1.Buckets 15), .int .i64 (a1.Buckets 16), .int .i64 (a1.Buckets 17), .int .i64 (a1.Buckets 18), .int .i64 (a1.Buckets 19), .int .i64 (a1.Buckets 20), .int .i64 (a1.Buckets 21), .int .i64 (a1.Buckets 22), .int .i64 (a1.Buckets 23)])]⟩]
          [(0, .sl 3 .ro (a0.map (PV.int .i64))), (2, .int .i64 a2), (3, .int .i64 a3), (4, .int .i64 a4), (6, .ptr (.loc 0 0) 0)]
          (.cons [0] [] (fun _ _ h => .move (h _)) rfl rfl <|
          .cons [19] [] (fun _ _ h => .cP (g51 hy74) (h _)) rfl rfl <|
          .cons [6] [] (fun _ _ h => .val (h _)) rfl rfl <|
          .cons [20, 21] [] (fun _ _ h => .litR (f := pv60) ([y74, (⟨a1.Limit, a1.Last, a1.Counts, a1.Frames, a1.Buckets⟩ : Recorder)] : List Recorder) (h _)) rfl rfl <|
          .cons [22] [] (fun _ _ h => .lenL (f := pv60) (h _)) rfl rfl <|
          .cons [] [] (fun _ _ h => .move (h _)) rfl rfl <|
          .nil)
          (.nil)
          (by kernel_rfl) rfl (.cons rfl (.cons rfl (.cons rfl (.cons rfl (.cons rfl (.nil)))))) (.nil) (.cons rfl (.nil)) ?_
        refine .imp (T := St.of [(2, .int .i64 a2), (3, .int .i64 a3), (4, .int .i64 a4), (22, .sl 60 .ro (([y74, (⟨a1.Limit, a1.Last, a1.Counts, a1.Frames, a1.Buckets⟩ : Recorder)] : List Recorder).map pv60)), (23, .int .i64 (([y74, (⟨a1.Limit, a1.Last, a1.Counts, a1.Frames, a1.Buckets⟩ : Recorder)] : List Recorder).length : Int)), (24, .int .i64 0)] []) (imp_of (.cons rfl (.cons rfl (.cons rfl (.cons rfl (.cons rfl (.cons rfl (.nil))))))) (.nil)) ?_
        refine .block ?_
        refine .loopI (fun m T => ∃ (v96 : Int), T = St.of [(2, .int .i64 a2), (3, .int .i64 a3), (4, .int .i64 a4), (22, .sl 60 .ro (([y74, (⟨a1.Limit, a1.Last, a1.Counts, a1.Frames, a1.Buckets⟩ : Recorder)] : List Recorder).map pv60)), (23, .int .i64 (([y74, (⟨a1.Limit, a1.Last, a1.Counts, a1.Frames, a1.Buckets⟩ : Recorder)] : List Recorder).length : Int)), (24, .int .i64 v96)] [] ∧ f10_l1 n a1 a2 a3 a4 j73 y74 m v96 = some r) _ _ ⟨_, rfl, h⟩ (imp_of (.cons rfl (.cons rfl (.cons rfl (.cons rfl (.cons rfl (.cons rfl (.nil))))))) (.nil)) ?_
        rintro m119 T ⟨v96, rfl, h⟩
        obtain _ | m119 := m119
        · rw [f10_l1] at h; cases h
        rw [f10_l1] at h
        refine .seq ?_
        refine .region ?_
        refine .val ?_
        refine .nil ?_
        refine .seq ?_
        refine .cond (fun hc121 => ?_) (fun hc121 => ?_)
        · replace h := (if_pos hc121).symm.trans h
          refine .skip ?_
          refine .seq ?_
          refine .block ?_
          refine .seq ?_
          refine .region ?_
          obtain ⟨x142, hx142, h⟩ := bindE h
          refine .idxL (f := pv60) hx142 ?_
          refine .ldL hx142 (y := .agg [.int .i64 x142.Limit, .sl 97 .ro (x142.Last.map pv97), .int .i64 (x142.Counts 0), .int .i64 (x142.Counts 1), .int .i64 (x142.Counts 2), .int .i64 (x142.Counts 3), .int .i64 (x142.Counts 4), .int .i64 x142.Frames, .int .i64 (x142.Buckets 0), .int .i64 (x142.Buckets 1), .int .i64 (x142.Buckets 2), .int .i64 (x142.Buckets 3), .int .i64 (x142.Buckets 4), .int .i64 (x142.Buckets 5), .int .i64 (x142.Buckets 6), .int .i64 (x142.Buckets 7), .int .i64 (x142.Buckets 8), .int .i64 (x142.Buckets 9), .int .i64 (x142.Buckets 10), .int .i64 (x142.Buckets 11), .int .i64 (x142.Buckets 12), .int .i64 (x142.Buckets 13), .int .i64 (x142.Buckets 14), .int .i64 (x142.Buckets 15), .int .i64 (x142.Buckets 16), .int .i64 (x142.Buckets 17), .int .i64 (x142.Buckets 18), .int .i64 (x142.Buckets 19), .int .i64 (x142.Buckets 20), .int .i64 (x142.Buckets 21), .int .i64 (x142.Buckets 22), .int .i64 (x142.Buckets 23)]) ?_
          refine .allocL (cs := [.int .i64 0, .sl 97 .full [], .int .i64 (aZ 0), .int .i64 (aZ 1), .int .i64 (aZ 2), .int .i64 (aZ 3), .int .i64 (aZ 4), .int .i64 0, .int .i64 (aZ 0), .int .i64 (aZ 1), .int .i64 (aZ 2), .int .i64 (aZ 3), .int .i64 (aZ 4), .int .i64 (aZ 5), .int .i64 (aZ 6), .int .i64 (aZ 7), .int .i64 (aZ 8), .int .i64 (aZ 9), .int .i64 (aZ 10), .int .i64 (aZ 11), .int .i64 (aZ 12), .int .i64 (aZ 13), .int .i64 (aZ 14), .int .i64 (aZ 15), .int .i64 (aZ 16), .int .i64 (aZ 17), .int .i64 (aZ 18), .int .i64 (aZ 19), .int .i64 (aZ 20), .int .i64 (aZ 21), .int .i64 (aZ 22), .int .i64 (aZ 23)]) ?_
          refine .wrL (cs := [.int .i64 x142.Limit, .sl 97 .ro (x142.Last.map pv97), .int .i64 (x142.Counts 0), .int .i64 (x142.Counts 1), .int .i64 (x142.Counts 2), .int .i64 (x142.Counts 3), .int .i64 (x142.Counts 4), .int .i64 x142.Frames, .int .i64 (x142.Buckets 0), .int .i64 (x142.Buckets 1), .int .i64 (x142.Buckets 2), .int .i64 (x142.Buckets 3), .int .i64 (x142.Buckets 4), .int .i64 (x142.Buckets 5), .int .i64 (x142.Buckets 6), .int .i64 (x142.Buckets 7), .int .i64 (x142.Buckets 8), .int .i64 (x142.Buckets 9), .int .i64 (x142.Buckets 10), .int .i64 (x142.Buckets 11), .int .i64 (x142.Buckets 12), .int .i64 (x142.Buckets 13), .int .i64 (x142.Buckets 14), .int .i64 (x142.Buckets 15), .int .i64 (x142.Buckets 16), .int .i64 (x142.Buckets 17), .int .i64 (x142.Buckets 18), .int .i64 (x142.Buckets 19), .int .i64 (x142.Buckets 20), .int .i64 (x142.Buckets 21), .int .i64 (x142.Buckets 22), .int .i64 (x142.Buckets 23)]) ?_
          refine .nil ?_
          obtain ⟨j158, hj158, h⟩ := joinE h
          obtain ⟨j160, hj160, h⟩ := joinE h
          refine .cutI (fun T => (T = St.of [(2, .int .i64 a2), (3, .int .i64 a3), (4, .int .i64 a4), (22, .sl 60 .ro (([y74, (⟨a1.Limit, a1.Last, a1.Counts, a1.Frames, a1.Buckets⟩ : Recorder)] : List Recorder).map pv60)), (23, .int .i64 (([y74, (⟨a1.Limit, a1.Last, a1.Counts, a1.Frames, a1.Buckets⟩ : Recorder)] : List Recorder).length : Int)), (24, .int .i64 v96), (73, .bool true)] [] ∧ j158 () = some r) ∨ (∃ (v159 : Bool), T = St.of [(2, .int .i64 a2), (3, .int .i64 a3), (4, .int .i64 a4), (22, .sl 60 .ro (([y74, (⟨a1.Limit, a1.Last, a1.Counts, a1.Frames, a1.Buckets⟩ : Recorder)] : List Recorder).map pv60)), (23, .int .i64 (([y74, (⟨a1.Limit, a1.Last, a1.Counts, a1.Frames, a1.Buckets⟩ : Recorder)] : List Recorder).length : Int)), (24, .int .i64 v96), (73, .bool v159)] [] ∧ j160 v159 = some r)) ?_ ?_
          · obtain ⟨y161, hy161, h⟩ := bindE h
            obtain ⟨y162, hy162, h⟩ := bindE h
            obtain ⟨y163, hy163, h⟩ := bindE h
            rcases bool_em (!y163) with hc164 | hc164
            · replace h := (if_pos hc164).symm.trans h
              refine .draw [] [[], [], [], [], [], [], [], [], [], [], [], [], [], [], [], [], [], [], [], [], [], [], [], [], [], [], [], [], [], [], [], [], [], [], [], [], [], [], [], [], [], [], [], [], [], []] [[], [], [], [], [], [], [], [], [], [], [], [], [], [], [], [], [], [], [], [], [], [], [], [], [], [], [], [], [], [], [], [], [], [], [], [], [], [], [], [], [], [], [], [], [], []] [[]]
                [(0, 0), (1, 0), (2, 0), (3, 0), (4, 0), (5, 0), (6, 0), (7, 0), (8, 0), (9, 0), (10, 0), (11, 0), (12, 0), (13, 0), (14, 0), (15, 0), (16, 0), (17, 0), (18, 0), (19, 0), (20, 0), (21, 0), (22, 0), (23, 0), (24, 0), (25, 0), (26, 0), (27, 0), (28, 0), (29, 0), (30, 0), (31, 0), (32, 0), (33, 0), (34, 0), (35, 0), (36, 0), (37, 0), (38, 0), (39, 0), (40, 0), (41, 0), (42, 0), (43, 0), (44, 0), (45, 0)] [] 0
                [⟨[(28, .agg [.int .i64 x142.Limit, .sl 97 .ro (x142.Last.map pv97), .int .i64 (x142.Counts 0), .int .i64 (x142.Counts 1), .int .i64 (x142.Counts 2), .int .i64 (x142.Counts 3), .int .i64 (x142.Counts 4), .int .i64 x142.Frames, .int .i64 (x142.Buckets 0), .int .i64 (x142.Buckets 1), .int .i64 (x142.Buckets 2), .int .i64 (x142.Buckets 3), .int .i64 (x142.Buckets 4), .int .i64 (x142.Buckets 5), .int .i64 (x142.Buckets 6), .int .i64 (x142.Buckets 7), .int .i64 (x142.Buckets 8), .int .i64 (x142.Buckets 9), .int .i64 (x142.Buckets 10), .int .i64 (x142.Buckets 11), .int .i64 (x142.Buckets 12), .int .i64 (x142.Buckets 13), .int .i64 (x142.Buckets 14), .int .i64 (x142.Buckets 15), .int .i64 (x142.Buckets 16), .int .i64 (x142.Buckets 17), .int .i64 (x142.Buckets 18), .int .i64 (x142.Buckets 19), .int .i64 (x142.Buckets 20), .int .i64 (x142.Buckets 21), .int .i64 (x142.Buckets 22), .int .i64 (x142.Buckets 23)]), (29, .int .i64 a2), (30, .int .i64 a3), (31, .sl 97 .ro (y161.map pv97)), (32, .agg [.int .i64 x142.Limit, .sl 97 .ro (x142.Last.map pv97), .int .i64 (x142.Counts 0), .int .i64 (x142.Counts 1), .int .i64 (x142.Counts 2), .int .i64 (x142.Counts 3), .int .i64 (x142.Counts 4), .int .i64 x142.Frames, .int .i64 (x142.Buckets 0), .int .i64 (x142.Buckets 1), .int .i64 (x142.Buckets 2), .int .i64 (x142.Buckets 3), .int .i64 (x142.Buckets 4), .int .i64 (x142.Buckets 5), .int .i64 (x142.Buckets 6), .int .i64 (x142.Buckets 7), .int .i64 (x142.Buckets 8), .int .i64 (x142.Buckets 9), .int .i64 (x142.Buckets 10), .int .i64 (x142.Buckets 11), .int .i64 (x142.Buckets 12), .int .i64 (x142.Buckets 13), .int .i64 (x142.Buckets 14), .int .i64 (x142.Buckets 15), .int .i64 (x142.Buckets 16), .int .i64 (x142.Buckets 17), .int .i64 (x142.Buckets 18), .int .i64 (x142.Buckets 19), .int .i64 (x142.Buckets 20), .int .i64 (x142.Buckets 21), .int .i64 (x142.Buckets 22), .int .i64 (x142.Buckets 23)]), (33, .int .i64 a2), (34, .int .i64 a3), (35, .sl 97 .ro (y162.map pv97)), (36, .bool y163), (37, .bool true), (38, .bool true), (39, .tup []), (40, .tup []), (41, .tup []), (42, .tup []), (43, .tup []), (44, .tup []), (45, .tup []), (46, .tup []), (47, .tup []), (48, .tup []), (49, .tup []), (50, .tup []), (51, .tup []), (52, .tup []), (53, .bool true), (54, .bool true), (55, .tup []), (56, .tup []), (57, .tup []), (58, .tup []), (59, .tup []), (60, .tup []), (61, .tup []), (62, .bool true), (63, .bool true), (64, .tup []), (65, .tup []), (66, .tup []), (67, .tup []), (68, .tup []), (69, .tup []), (70, .tup []), (71, .tup []), (72, .tup []), (73, .bool true), (2, .int .i64 a2), (3, .int .i64 a3), (4, .int .i64 a4), (12, .ptr (.loc 7 2) 0), (22, .sl 60 .ro (([y74, (⟨a1.Limit, a1.Last, a1.Counts, a1.Frames, a1.Buckets⟩ : Recorder)] : List Recorder).map pv60)), (23, .int .i64 (([y74, (⟨a1.Limit, a1.Last, a1.Counts, a1.Frames, a1.Buckets⟩ : Recorder)] : List Recorder).length : Int)), (24, .int .i64 v96)], [], [((.loc 7 2), [.int .i64 x142.Limit, .sl 97 .ro (x142.Last.map pv97), .int .i64 (x142.Counts 0), .int .i64 (x142.Counts 1), .int .i64 (x142.Counts 2), .int .i64 (x142.Counts 3), .int .i64 (x142.Counts 4), .int .i64 x142.Frames, .int .i64 (x142.Buckets 0), .int .i64 (x142.Buckets 1), .int .i64 (x142.Buckets 2), .int .i64 (x142.Buckets 3), .int .i64 (x142.Buckets 4), .int .i64 (x142.Buckets 5), .int .i64 (x142.Buckets 6), .int .i64 (x142.Buckets 7), .int .i64 (x142.Buckets 8), .int .i64 (x142.Buckets 9), .int .i64 (x142.Buckets 10), .int .i64 (x142.Buckets 11), .int .i64 (x142.Buckets 12), .int .i64 (x142.Buckets 13), .int .i64 (x142.Buckets 14), .int .i64 (x142.Buckets 15), .int .i64 (x142.Buckets 16), .int .i64 (x142.Buckets 17), .int .i64 (x142.Buckets 18), .int .i64 (x142.Buckets 19), .int .i64 (x142.Buckets 20), .int .i64 (x142.Buckets 21), .int .i64 (x142.Buckets 22), .int .i64 (x142.Buckets 23)])]⟩]
                [(2, .int .i64 a2), (3, .int .i64 a3), (4, .int .i64 a4), (12, .ptr (.loc 7 2) 0), (22, .sl 60 .ro (([y74, (⟨a1.Limit, a1.Last, a1.Counts, a1.Frames, a1.Buckets⟩ : Recorder)] : List Recorder).map pv60)), (23, .int .i64 (([y74, (⟨a1.Limit, a1.Last, a1.Counts, a1.Frames, a1.Buckets⟩ : Recorder)] : List Recorder).length : Int)), (24, .int .i64 v96)]
                (.cons [12] [] (fun _ _ h => .val (h _)) rfl rfl <|
                .cons [2] [] (fun _ _ h => .move (h _)) rfl rfl <|
                .cons [3] [] (fun _ _ h => .move (h _)) rfl rfl <|
                .cons [28, 29, 30] [] (fun _ _ h => .cP (g53r hy161) (h _)) rfl rfl <|
                .cons [12] [] (fun _ _ h => .val (h _)) rfl rfl <|
                .cons [2] [] (fun _ _ h => .move (h _)) rfl rfl <|
                .cons [3] [] (fun _ _ h => .move (h _)) rfl rfl <|
                .cons [32, 33, 34] [] (fun _ _ h => .cP (g54r hy162) (h _)) rfl rfl <|
                .cons [31, 35] [] (fun _ _ h => .cP (g52 hy163) (h _)) rfl rfl <|
                .cons [36] [] (fun _ _ h => .valB hc164 (h _)) rfl rfl <|
                .cons [37] [] (fun _ _ h => .move (h _)) rfl rfl <|
                .cons [38] [] (fun _ _ h => .skip (h _)) rfl rfl <|
                .cons [38] [] (fun _ _ h => .skip (h _)) rfl rfl <|
                .cons [38] [] (fun _ _ h => .skip (h _)) rfl rfl <|
                .cons [38] [] (fun _ _ h => .skip (h _)) rfl rfl <|
                .cons [38] [] (fun _ _ h => .skip (h _)) rfl rfl <|
                .cons [38] [] (fun _ _ h => .skip (h _)) rfl rfl <|
                .cons [38] [] (fun _ _ h => .skip (h _)) rfl rfl <|
                .cons [38] [] (fun _ _ h => .skip (h _)) rfl rfl <|
                .cons [38] [] (fun _ _ h => .skip (h _)) rfl rfl <|
                .cons [38] [] (fun _ _ h => .skip (h _)) rfl rfl <|
                .cons [38] [] (fun _ _ h => .skip (h _)) rfl rfl <|
                .cons [38] [] (fun _ _ h => .skip (h _)) rfl rfl <|
                .cons [38] [] (fun _ _ h => .skip (h _)) rfl rfl <|
                .cons [38] [] (fun _ _ h => .skip (h _)) rfl rfl <|
                .cons [38, 52] [] (fun _ _ h => .brT (h _)) rfl rfl <|
                .cons [53] [] (fun _ _ h => .move (h _)) rfl rfl <|
                .cons [54] [] (fun _ _ h => .skip (h _)) rfl rfl <|
                .cons [54] [] (fun _ _ h => .skip (h _)) rfl rfl <|
                .cons [54] [] (fun _ _ h => .skip (h _)) rfl rfl <|
                .cons [54] [] (fun _ _ h => .skip (h _)) rfl rfl <|
                .cons [54] [] (fun _ _ h => .skip (h _)) rfl rfl <|
                .cons [54] [] (fun _ _ h => .skip (h _)) rfl rfl <|
                .cons [54] [] (fun _ _ h => .skip (h _)) rfl rfl <|
                .cons [54, 61] [] (fun _ _ h => .brT (h _)) rfl rfl <|
                .cons [62] [] (fun _ _ h => .move (h _)) rfl rfl <|
                .cons [63] [] (fun _ _ h => .skip (h _)) rfl rfl <|
                .cons [63] [] (fun _ _ h => .skip (h _)) rfl rfl <|
                .cons [63] [] (fun _ _ h => .skip (h _)) rfl rfl <|
                .cons [63] [] (fun _ _ h => .skip (h _)) rfl rfl <|
                .cons [63] [] (fun _ _ h => .skip (h _)) rfl rfl <|
                .cons [63] [] (fun _ _ h => .skip (h _)) rfl rfl <|
                .cons [63] [] (fun _ _ h => .skip (h _)) rfl rfl <|
                .cons [63] [] (fun _ _ h => .skip (h _)) rfl rfl <|
                .cons [63] [] (fun _ _ h => .skip (h _)) rfl rfl <|
                .cons [63, 72] [] (fun _ _ h => .brT (h _)) rfl rfl <|
                .nil)
                (.nil)
                (by kernel_rfl) rfl (.cons rfl (.cons rfl (.cons rfl (.cons rfl (.cons rfl (.cons rfl (.cons rfl (.nil)))))))) (.nil) (.cons rfl (.nil)) ?_
              exact ⟨_, (.inl ⟨rfl, h⟩), (imp_of (.cons rfl (.cons rfl (.cons rfl (.cons rfl (.cons rfl (.cons rfl (.cons rfl (.nil)))))))) (.nil))⟩
            · replace h := (if_neg (nt hc164)).symm.trans h
              obtain ⟨y165, hy165, h⟩ := bindE h
              obtain ⟨y166, hy166, h⟩ := bindE h
              obtain ⟨y167, hy167, h⟩ := bindE h
              rcases bool_em (!y167) with hc168 | hc168
              · replace h := (if_pos hc168).symm.trans h
                refine .draw [] [[], [], [], [], [], [], [], [], [], [], [], [], [], [], [], [], [], [], [], [], [], [], [], [], [], [], [], [], [], [], [], [], [], [], [], [], [], [], [], [], [], [], [], [], [], []] [[], [], [], [], [], [], [], [], [], [], [], [], [], [], [], [], [], [], [], [], [], [], [], [], [], [], [], [], [], [], [], [], [], [], [], [], [], [], [], [], [], [], [], [], [], []] [[]]
                  [(0, 0), (1, 0), (2, 0), (3, 0), (4, 0), (5, 0), (6, 0), (7, 0), (8, 0), (9, 0), (10, 0), (11, 0), (12, 0), (13, 0), (14, 0), (15, 0), (16, 0), (17, 0), (18, 0), (19, 0), (20, 0), (21, 0), (22, 0), (23, 0), (24, 0), (25, 0), (26, 0), (27, 0), (28, 0), (29, 0), (30, 0), (31, 0), (32, 0), (33, 0), (34, 0), (35, 0), (36, 0), (37, 0), (38, 0), (39, 0), (40, 0), (41, 0), (42, 0), (43, 0), (44, 0), (45, 0)] [] 0
                  [⟨[(28, .agg [.int .i64 x142.Limit, .sl 97 .ro (x142.Last.map pv97), .int .i64 (x142.Counts 0), .int .i64 (x142.Counts 1), .int .i64 (x142.Counts 2), .int .i64 (x142.Counts 3), .int .i64 (x142.Counts 4), .int .i64 x142.Frames, .int .i64 (x142.Buckets 0), .int .i64 (x142.Buckets 1), .int .i64 (x142.Buckets 2), .int .i64 (x142.Buckets 3), .int .i64 (x142.Buckets 4), .int .i64 (x142.Buckets 5), .int .i64 (x142.Buckets 6), .int .i64 (x142.Buckets 7), .int .i64 (x142.Buckets 8), .int .i64 (x142.Buckets 9), .int .i64 (x142.Buckets 10), .int .i64 (x142.Buckets 11), .int .i64 (x142.Buckets 12), .int .i64 (x142.Buckets 13), .int .i64 (x142.Buckets 14), .int .i64 (x142.Buckets 15), .int .i64 (x142.Buckets 16), .int .i64 (x142.Buckets 17), .int .i64 (x142.Buckets 18), .int .i64 (x142.Buckets 19), .int .i64 (x142.Buckets 20), .int .i64 (x142.Buckets 21), .int .i64 (x142.Buckets 22), .int .i64 (x142.Buckets 23)]), (29, .int .i64 a2), (30, .int .i64 a3), (31, .sl 97 .ro (y161.map pv97)), (32, .agg [.int .i64 x142.Limit, .sl 97 .ro (x142.Last.map pv97), .int .i64 (x142.Counts 0), .int .i64 (x142.Counts 1), .int .i64 (x142.Counts 2), .int .i64 (x142.Counts 3), .int .i64 (x142.Counts 4), .int .i64 x142.Frames, .int .i64 (x142.Buckets 0), .int .i64 (x142.Buckets 1), .int .i64 (x142.Buckets 2), .int .i64 (x142.Buckets 3), .int .i64 (x142.Buckets 4), .int .i64 (x142.Buckets 5), .int .i64 (x142.Buckets 6), .int .i64 (x142.Buckets 7), .int .i64 (x142.Buckets 8), .int .i64 (x142.Buckets 9), .int .i64 (x142.Buckets 10), .int .i64 (x142.Buckets 11), .int .i64 (x142.Buckets 12), .int .i64 (x142.Buckets 13), .int .i64 (x142.Buckets 14), .int .i64 (x142.Buckets 15), .int .i64 (x142.Buckets 16), .int .i64 (x142.Buckets 17), .int .i64 (x142.Buckets 18), .int .i64 (x142.Buckets 19), .int .i64 (x142.Buckets 20), .int .i64 (x142.Buckets 21), .int .i64 (x142.Buckets 22), .int .i64 (x142.Buckets 23)]), (33, .int .i64 a2), (34, .int .i64 a3), (35, .sl 97 .ro (y162.map pv97)), (36, .bool y163), (37, .bool false), (38, .bool false), (39, .agg [.int .i64 x142.Limit, .sl 97 .ro (x142.Last.map pv97), .int .i64 (x142.Counts 0), .int .i64 (x142.Counts 1), .int .i64 (x142.Counts 2), .int .i64 (x142.Counts 3), .int .i64 (x142.Counts 4), .int .i64 x142.Frames, .int .i64 (x142.Buckets 0), .int .i64 (x142.Buckets 1), .int .i64 (x142.Buckets 2), .int .i64 (x142.Buckets 3), .int .i64 (x142.Buckets 4), .int .i64 (x142.Buckets 5), .int .i64 (x142.Buckets 6), .int .i64 (x142.Buckets 7), .int .i64 (x142.Buckets 8), .int .i64 (x142.Buckets 9), .int .i64 (x142.Buckets 10), .int .i64 (x142.Buckets 11), .int .i64 (x142.Buckets 12), .int .i64 (x142.Buckets 13), .int .i64 (x142.Buckets 14), .int .i64 (x142.Buckets 15), .int .i64 (x142.Buckets 16), .int .i64 (x142.Buckets 17), .int .i64 (x142.Buckets 18), .int .i64 (x142.Buckets 19), .int .i64 (x142.Buckets 20), .int .i64 (x142.Buckets 21), .int .i64 (x142.Buckets 22), .int .i64 (x142.Buckets 23)]), (40, .int .i64 a2), (41, .int .i64 (Int.tmod a2 (20 : Int))), (42, .int .i64 a3), (43, .int .i64 (Int.tmod a3 (20 : Int))), (44, .sl 97 .ro (y165.map pv97)), (45, .agg [.int .i64 x142.Limit, .sl 97 .ro (x142.Last.map pv97), .int .i64 (x142.Counts 0), .int .i64 (x142.Counts 1), .int .i64 (x142.Counts 2), .int .i64 (x142.Counts 3), .int .i64 (x142.Counts 4), .int .i64 x142.Frames, .int .i64 (x142.Buckets 0), .int .i64 (x142.Buckets 1), .int .i64 (x142.Buckets 2), .int .i64 (x142.Buckets 3), .int .i64 (x142.Buckets 4), .int .i64 (x142.Buckets 5), .int .i64 (x142.Buckets 6), .int .i64 (x142.Buckets 7), .int .i64 (x142.Buckets 8), .int .i64 (x142.Buckets 9), .int .i64 (x142.Buckets 10), .int .i64 (x142.Buckets 11), .int .i64 (x142.Buckets 12), .int .i64 (x142.Buckets 13), .int .i64 (x142.Buckets 14), .int .i64 (x142.Buckets 15), .int .i64 (x142.Buckets 16), .int .i64 (x142.Buckets 17), .int .i64 (x142.Buckets 18), .int .i64 (x142.Buckets 19), .int .i64 (x142.Buckets 20), .int .i64 (x142.Buckets 21), .int .i64 (x142.Buckets 22), .int .i64 (x142.Buckets 23)]), (46, .int .i64 a2), (47, .int .i64 (Int.tmod a2 (20 : Int))), (48, .int .i64 a3), (49, .int .i64 (Int.tmod a3 (20 : Int))), (50, .sl 97 .ro (y166.map pv97)), (51, .bool y167), (52, .bool true), (53, .bool true), (54, .bool true), (55, .tup []), (56, .tup []), (57, .tup []), (58, .tup []), (59, .tup []), (60, .tup []), (61, .tup []), (62, .bool true), (63, .bool true), (64, .tup []), (65, .tup []), (66, .tup []), (67, .tup []), (68, .tup []), (69, .tup []), (70, .tup []), (71, .tup []), (72, .tup []), (73, .bool true), (2, .int .i64 a2), (3, .int .i64 a3), (4, .int .i64 a4), (12, .ptr (.loc 7 2) 0), (22, .sl 60 .ro (([y74, (⟨a1.Limit, a1.Last, a1.Counts, a1.Frames, a1.Buckets⟩ : Recorder)] : List Recorder).map pv60)), (23, .int .i64 (([y74, (⟨a1.Limit, a1.Last, a1.Counts, a1.Frames, a1.Buckets⟩ : Recorder)] : List Recorder).length : Int)), (24, .int .i64 v96)], [], [((.loc 7 2), [.int .i64 x142.Limit, .sl 97 .ro (x142.Last.map pv97), .int .i64 (x142.Counts 0), .int .i64 (x142.Counts 1), .int .i64 (x142.Counts 2), .int .i64 (x142.Counts 3), .int .i64 (x142.Counts 4), .int .i64 x142.Frames, .int .i64 (x142.Buckets 0), .int .i64 (x142.Buckets 1), .int .i64 (x142.Buckets 2), .int .i64 (x142.Buckets 3), .int .i64 (x142.Buckets 4), .int .i64 (x142.Buckets 5), .int .i64 (x142.Buckets 6), .int .i64 (x142.Buckets 7), .int .i64 (x142.Buckets 8), .int .i64 (x142.Buckets 9), .int .i64 (x142.Buckets 10), .int .i64 (x142.Buckets 11), .int .i64 (x142.Buckets 12), .int .i64 (x142.Buckets 13), .int .i64 (x142.Buckets 14), .int .i64 (x142.Buckets 15), .int .i64 (x142.Buckets 16), .int .i64 (x142.Buckets 17), .int .i64 (x142.Buckets 18), .int .i64 (x142.Buckets 19), .int .i64 (x142.Buckets 20), .int .i64 (x142.Buckets 21), .int .i64 (x142.Buckets 22), .int .i64 (x142.Buckets 23)])]⟩]
                  [(2, .int .i64 a2), (3, .int .i64 a3), (4, .int .i64 a4), (12, .ptr (.loc 7 2) 0), (22, .sl 60 .ro (([y74, (⟨a1.Limit, a1.Last, a1.Counts, a1.Frames, a1.Buckets⟩ : Recorder)] : List Recorder).map pv60)), (23, .int .i64 (([y74, (⟨a1.Limit, a1.Last, a1.Counts, a1.Frames, a1.Buckets⟩ : Recorder)] : List Recorder).length : Int)), (24, .int .i64 v96)]
                  (.cons [12] [] (fun _ _ h => .val (h _)) rfl rfl <|
                  .cons [2] [] (fun _ _ h => .move (h _)) rfl rfl <|
                  .cons [3] [] (fun _ _ h => .move (h _)) rfl rfl <|
                  .cons [28, 29, 30] [] (fun _ _ h => .cP (g53r hy161) (h _)) rfl rfl <|
                  .cons [12] [] (fun _ _ h => .val (h _)) rfl rfl <|
                  .cons [2] [] (fun _ _ h => .move (h _)) rfl rfl <|
                  .cons [3] [] (fun _ _ h => .move (h _)) rfl rfl <|
                  .cons [32, 33, 34] [] (fun _ _ h => .cP (g54r hy162) (h _)) rfl rfl <|
                  .cons [31, 35] [] (fun _ _ h => .cP (g52 hy163) (h _)) rfl rfl <|
                  .cons [36] [] (fun _ _ h => .valB hc164 (h _)) rfl rfl <|
                  .cons [37] [] (fun _ _ h => .move (h _)) rfl rfl <|
                  .cons [12, 38] [] (fun _ _ h => .val (h _)) rfl rfl <|
                  .cons [2, 38] [] (fun _ _ h => .move (h _)) rfl rfl <|
                  .cons [40, 38] [] (fun _ _ h => .val (h _) (hc := by decide)) rfl rfl <|
                  .cons [3, 38] [] (fun _ _ h => .move (h _)) rfl rfl <|
                  .cons [42, 38] [] (fun _ _ h => .val (h _) (hc := by decide)) rfl rfl <|
                  .cons [39, 41, 43, 38] [] (fun _ _ h => .cP (g53r hy165) (h _)) rfl rfl <|
                  .cons [12, 38] [] (fun _ _ h => .val (h _)) rfl rfl <|
                  .cons [2, 38] [] (fun _ _ h => .move (h _)) rfl rfl <|
                  .cons [46, 38] [] (fun _ _ h => .val (h _) (hc := by decide)) rfl rfl <|
                  .cons [3, 38] [] (fun _ _ h => .move (h _)) rfl rfl <|
                  .cons [48, 38] [] (fun _ _ h => .val (h _) (hc := by decide)) rfl rfl <|
                  .cons [45, 47, 49, 38] [] (fun _ _ h => .cP (g54r hy166) (h _)) rfl rfl <|
                  .cons [44, 50, 38] [] (fun _ _ h => .cP (g52 hy167) (h _)) rfl rfl <|
                  .cons [51, 38] [] (fun _ _ h => .valB hc168 (h _)) rfl rfl <|
                  .cons [38, 52] [] (fun _ _ h => .brF (h _)) rfl rfl <|
                  .cons [53] [] (fun _ _ h => .move (h _)) rfl rfl <|
                  .cons [54] [] (fun _ _ h => .skip (h _)) rfl rfl <|
                  .cons [54] [] (fun _ _ h => .skip (h _)) rfl rfl <|
                  .cons [54] [] (fun _ _ h => .skip (h _)) rfl rfl <|
                  .cons [54] [] (fun _ _ h => .skip (h _)) rfl rfl <|
                  .cons [54] [] (fun _ _ h => .skip (h _)) rfl rfl <|
                  .cons [54] [] (fun _ _ h => .skip (h _)) rfl rfl <|
                  .cons [54] [] (fun _ _ h => .skip (h _)) rfl rfl <|
                  .cons [54, 61] [] (fun _ _ h => .brT (h _)) rfl rfl <|
                  .cons [62] [] (fun _ _ h => .move (h _)) rfl rfl <|
                  .cons [63] [] (fun _ _ h => .skip (h _)) rfl rfl <|
                  .cons [63] [] (fun _ _ h => .skip (h _)) rfl rfl <|
                  .cons [63] [] (fun _ _ h => .skip (h _)) rfl rfl <|
                  .cons [63] [] (fun _ _ h => .skip (h _)) rfl rfl <|
                  .cons [63] [] (fun _ _ h => .skip (h _)) rfl rfl <|
                  .cons [63] [] (fun _ _ h => .skip (h _)) rfl rfl <|
                  .cons [63] [] (fun _ _ h => .skip (h _)) rfl rfl <|
                  .cons [63] [] (fun _ _ h => .skip (h _)) rfl rfl <|
                  .cons [63] [] (fun _ _ h => .skip (h _)) rfl rfl <|
                  .cons [63, 72] [] (fun _ _ h => .brT (h _)) rfl rfl <|
                  .nil)
                  (.nil)
                  (by kernel_rfl) rfl (.cons rfl (.cons rfl (.cons rfl (.cons rfl (.cons rfl (.cons rfl (.cons rfl (.nil)))))))) (.nil) (.cons rfl (.nil)) ?_
                exact ⟨_, (.inl ⟨rfl, h⟩), (imp_of (.cons rfl (.cons rfl (.cons rfl (.cons rfl (.cons rfl (.cons rfl (.cons rfl (.nil)))))))) (.nil))⟩
              · replace h := (if_neg (nt hc168)).symm.trans h
                obtain ⟨y169, hy169, h⟩ := bindE h
                obtain ⟨y170, hy170, h⟩ := bindE h
                rcases bool_em ((y169 != y170)) with hc171 | hc171
                · replace h := (if_pos hc171).symm.trans h
                  refine .draw [] [[], [], [], [], [], [], [], [], [], [], [], [], [], [], [], [], [], [], [], [], [], [], [], [], [], [], [], [], [], [], [], [], [], [], [], [], [], [], [], [], [], [], [], [], [], []] [[], [], [], [], [], [], [], [], [], [], [], [], [], [], [], [], [], [], [], [], [], [], [], [], [], [], [], [], [], [], [], [], [], [], [], [], [], [], [], [], [], [], [], [], [], []] [[]]
                    [(0, 0), (1, 0), (2, 0), (3, 0), (4, 0), (5, 0), (6, 0), (7, 0), (8, 0), (9, 0), (10, 0), (11, 0), (12, 0), (13, 0), (14, 0), (15, 0), (16, 0), (17, 0), (18, 0), (19, 0), (20, 0), (21, 0), (22, 0), (23, 0), (24, 0), (25, 0), (26, 0), (27, 0), (28, 0), (29, 0), (30, 0), (31, 0), (32, 0), (33, 0), (34, 0), (35, 0), (36, 0), (37, 0), (38, 0), (39, 0), (40, 0), (41, 0), (42, 0), (43, 0), (44, 0), (45, 0)] [] 0
                    [⟨[(28, .agg [.int .i64 x142.Limit, .sl 97 .ro (x142.Last.map pv97), .int .i64 (x142.Counts 0), .int .i64 (x142.Counts 1), .int .i64 (x142.Counts 2), .int .i64 (x142.Counts 3), .int .i64 (x142.Counts 4), .int .i64 x142.Frames, .int .i64 (x142.Buckets 0), .int .i64 (x142.Buckets 1), .int .i64 (x142.Buckets 2), .int .i64 (x142.Buckets 3), .int .i64 (x142.Buckets 4), .int .i64 (x142.Buckets 5), .int .i64 (x142.Buckets 6), .int .i64 (x142.Buckets 7), .int .i64 (x142.Buckets 8), .int .i64 (x142.Buckets 9), .int .i64 (x142.Buckets 10), .int .i64 (x142.Buckets 11), .int .i64 (x142.Buckets 12), .int .i64 (x142.Buckets 13), .int .i64 (x142.Buckets 14), .int .i64 (x142.Buckets 15), .int .i64 (x142.Buckets 16), .int .i64 (x142.Buckets 17), .int .i64 (x142.Buckets 18), .int .i64 (x142.Buckets 19), .int .i64 (x142.Buckets 20), .int .i64 (x142.Buckets 21), .int .i64 (x142.Buckets 22), .int .i64 (x142.Buckets 23)]), (29, .int .i64 a2), (30, .int .i64 a3), (31, .sl 97 .ro (y161.map pv97)), (32, .agg [.int .i64 x142.Limit, .sl 97 .ro (x142.Last.map pv97), .int .i64 (x142.Counts 0), .int .i64 (x142.Counts 1), .int .i64 (x142.Counts 2), .int .i64 (x142.Counts 3), .int .i64 (x142.Counts 4), .int .i64 x142.Frames, .int .i64 (x142.Buckets 0), .int .i64 (x142.Buckets 1), .int .i64 (x142.Buckets 2), .int .i64 (x142.Buckets 3), .int .i64 (x142.Buckets 4), .int .i64 (x142.Buckets 5), .int .i64 (x142.Buckets 6), .int .i64 (x142.Buckets 7), .int .i64 (x142.Buckets 8), .int .i64 (x142.Buckets 9), .int .i64 (x142.Buckets 10), .int .i64 (x142.Buckets 11), .int .i64 (x142.Buckets 12), .int .i64 (x142.Buckets 13), .int .i64 (x142.Buckets 14), .int .i64 (x142.Buckets 15), .int .i64 (x142.Buckets 16), .int .i64 (x142.Buckets 17), .int .i64 (x142.Buckets 18), .int .i64 (x142.Buckets 19), .int .i64 (x142.Buckets 20), .int .i64 (x142.Buckets 21), .int .i64 (x142.Buckets 22), .int .i64 (x142.Buckets 23)]), (33, .int .i64 a2), (34, .int .i64 a3), (35, .sl 97 .ro (y162.map pv97)), (36, .bool y163), (37, .bool false), (38, .bool false), (39, .agg [.int .i64 x142.Limit, .sl 97 .ro (x142.Last.map pv97), .int .i64 (x142.Counts 0), .int .i64 (x142.Counts 1), .int .i64 (x142.Counts 2), .int .i64 (x142.Counts 3), .int .i64 (x142.Counts 4), .int .i64 x142.Frames, .int .i64 (x142.Buckets 0), .int .i64 (x142.Buckets 1), .int .i64 (x142.Buckets 2), .int .i64 (x142.Buckets 3), .int .i64 (x142.Buckets 4), .int .i64 (x142.Buckets 5), .int .i64 (x142.Buckets 6), .int .i64 (x142.Buckets 7), .int .i64 (x142.Buckets 8), .int .i64 (x142.Buckets 9), .int .i64 (x142.Buckets 10), .int .i64 (x142.Buckets 11), .int .i64 (x142.Buckets 12), .int .i64 (x142.Buckets 13), .int .i64 (x142.Buckets 14), .int .i64 (x142.Buckets 15), .int .i64 (x142.Buckets 16), .int .i64 (x142.Buckets 17), .int .i64 (x142.Buckets 18), .int .i64 (x142.Buckets 19), .int .i64 (x142.Buckets 20), .int .i64 (x142.Buckets 21), .int .i64 (x142.Buckets 22), .int .i64 (x142.Buckets 23)]), (40, .int .i64 a2), (41, .int .i64 (Int.tmod a2 (20 : Int))), (42, .int .i64 a3), (43, .int .i64 (Int.tmod a3 (20 : Int))), (44, .sl 97 .ro (y165.map pv97)), (45, .agg [.int .i64 x142.Limit, .sl 97 .ro (x142.Last.map pv97), .int .i64 (x142.Counts 0), .int .i64 (x142.Counts 1), .int .i64 (x142.Counts 2), .int .i64 (x142.Counts 3), .int .i64 (x142.Counts 4), .int .i64 x142.Frames, .int .i64 (x142.Buckets 0), .int .i64 (x142.Buckets 1), .int .i64 (x142.Buckets 2), .int .i64 (x142.Buckets 3), .int .i64 (x142.Buckets 4), .int .i64 (x142.Buckets 5), .int .i64 (x142.Buckets 6), .int .i64 (x142.Buckets 7), .int .i64 (x142.Buckets 8), .int .i64 (x142.Buckets 9), .int .i64 (x142.Buckets 10), .int .i64 (x142.Buckets 11), .int .i64 (x142.Buckets 12), .int .i64 (x142.Buckets 13), .int .i64 (x142.Buckets 14), .int .i64 (x142.Buckets 15), .int .i64 (x142.Buckets 16), .int .i64 (x142.Buckets 17), .int .i64 (x142.Buckets 18), .int .i64 (x142.Buckets 19), .int .i64 (x142.Buckets 20), .int .i64 (x142.Buckets 21), .int .i64 (x142.Buckets 22), .int .i64 (x142.Buckets 23)]), (46, .int .i64 a2), (47, .int .i64 (Int.tmod a2 (20 : Int))), (48, .int .i64 a3), (49, .int .i64 (Int.tmod a3 (20 : Int))), (50, .sl 97 .ro (y166.map pv97)), (51, .bool y167), (52, .bool false), (53, .bool false), (54, .bool false), (55, .agg [.int .i64 x142.Limit, .sl 97 .ro (x142.Last.map pv97), .int .i64 (x142.Counts 0), .int .i64 (x142.Counts 1), .int .i64 (x142.Counts 2), .int .i64 (x142.Counts 3), .int .i64 (x142.Counts 4), .int .i64 x142.Frames, .int .i64 (x142.Buckets 0), .int .i64 (x142.Buckets 1), .int .i64 (x142.Buckets 2), .int .i64 (x142.Buckets 3), .int .i64 (x142.Buckets 4), .int .i64 (x142.Buckets 5), .int .i64 (x142.Buckets 6), .int .i64 (x142.Buckets 7), .int .i64 (x142.Buckets 8), .int .i64 (x142.Buckets 9), .int .i64 (x142.Buckets 10), .int .i64 (x142.Buckets 11), .int .i64 (x142.Buckets 12), .int .i64 (x142.Buckets 13), .int .i64 (x142.Buckets 14), .int .i64 (x142.Buckets 15), .int .i64 (x142.Buckets 16), .int .i64 (x142.Buckets 17), .int .i64 (x142.Buckets 18), .int .i64 (x142.Buckets 19), .int .i64 (x142.Buckets 20), .int .i64 (x142.Buckets 21), .int .i64 (x142.Buckets 22), .int .i64 (x142.Buckets 23)]), (56, .int .i64 a4), (57, .int .i64 y169), (58, .agg [.int .i64 x142.Limit, .sl 97 .ro (x142.Last.map pv97), .int .i64 (x142.Counts 0), .int .i64 (x142.Counts 1), .int .i64 (x142.Counts 2), .int .i64 (x142.Counts 3), .int .i64 (x142.Counts 4), .int .i64 x142.Frames, .int .i64 (x142.Buckets 0), .int .i64 (x142.Buckets 1), .int .i64 (x142.Buckets 2), .int .i64 (x142.Buckets 3), .int .i64 (x142.Buckets 4), .int .i64 (x142.Buckets 5), .int .i64 (x142.Buckets 6), .int .i64 (x142.Buckets 7), .int .i64 (x142.Buckets 8), .int .i64 (x142.Buckets 9), .int .i64 (x142.Buckets 10), .int .i64 (x142.Buckets 11), .int .i64 (x142.Buckets 12), .int .i64 (x142.Buckets 13), .int .i64 (x142.Buckets 14), .int .i64 (x142.Buckets 15), .int .i64 (x142.Buckets 16), .int .i64 (x142.Buckets 17), .int .i64 (x142.Buckets 18), .int .i64 (x142.Buckets 19), .int .i64 (x142.Buckets 20), .int .i64 (x142.Buckets 21), .int .i64 (x142.Buckets 22), .int .i64 (x142.Buckets 23)]), (59, .int .i64 a4), (60, .int .i64 y170), (61, .bool true), (62, .bool true), (63, .bool true), (64, .tup []), (65, .tup []), (66, .tup []), (67, .tup []), (68, .tup []), (69, .tup []), (70, .tup []), (71, .tup []), (72, .tup []), (73, .bool true), (2, .int .i64 a2), (3, .int .i64 a3), (4, .int .i64 a4), (12, .ptr (.loc 7 2) 0), (22, .sl 60 .ro (([y74, (⟨a1.Limit, a1.Last, a1.Counts, a1.Frames, a1.Buckets⟩ : Recorder)] : List Recorder).map pv60)), (23, .int .i64 (([y74, (⟨a1.Limit, a1.Last, a1.Counts, a1.Frames, a1.Buckets⟩ : Recorder)] : List Recorder).length : Int)), (24, .int .i64 v96)], [], [((.loc 7 2), [.int .i64 x142.Limit, .sl 97 .ro (x142.Last.map pv97), .int .i64 (x142.Counts 0), .int .i64 (x142.Counts 1), .int .i64 (x142.Counts 2), .int .i64 (x142.Counts 3), .int .i64 (x142.Counts 4), .int .i64 x142.Frames, .int .i64 (x142.Buckets 0), .int .i64 (x142.Buckets 1), .int .i64 (x142.Buckets 2), .int .i64 (x142.Buckets 3), .int .i64 (x142.Buckets 4), .int .i64 (x142.Buckets 5), .int .i64 (x142.Buckets 6), .int .i64 (x142.Buckets 7), .int .i64 (x142.Buckets 8), .int .i64 (x142.Buckets 9), .int .i64 (x142.Buckets 10), .int .i64 (x142.Buckets 11), .int .i64 (x142.Buckets 12), .int .i64 (x142.Buckets 13), .int .i64 (x142.Buckets 14), .int .i64 (x142.Buckets 15), .int .i64 (x142.Buckets 16), .int .i64 (x142.Buckets 17), .int .i64 (x142.Buckets 18), .int .i64 (x142.Buckets 19), .int .i64 (x142.Buckets 20), .int .i64 (x142.Buckets 21), .int .i64 (x142.Buckets 22), .int .i64 (x142.Buckets 23)])]⟩]
                    [(2, .int .i64 a2), (3, .int .i64 a3), (4, .int .i64 a4), (12, .ptr (.loc 7 2) 0), (22, .sl 60 .ro (([y74, (⟨a1.Limit, a1.Last, a1.Counts, a1.Frames, a1.Buckets⟩ : Recorder)] : List Recorder).map pv60)), (23, .int .i64 (([y74, (⟨a1.Limit, a1.Last, a1.Counts, a1.Frames, a1.Buckets⟩ : Recorder)] : List Recorder).length : Int)), (24, .int .i64 v96)]
                    (.cons [12] [] (fun _ _ h => .val (h _)) rfl rfl <|
                    .cons [2] [] (fun _ _ h => .move (h _)) rfl rfl <|
                    .cons [3] [] (fun _ _ h => .move (h _)) rfl rfl <|
                    .cons [28, 29, 30] [] (fun _ _ h => .cP (g53r hy161) (h _)) rfl rfl <|
                    .cons [12] [] (fun _ _ h => .val (h _)) rfl rfl <|
                    .cons [2] [] (fun _ _ h => .move (h _)) rfl rfl <|
                    .cons [3] [] (fun _ _ h => .move (h _)) rfl rfl <|
                    .cons [32, 33, 34] [] (fun _ _ h => .cP (g54r hy162) (h _)) rfl rfl <|
                    .cons [31, 35] [] (fun _ _ h => .cP (g52 hy163) (h _)) rfl rfl <|
                    .cons [36] [] (fun _ _ h => .valB hc164 (h _)) rfl rfl <|
                    .cons [37] [] (fun _ _ h => .move (h _)) rfl rfl <|
                    .cons [12, 38] [] (fun _ _ h => .val (h _)) rfl rfl <|
                    .cons [2, 38] [] (fun _ _ h => .move (h _)) rfl rfl <|
                    .cons [40, 38] [] (fun _ _ h => .val (h _) (hc := by decide)) rfl rfl <|
                    .cons [3, 38] [] (fun _ _ h => .move (h _)) rfl rfl <|
                    .cons [42, 38] [] (fun _ _ h => .val (h _) (hc := by decide)) rfl rfl <|
                    .cons [39, 41, 43, 38] [] (fun _ _ h => .cP (g53r hy165) (h _)) rfl rfl <|
                    .cons [12, 38] [] (fun _ _ h => .val (h _)) rfl rfl <|
                    .cons [2, 38] [] (fun _ _ h => .move (h _)) rfl rfl <|
                    .cons [46, 38] [] (fun _ _ h => .val (h _) (hc := by decide)) rfl rfl <|
                    .cons [3, 38] [] (fun _ _ h => .move (h _)) rfl rfl <|
                    .cons [48, 38] [] (fun _ _ h => .val (h _) (hc := by decide)) rfl rfl <|
                    .cons [45, 47, 49, 38] [] (fun _ _ h => .cP (g54r hy166) (h _)) rfl rfl <|
                    .cons [44, 50, 38] [] (fun _ _ h => .cP (g52 hy167) (h _)) rfl rfl <|
                    .cons [51, 38] [] (fun _ _ h => .valB hc168 (h _)) rfl rfl <|
                    .cons [38, 52] [] (fun _ _ h => .brF (h _)) rfl rfl <|
                    .cons [53] [] (fun _ _ h => .move (h _)) rfl rfl <|
                    .cons [12, 54] [] (fun _ _ h => .val (h _)) rfl rfl <|
                    .cons [4, 54] [] (fun _ _ h => .move (h _)) rfl rfl <|
                    .cons [55, 56, 54] [] (fun _ _ h => .cP (g40 hy169) (h _)) rfl rfl <|
                    .cons [12, 54] [] (fun _ _ h => .val (h _)) rfl rfl <|
                    .cons [4, 54] [] (fun _ _ h => .move (h _)) rfl rfl <|
                    .cons [58, 59, 54] [] (fun _ _ h => .cP (g55 hy170) (h _)) rfl rfl <|
                    .cons [57, 60, 54] [] (fun _ _ h => .valB hc171 (h _)) rfl rfl <|
                    .cons [54, 61] [] (fun _ _ h => .brF (h _)) rfl rfl <|
                    .cons [62] [] (fun _ _ h => .move (h _)) rfl rfl <|
                    .cons [63] [] (fun _ _ h => .skip (h _)) rfl rfl <|
                    .cons [63] [] (fun _ _ h => .skip (h _)) rfl rfl <|
                    .cons [63] [] (fun _ _ h => .skip (h _)) rfl rfl <|
                    .cons [63] [] (fun _ _ h => .skip (h _)) rfl rfl <|
                    .cons [63] [] (fun _ _ h => .skip (h _)) rfl rfl <|
                    .cons [63] [] (fun _ _ h => .skip (h _)) rfl rfl <|
                    .cons [63] [] (fun _ _ h => .skip (h _)) rfl rfl <|
                    .cons [63] [] (fun _ _ h => .skip (h _)) rfl rfl <|
                    .cons [63] [] (fun _ _ h => .skip (h _)) rfl rfl <|
                    .cons [63, 72] [] (fun _ _ h => .brT (h _)) rfl rfl <|
                    .nil)
                    (.nil)
                    (by kernel_rfl) rfl (.cons rfl (.cons rfl (.cons rfl (.cons rfl (.cons rfl (.cons rfl (.cons rfl (.nil)))))))) (.nil) (.cons rfl (.nil)) ?_
                  exact ⟨_, (.inl ⟨rfl, h⟩), (imp_of (.cons rfl (.cons rfl (.cons rfl (.cons rfl (.cons rfl (.cons rfl (.cons rfl (.nil)))))))) (.nil))⟩
                · replace h := (if_neg (nt hc171)).symm.trans h
                  obtain ⟨y172, hy172, h⟩ := bindE h
                  obtain ⟨y173, hy173, h⟩ := bindE h
                  obtain ⟨y174, hy174, h⟩ := bindE h
                  obtain ⟨y175, hy175, h⟩ := bindE h
                  refine .draw [] [[], [], [], [], [], [], [], [], [], [], [], [], [], [], [], [], [], [], [], [], [], [], [], [], [], [], [], [], [], [], [], [], [], [], [], [], [], [], [], [], [], [], [], [], [], []] [[], [], [], [], [], [], [], [], [], [], [], [], [], [], [], [], [], [], [], [], [], [], [], [], [], [], [], [], [], [], [], [], [], [], [], [], [], [], [], [], [], [], [], [], [], []] [[]]
                    [(0, 0), (1, 0), (2, 0), (3, 0), (4, 0), (5, 0), (6, 0), (7, 0), (8, 0), (9, 0), (10, 0), (11, 0), (12, 0), (13, 0), (14, 0), (15, 0), (16, 0), (17, 0), (18, 0), (19, 0), (20, 0), (21, 0), (22, 0), (23, 0), (24, 0), (25, 0), (26, 0), (27, 0), (28, 0), (29, 0), (30, 0), (31, 0), (32, 0), (33, 0), (34, 0), (35, 0), (36, 0), (37, 0), (38, 0), (39, 0), (40, 0), (41, 0), (42, 0), (43, 0), (44, 0), (45, 0)] [] 0
                    [⟨[(28, .agg [.int .i64 x142.Limit, .sl 97 .ro (x142.Last.map pv97), .int .i64 (x142.Counts 0), .int .i64 (x142.Counts 1), .int .i64 (x142.Counts 2), .int .i64 (x142.Counts 3), .int .i64 (x142.Counts 4), .int .i64 x142.Frames, .int .i64 (x142.Buckets 0), .int .i64 (x142.Buckets 1), .int .i64 (x142.Buckets 2), .int .i64 (x142.Buckets 3), .int .i64 (x142.Buckets 4), .int .i64 (x142.Buckets 5), .int .i64 (x142.Buckets 6), .int .i64 (x142.Buckets 7), .int .i64 (x142.Buckets 8), .int .i64 (x142.Buckets 9), .int .i64 (x142.Buckets 10), .int .i64 (x142.Buckets 11), .int .i64 (x142.Buckets 12), .int .i64 (x142.Buckets 13), .int .i64 (x142.Buckets 14), .int .i64 (x142.Buckets 15), .int .i64 (x142.Buckets 16), .int .i64 (x142.Buckets 17), .int .i64 (x142.Buckets 18), .int .i64 (x142.Buckets 19), .int .i64 (x142.Buckets 20), .int .i64 (x142.Buckets 21), .int .i64 (x142.Buckets 22), .int .i64 (x142.Buckets 23)]), (29, .int .i64 a2), (30, .int .i64 a3), (31, .sl 97 .ro (y161.map pv97)), (32, .agg [.int .i64 x142.Limit, .sl 97 .ro (x142.Last.map pv97), .int .i64 (x142.Counts 0), .int .i64 (x142.Counts 1), .int .i64 (x142.Counts 2), .int .i64 (x142.Counts 3), .int .i64 (x142.Counts 4), .int .i64 x142.Frames, .int .i64 (x142.Buckets 0), .int .i64 (x142.Buckets 1), .int .i64 (x142.Buckets 2), .int .i64 (x142.Buckets 3), .int .i64 (x142.Buckets 4), .int .i64 (x142.Buckets 5), .int .i64 (x142.Buckets 6), .int .i64 (x142.Buckets 7), .int .i64 (x142.Buckets 8), .int .i64 (x142.Buckets 9), .int .i64 (x142.Buckets 10), .int .i64 (x142.Buckets 11), .int .i64 (x142.Buckets 12), .int .i64 (x142.Buckets 13), .int .i64 (x142.Buckets 14), .int .i64 (x142.Buckets 15), .int .i64 (x142.Buckets 16), .int .i64 (x142.Buckets 17), .int .i64 (x142.Buckets 18), .int .i64 (x142.Buckets 19), .int .i64 (x142.Buckets 20), .int .i64 (x142.Buckets 21), .int .i64 (x142.Buckets 22), .int .i64 (x142.Buckets 23)]), (33, .int .i64 a2), (34, .int .i64 a3), (35, .sl 97 .ro (y162.map pv97)), (36, .bool y163), (37, .bool false), (38, .bool false), (39, .agg [.int .i64 x142.Limit, .sl 97 .ro (x142.Last.map pv97), .int .i64 (x142.Counts 0), .int .i64 (x142.Counts 1), .int .i64 (x142.Counts 2), .int .i64 (x142.Counts 3), .int .i64 (x142.Counts 4), .int .i64 x142.Frames, .int .i64 (x142.Buckets 0), .int .i64 (x142.Buckets 1), .int .i64 (x142.Buckets 2), .int .i64 (x142.Buckets 3), .int .i64 (x142.Buckets 4), .int .i64 (x142.Buckets 5), .int .i64 (x142.Buckets 6), .int .i64 (x142.Buckets 7), .int .i64 (x142.Buckets 8), .int .i64 (x142.Buckets 9), .int .i64 (x142.Buckets 10), .int .i64 (x142.Buckets 11), .int .i64 (x142.Buckets 12), .int .i64 (x142.Buckets 13), .int .i64 (x142.Buckets 14), .int .i64 (x142.Buckets 15), .int .i64 (x142.Buckets 16), .int .i64 (x142.Buckets 17), .int .i64 (x142.Buckets 18), .int .i64 (x142.Buckets 19), .int .i64 (x142.Buckets 20), .int .i64 (x142.Buckets 21), .int .i64 (x142.Buckets 22), .int .i64 (x142.Buckets 23)]), (40, .int .i64 a2), (41, .int .i64 (Int.tmod a2 (20 : Int))), (42, .int .i64 a3), (43, .int .i64 (Int.tmod a3 (20 : Int))), (44, .sl 97 .ro (y165.map pv97)), (45, .agg [.int .i64 x142.Limit, .sl 97 .ro (x142.Last.map pv97), .int .i64 (x142.Counts 0), .int .i64 (x142.Counts 1), .int .i64 (x142.Counts 2), .int .i64 (x142.Counts 3), .int .i64 (x142.Counts 4), .int .i64 x142.Frames, .int .i64 (x142.Buckets 0), .int .i64 (x142.Buckets 1), .int .i64 (x142.Buckets 2), .int .i64 (x142.Buckets 3), .int .i64 (x142.Buckets 4), .int .i64 (x142.Buckets 5), .int .i64 (x142.Buckets 6), .int .i64 (x142.Buckets 7), .int .i64 (x142.Buckets 8), .int .i64 (x142.Buckets 9), .int .i64 (x142.Buckets 10), .int .i64 (x142.Buckets 11), .int .i64 (x142.Buckets 12), .int .i64 (x142.Buckets 13), .int .i64 (x142.Buckets 14), .int .i64 (x142.Buckets 15), .int .i64 (x142.Buckets 16), .int .i64 (x142.Buckets 17), .int .i64 (x142.Buckets 18), .int .i64 (x142.Buckets 19), .int .i64 (x142.Buckets 20), .int .i64 (x142.Buckets 21), .int .i64 (x142.Buckets 22), .int .i64 (x142.Buckets 23)]), (46, .int .i64 a2), (47, .int .i64 (Int.tmod a2 (20 : Int))), (48, .int .i64 a3), (49, .int .i64 (Int.tmod a3 (20 : Int))), (50, .sl 97 .ro (y166.map pv97)), (51, .bool y167), (52, .bool false), (53, .bool false), (54, .bool false), (55, .agg [.int .i64 x142.Limit, .sl 97 .ro (x142.Last.map pv97), .int .i64 (x142.Counts 0), .int .i64 (x142.Counts 1), .int .i64 (x142.Counts 2), .int .i64 (x142.Counts 3), .int .i64 (x142.Counts 4), .int .i64 x142.Frames, .int .i64 (x142.Buckets 0), .int .i64 (x142.Buckets 1), .int .i64 (x142.Buckets 2), .int .i64 (x142.Buckets 3), .int .i64 (x142.Buckets 4), .int .i64 (x142.Buckets 5), .int .i64 (x142.Buckets 6), .int .i64 (x142.Buckets 7), .int .i64 (x142.Buckets 8), .int .i64 (x142.Buckets 9), .int .i64 (x142.Buckets 10), .int .i64 (x142.Buckets 11), .int .i64 (x142.Buckets 12), .int .i64 (x142.Buckets 13), .int .i64 (x142.Buckets 14), .int .i64 (x142.Buckets 15), .int .i64 (x142.Buckets 16), .int .i64 (x142.Buckets 17), .int .i64 (x142.Buckets 18), .int .i64 (x142.Buckets 19), .int .i64 (x142.Buckets 20), .int .i64 (x142.Buckets 21), .int .i64 (x142.Buckets 22), .int .i64 (x142.Buckets 23)]), (56, .int .i64 a4), (57, .int .i64 y169), (58, .agg [.int .i64 x142.Limit, .sl 97 .ro (x142.Last.map pv97), .int .i64 (x142.Counts 0), .int .i64 (x142.Counts 1), .int .i64 (x142.Counts 2), .int .i64 (x142.Counts 3), .int .i64 (x142.Counts 4), .int .i64 x142.Frames, .int .i64 (x142.Buckets 0), .int .i64 (x142.Buckets 1), .int .i64 (x142.Buckets 2), .int .i64 (x142.Buckets 3), .int .i64 (x142.Buckets 4), .int .i64 (x142.Buckets 5), .int .i64 (x142.Buckets 6), .int .i64 (x142.Buckets 7), .int .i64 (x142.Buckets 8), .int .i64 (x142.Buckets 9), .int .i64 (x142.Buckets 10), .int .i64 (x142.Buckets 11), .int .i64 (x142.Buckets 12), .int .i64 (x142.Buckets 13), .int .i64 (x142.Buckets 14), .int .i64 (x142.Buckets 15), .int .i64 (x142.Buckets 16), .int .i64 (x142.Buckets 17), .int .i64 (x142.Buckets 18), .int .i64 (x142.Buckets 19), .int .i64 (x142.Buckets 20), .int .i64 (x142.Buckets 21), .int .i64 (x142.Buckets 22), .int .i64 (x142.Buckets 23)]), (59, .int .i64 a4), (60, .int .i64 y170), (61, .bool false), (62, .bool false), (63, .bool false), (64, .agg [.int .i64 x142.Limit, .sl 97 .ro (x142.Last.map pv97), .int .i64 (x142.Counts 0), .int .i64 (x142.Counts 1), .int .i64 (x142.Counts 2), .int .i64 (x142.Counts 3), .int .i64 (x142.Counts 4), .int .i64 x142.Frames, .int .i64 (x142.Buckets 0), .int .i64 (x142.Buckets 1), .int .i64 (x142.Buckets 2), .int .i64 (x142.Buckets 3), .int .i64 (x142.Buckets 4), .int .i64 (x142.Buckets 5), .int .i64 (x142.Buckets 6), .int .i64 (x142.Buckets 7), .int .i64 (x142.Buckets 8), .int .i64 (x142.Buckets 9), .int .i64 (x142.Buckets 10), .int .i64 (x142.Buckets 11), .int .i64 (x142.Buckets 12), .int .i64 (x142.Buckets 13), .int .i64 (x142.Buckets 14), .int .i64 (x142.Buckets 15), .int .i64 (x142.Buckets 16), .int .i64 (x142.Buckets 17), .int .i64 (x142.Buckets 18), .int .i64 (x142.Buckets 19), .int .i64 (x142.Buckets 20), .int .i64 (x142.Buckets 21), .int .i64 (x142.Buckets 22), .int .i64 (x142.Buckets 23)]), (65, .int .i64 a4), (66, .int .i64 y172), (67, .int .i64 y173), (68, .agg [.int .i64 x142.Limit, .sl 97 .ro (x142.Last.map pv97), .int .i64 (x142.Counts 0), .int .i64 (x142.Counts 1), .int .i64 (x142.Counts 2), .int .i64 (x142.Counts 3), .int .i64 (x142.Counts 4), .int .i64 x142.Frames, .int .i64 (x142.Buckets 0), .int .i64 (x142.Buckets 1), .int .i64 (x142.Buckets 2), .int .i64 (x142.Buckets 3), .int .i64 (x142.Buckets 4), .int .i64 (x142.Buckets 5), .int .i64 (x142.Buckets 6), .int .i64 (x142.Buckets 7), .int .i64 (x142.Buckets 8), .int .i64 (x142.Buckets 9), .int .i64 (x142.Buckets 10), .int .i64 (x142.Buckets 11), .int .i64 (x142.Buckets 12), .int .i64 (x142.Buckets 13), .int .i64 (x142.Buckets 14), .int .i64 (x142.Buckets 15), .int .i64 (x142.Buckets 16), .int .i64 (x142.Buckets 17), .int .i64 (x142.Buckets 18), .int .i64 (x142.Buckets 19), .int .i64 (x142.Buckets 20), .int .i64 (x142.Buckets 21), .int .i64 (x142.Buckets 22), .int .i64 (x142.Buckets 23)]), (69, .int .i64 a4), (70, .int .i64 y174), (71, .int .i64 y175), (72, .bool (y173 != y175)), (73, .bool (y173 != y175)), (2, .int .i64 a2), (3, .int .i64 a3), (4, .int .i64 a4), (12, .ptr (.loc 7 2) 0), (22, .sl 60 .ro (([y74, (⟨a1.Limit, a1.Last, a1.Counts, a1.Frames, a1.Buckets⟩ : Recorder)] : List Recorder).map pv60)), (23, .int .i64 (([y74, (⟨a1.Limit, a1.Last, a1.Counts, a1.Frames, a1.Buckets⟩ : Recorder)] : List Recorder).length : Int)), (24, .int .i64 v96)], [], [((.loc 7 2), [.int .i64 x142.Limit, .sl 97 .ro (x142.Last.map pv97), .int .i64 (x142.Counts 0), .int .i64 (x142.Counts 1), .int .i64 (x142.Counts 2), .int .i64 (x142.Counts 3), .int .i64 (x142.Counts 4), .int .i64 x142.Frames, .int .i64 (x142.Buckets 0), .int .i64 (x142.Buckets 1), .int .i64 (x142.Buckets 2), .int .i64 (x142.Buckets 3), .int .i64 (x142.Buckets 4), .int .i64 (x142.Buckets 5), .int .i64 (x142.Buckets 6), .int .i64 (x142.Buckets 7), .int .i64 (x142.Buckets 8), .int .i64 (x142.Buckets 9), .int .i64 (x142.Buckets 10), .int .i64 (x142.Buckets 11), .int .i64 (x142.Buckets 12), .int .i64 (x142.Buckets 13), .int .i64 (x142.Buckets 14), .int .i64 (x142.Buckets 15), .int .i64 (x142.Buckets 16), .int .i64 (x142.Buckets 17), .int .i64 (x142.Buckets 18), .int .i64 (x142.Buckets 19), .int .i64 (x142.Buckets 20), .int .i64 (x142.Buckets 21), .int .i64 (x142.Buckets 22), .int .i64 (x142.Buckets 23)])]⟩]
                    [(2, .int .i64 a2), (3, .int .i64 a3), (4, .int .i64 a4), (12, .ptr (.loc 7 2) 0), (22, .sl 60 .ro (([y74, (⟨a1.Limit, a1.Last, a1.Counts, a1.Frames, a1.Buckets⟩ : Recorder)] : List Recorder).map pv60)), (23, .int .i64 (([y74, (⟨a1.Limit, a1.Last, a1.Counts, a1.Frames, a1.Buckets⟩ : Recorder)] : List Recorder).length : Int)), (24, .int .i64 v96)]
                    (.cons [12] [] (fun _ _ h => .val (h _)) rfl rfl <|
                    .cons [2] [] (fun _ _ h => .move (h _)) rfl rfl <|
                    .cons [3] [] (fun _ _ h => .move (h _)) rfl rfl <|
                    .cons [28, 29, 30] [] (fun _ _ h => .cP (g53r hy161) (h _)) rfl rfl <|
                    .cons [12] [] (fun _ _ h => .val (h _)) rfl rfl <|
                    .cons [2] [] (fun _ _ h => .move (h _)) rfl rfl <|
                    .cons [3] [] (fun _ _ h => .move (h _)) rfl rfl <|
                    .cons [32, 33, 34] [] (fun _ _ h => .cP (g54r hy162) (h _)) rfl rfl <|
                    .cons [31, 35] [] (fun _ _ h => .cP (g52 hy163) (h _)) rfl rfl <|
                    .cons [36] [] (fun _ _ h => .valB hc164 (h _)) rfl rfl <|
                    .cons [37] [] (fun _ _ h => .move (h _)) rfl rfl <|
                    .cons [12, 38] [] (fun _ _ h => .val (h _)) rfl rfl <|
                    .cons [2, 38] [] (fun _ _ h => .move (h _)) rfl rfl <|
                    .cons [40, 38] [] (fun _ _ h => .val (h _) (hc := by decide)) rfl rfl <|
                    .cons [3, 38] [] (fun _ _ h => .move (h _)) rfl rfl <|
                    .cons [42, 38] [] (fun _ _ h => .val (h _) (hc := by decide)) rfl rfl <|
                    .cons [39, 41, 43, 38] [] (fun _ _ h => .cP (g53r hy165) (h _)) rfl rfl <|
                    .cons [12, 38] [] (fun _ _ h => .val (h _)) rfl rfl <|
                    .cons [2, 38] [] (fun _ _ h => .move (h _)) rfl rfl <|
                    .cons [46, 38] [] (fun _ _ h => .val (h _) (hc := by decide)) rfl rfl <|
                    .cons [3, 38] [] (fun _ _ h => .move (h _)) rfl rfl <|
                    .cons [48, 38] [] (fun _ _ h => .val (h _) (hc := by decide)) rfl rfl <|
                    .cons [45, 47, 49, 38] [] (fun _ _ h => .cP (g54r hy166) (h _)) rfl rfl <|
                    .cons [44, 50, 38] [] (fun _ _ h => .cP (g52 hy167) (h _)) rfl rfl <|
                    .cons [51, 38] [] (fun _ _ h => .valB hc168 (h _)) rfl rfl <|
                    .cons [38, 52] [] (fun _ _ h => .brF (h _)) rfl rfl <|
                    .cons [53] [] (fun _ _ h => .move (h _)) rfl rfl <|
                    .cons [12, 54] [] (fun _ _ h => .val (h _)) rfl rfl <|
                    .cons [4, 54] [] (fun _ _ h => .move (h _)) rfl rfl <|
                    .cons [55, 56, 54] [] (fun _ _ h => .cP (g40 hy169) (h _)) rfl rfl <|
                    .cons [12, 54] [] (fun _ _ h => .val (h _)) rfl rfl <|
                    .cons [4, 54] [] (fun _ _ h => .move (h _)) rfl rfl <|
                    .cons [58, 59, 54] [] (fun _ _ h => .cP (g55 hy170) (h _)) rfl rfl <|
                    .cons [57, 60, 54] [] (fun _ _ h => .valB hc171 (h _)) rfl rfl <|
                    .cons [54, 61] [] (fun _ _ h => .brF (h _)) rfl rfl <|
                    .cons [62] [] (fun _ _ h => .move (h _)) rfl rfl <|
                    .cons [12, 63] [] (fun _ _ h => .val (h _)) rfl rfl <|
                    .cons [4, 63] [] (fun _ _ h => .move (h _)) rfl rfl <|
                    .cons [65, 63] [] (fun _ _ h => .cP (g39 hy172) (h _)) rfl rfl <|
                    .cons [64, 66, 63] [] (fun _ _ h => .cP (g40 hy173) (h _)) rfl rfl <|
                    .cons [12, 63] [] (fun _ _ h => .val (h _)) rfl rfl <|
                    .cons [4, 63] [] (fun _ _ h => .move (h _)) rfl rfl <|
                    .cons [69, 63] [] (fun _ _ h => .cP (g39 hy174) (h _)) rfl rfl <|
                    .cons [68, 70, 63] [] (fun _ _ h => .cP (g55 hy175) (h _)) rfl rfl <|
                    .cons [67, 71, 63] [] (fun _ _ h => .val (h _)) rfl rfl <|
                    .cons [63, 72] [] (fun _ _ h => .brF (h _)) rfl rfl <|
                    .nil)
                    (.nil)
                    (by kernel_rfl) rfl (.cons rfl (.cons rfl (.cons rfl (.cons rfl (.cons rfl (.cons rfl (.cons rfl (.nil)))))))) (.nil) (.cons rfl (.nil)) ?_
                  exact ⟨_, (.inr (⟨_, rfl, h⟩)), (imp_of (.cons rfl (.cons rfl (.cons rfl (.cons rfl (.cons rfl (.cons rfl (.cons rfl (.nil)))))))) (.nil))⟩
          · rintro T (⟨rfl, h⟩ | ⟨v159, rfl, h⟩)
            · subst hj158
              refine .condT ?_
              refine .seq ?_
              refine .region ?_
              refine .assign ?_
              refine .nil ?_
              cases h
              exact .ret (fin_gen0 none)
            · subst hj160
              refine .cond (fun hc176 => ?_) (fun hc176 => ?_)
              · replace h := (if_pos hc176).symm.trans h
                refine .seq ?_
                refine .region ?_
                refine .assign ?_
                refine .nil ?_
                cases h
                exact .ret (fin_gen0 none)
              · replace h := (if_neg (nt hc176)).symm.trans h
                refine .skip ?_
                refine .region ?_
                refine .val ?_
                refine .move ?_
                refine .nil ?_
                exact ⟨m119, _, Nat.lt_succ_self m119, ⟨_, rfl, h⟩, (imp_of (.cons rfl (.cons rfl (.cons rfl (.cons rfl (.cons rfl (.cons rfl (.nil))))))) (.nil))⟩
        · replace h := (if_neg (nt hc121)).symm.trans h
          refine .exit (.hit ?_)
          exact ⟨_, ⟨rfl, h⟩, (imp_of (.nil) (.nil))⟩
      · rintro T ⟨rfl, h⟩
        subst hj73
        refine .seq ?_
        refine .region ?_
        refine .assign ?_
        refine .nil ?_
        cases h
        exact .ret (fin_gen0 none)
end Go.Proofs.Ytacdknbakjbpiaa
