/-
  Plain functions of soundservicelaw38, and that the code does what they say.
-/
import Derived.Test.YtacdknbakjbpiaaGg
namespace Go.Proofs.Ytacdknbakjbpiaa
open Go Ab
/- soundservice/soundservicelaw38.RecorderBounds -/
def f7_l1 (n : Nat) (a0 : (List Int)) (j40 : Int → (List Glitch) → (Nat → Int) → Int → (Nat → Int) → Option Bool) : Nat → Int → (List Glitch) → (Nat → Int) → Int → (Nat → Int) → Int → Option Bool
  | 0, _, _, _, _, _, _ => none
  | m63 + 1, v46, v47, v48, v49, v50, v51 =>
    if decide (v51 < (a0.length : Int)) then (
    (lAt a0 v51).bind fun x70 =>
    (f39 n x70 (4194304 : Int)).bind fun y71 =>
    (f38 n (⟨v46, v47, v48, v49, v50⟩ : Recorder) y71).bind fun y72 =>
    if (y72.2 != (0 : Int)) then (
    some false)
    else (
    f7_l1 n a0 j40 m63 y72.1.Limit y72.1.Last y72.1.Counts y72.1.Frames y72.1.Buckets (w64 (v51 + (1 : Int)))))
    else (
    j40 v46 v47 v48 v49 v50)
def f7_l2 (n : Nat) (a0 : (List Int)) (v35 : Int) (v36 : (List Glitch)) (v37 : (Nat → Int)) (v38 : Int) (v39 : (Nat → Int)) (j92 : Unit → Option Bool) : Nat → Int → Option Bool
  | 0, _ => none
  | m105 + 1, v98 =>
    if decide (v98 < (a0.length : Int)) then (
    (lAt a0 v98).bind fun x112 =>
    (f40 n (⟨v35, v36, v37, v38, v39⟩ : Recorder) (100 : Int)).bind fun y113 =>
    (f39 n x112 (4194304 : Int)).bind fun y114 =>
    if decide (y113 < y114) then (
    some false)
    else (
    f7_l2 n a0 v35 v36 v37 v38 v39 j92 m105 (w64 (v98 + (1 : Int)))))
    else (
    j92 ())
def f7 (n : Nat) (a0 : (List Int)) (a1 : Int) (a2 : Int) : Option Bool :=
  (f36 n ).bind fun y3 =>
  if !y3 then (
  some false)
  else (
  if decide ((a0.length : Int) > (60 : Int)) then (
  some true)
  else (
  (f37 n (1 : Int)).bind fun y7 =>
  joinK (fun (v35 : Int) (v36 : (List Glitch)) (v37 : (Nat → Int)) (v38 : Int) (v39 : (Nat → Int)) =>
  joinK (fun (_ : Unit) =>
  (f39 n a1 (101 : Int)).bind fun y116 =>
  (f39 n a2 (101 : Int)).bind fun y117 =>
  (f40 n (⟨v35, v36, v37, v38, v39⟩ : Recorder) (iMin y116 y117)).bind fun y118 =>
  (f40 n (⟨v35, v36, v37, v38, v39⟩ : Recorder) (iMax y116 y117)).bind fun y119 =>
  some (decide (y118 ≤ y119))) fun j92 =>
  f7_l2 n a0 v35 v36 v37 v38 v39 j92 n 0) fun j40 =>
  f7_l1 n a0 j40 n y7.1.Limit y7.1.Last y7.1.Counts y7.1.Frames y7.1.Buckets 0))
set_option maxHeartbeats 4000000 in
set_option maxRecDepth 100000 in
theorem g7 {n : Nat} {a0 : (List Int)} {a1 : Int} {a2 : Int} {r : Bool} (h : f7 n a0 a1 a2 = some r) :
    Ab.Can Try.prog 7 [.sl 3 .ro (a0.map (PV.int .i64)), .int .i64 a1, .int .i64 a2] H0 (.bool r) H0 := by
  refine can_of tabOK mix Try.call7 Try.func7 rfl (by kernel_rfl) (by show _ ≤ 68; simp) fun _ => ?_
  rw [f7] at h
  refine .seq ?_
  refine .region ?_
  refine .assign ?_
  refine .nil ?_
  refine .seq ?_
  refine .seq ?_
  refine .region ?_
  obtain ⟨y3, hy3, h⟩ := bindE h
  refine .cP (g36 hy3) ?_
  refine .val ?_
  refine .nil ?_
  refine .cond (fun hc4 => ?_) (fun hc4 => ?_)
  · replace h := (if_pos hc4).symm.trans h
    refine .seq ?_
    refine .region ?_
    refine .assign ?_
    refine .nil ?_
    cases h
    exact .ret (fin_gen0 none)
  · replace h := (if_neg (nt hc4)).symm.trans h
    refine .skip ?_
    refine .seq ?_
    refine .seq ?_
    refine .region ?_
    refine .move ?_
    refine .lenL (f := (PV.int .i64)) ?_
    refine .val ?_
    refine .nil ?_
    refine .cond (fun hc6 => ?_) (fun hc6 => ?_)
    · replace h := (if_pos hc6).symm.trans h
      refine .seq ?_
      refine .region ?_
      refine .assign ?_
      refine .nil ?_
      cases h
      exact .ret (fin_gen0 none)
    · replace h := (if_neg (nt hc6)).symm.trans h
      refine .skip ?_
      refine .seq ?_
      refine .region ?_
      obtain ⟨y7, hy7, h⟩ := bindE h
      refine .cP (g37 hy7) ?_
      refine .move ?_
      refine .val ?_
      refine .val ?_
      refine .allocL (cs := [.int .i64 0, .sl 97 .full [], .int .i64 (aZ 0), .int .i64 (aZ 1), .int .i64 (aZ 2), .int .i64 (aZ 3), .int .i64 (aZ 4), .int .i64 0, .int .i64 (aZ 0), .int .i64 (aZ 1), .int .i64 (aZ 2), .int .i64 (aZ 3), .int .i64 (aZ 4), .int .i64 (aZ 5), .int .i64 (aZ 6), .int .i64 (aZ 7), .int .i64 (aZ 8), .int .i64 (aZ 9), .int .i64 (aZ 10), .int .i64 (aZ 11), .int .i64 (aZ 12), .int .i64 (aZ 13), .int .i64 (aZ 14), .int .i64 (aZ 15), .int .i64 (aZ 16), .int .i64 (aZ 17), .int .i64 (aZ 18), .int .i64 (aZ 19), .int .i64 (aZ 20), .int .i64 (aZ 21), .int .i64 (aZ 22), .int .i64 (aZ 23)]) ?_
      refine .wrL (cs := [.int .i64 y7.1.Limit, .sl 97 .ro (y7.1.Last.map pv97), .int .i64 (y7.1.Counts 0), .int .i64 (y7.1.Counts 1), .int .i64 (y7.1.Counts 2), .int .i64 (y7.1.Counts 3), .int .i64 (y7.1.Counts 4), .int .i64 y7.1.Frames, .int .i64 (y7.1.Buckets 0), .int .i64 (y7.1.Buckets 1), .int .i64 (y7.1.Buckets 2), .int .i64 (y7.1.Buckets 3), .int .i64 (y7.1.Buckets 4), .int .i64 (y7.1.Buckets 5), .int .i64 (y7.1.Buckets 6), .int .i64 (y7.1.Buckets 7), .int .i64 (y7.1.Buckets 8), .int .i64 (y7.1.Buckets 9), .int .i64 (y7.1.Buckets 10), .int .i64 (y7.1.Buckets 11), .int .i64 (y7.1.Buckets 12), .int .i64 (y7.1.Buckets 13), .int .i64 (y7.1.Buckets 14), .int .i64 (y7.1.Buckets 15), .int .i64 (y7.1.Buckets 16), .int .i64 (y7.1.Buckets 17), .int .i64 (y7.1.Buckets 18), .int .i64 (y7.1.Buckets 19), .int .i64 (y7.1.Buckets 20), .int .i64 (y7.1.Buckets 21), .int .i64 (y7.1.Buckets 22), .int .i64 (y7.1.Buckets 23)]) ?_
      refine .assign ?_
      refine .nil ?_
      obtain ⟨j40, hj40, h⟩ := joinE h
      refine .cutI (fun T => (∃ (v35 : Int) (v36 : (List Glitch)) (v37 : (Nat → Int)) (v38 : Int) (v39 : (Nat → Int)), T = St.of [(0, .sl 3 .ro (a0.map (PV.int .i64))), (1, .int .i64 a1), (2, .int .i64 a2), (7, .ptr (.loc 5 4) 0)] [((.loc 5 4), [.int .i64 v35, .sl 97 .ro (v36.map pv97), .int .i64 (v37 0), .int .i64 (v37 1), .int .i64 (v37 2), .int .i64 (v37 3), .int .i64 (v37 4), .int .i64 v38, .int .i64 (v39 0), .int .i64 (v39 1), .int .i64 (v39 2), .int .i64 (v39 3), .int .i64 (v39 4), .int .i64 (v39 5), .int .i64 (v39 6), .int .i64 (v39 7), .int .i64 (v39 8), .int .i64 (v39 9), .int .i64 (v39 10), .int .i64 (v39 11), .int .i64 (v39 12), .int .i64 (v39 13), .int .i64 (v39 14), .int .i64 (v39 15), .int .i64 (v39 16), .int .i64 (v39 17), .int .i64 (v39 18), .int .i64 (v39 19), .int .i64 (v39 20), .int .i64 (v39 21), .int .i64 (v39 22), .int .i64 (v39 23)])] ∧ j40 v35 v36 v37 v38 v39 = some r)) ?_ ?_
      · refine .seq ?_
        refine .region ?_
        refine .move ?_
        refine .lenL (f := (PV.int .i64)) ?_
        refine .move ?_
        refine .nil ?_
        refine .block ?_
        refine .loopI (fun m T => ∃ (v46 : Int) (v47 : (List Glitch)) (v48 : (Nat → Int)) (v49 : Int) (v50 : (Nat → Int)) (v51 : Int), T = St.of [(0, .sl 3 .ro (a0.map (PV.int .i64))), (1, .int .i64 a1), (2, .int .i64 a2), (7, .ptr (.loc 5 4) 0), (24, .sl 3 .ro (a0.map (PV.int .i64))), (25, .int .i64 (a0.length : Int)), (26, .int .i64 v51)] [((.loc 5 4), [.int .i64 v46, .sl 97 .ro (v47.map pv97), .int .i64 (v48 0), .int .i64 (v48 1), .int .i64 (v48 2), .int .i64 (v48 3), .int .i64 (v48 4), .int .i64 v49, .int .i64 (v50 0), .int .i64 (v50 1), .int .i64 (v50 2), .int .i64 (v50 3), .int .i64 (v50 4), .int .i64 (v50 5), .int .i64 (v50 6), .int .i64 (v50 7), .int .i64 (v50 8), .int .i64 (v50 9), .int .i64 (v50 10), .int .i64 (v50 11), .int .i64 (v50 12), .int .i64 (v50 13), .int .i64 (v50 14), .int .i64 (v50 15), .int .i64 (v50 16), .int .i64 (v50 17), .int .i64 (v50 18), .int .i64 (v50 19), .int .i64 (v50 20), .int .i64 (v50 21), .int .i64 (v50 22), .int .i64 (v50 23)])] ∧ f7_l1 n a0 j40 m v46 v47 v48 v49 v50 v51 = some r) _ _ ⟨_, _, _, _, _, _, rfl, h⟩ (imp_of (.cons rfl (.cons rfl (.cons rfl (.cons rfl (.cons rfl (.cons rfl (.cons rfl (.nil)))))))) (.cons rfl (.nil))) ?_
        rintro m63 T ⟨v46, v47, v48, v49, v50, v51, rfl, h⟩
        obtain _ | m63 := m63
        · rw [f7_l1] at h; cases h
        rw [f7_l1] at h
        refine .seq ?_
        refine .region ?_
        refine .val ?_
        refine .nil ?_
        refine .seq ?_
        refine .cond (fun hc65 => ?_) (fun hc65 => ?_)
        · replace h := (if_pos hc65).symm.trans h
          refine .skip ?_
          refine .seq ?_
          refine .block ?_
          refine .seq ?_
          refine .region ?_
          obtain ⟨x70, hx70, h⟩ := bindE h
          refine .idxL (f := (PV.int .i64)) hx70 ?_
          refine .ldL hx70 (y := .int .i64 x70) ?_
          refine .assign ?_
          refine .nil ?_
          refine .seq ?_
          obtain ⟨y71, hy71, h⟩ := bindE h
          obtain ⟨y72, hy72, h⟩ := bindE h
          refine .draw [7, 8] [[], [], [], [], [], [], [], [], [7], [7, 8]] [[8], [8], [8], [8], [8], [8], [], [8], [], []] [[], [7], [7, 8]]
            [(0, 0), (0, 1), (1, 0), (1, 1), (2, 0), (2, 1), (3, 0), (3, 1), (4, 0), (4, 1), (5, 0), (5, 1), (6, 0), (6, 1), (6, 2), (9, 2)] [(0, 7, 1), (1, 8, 2)] 2
            [⟨[(31, .agg [.int .i64 v46, .sl 97 .ro (v47.map pv97), .int .i64 (v48 0), .int .i64 (v48 1), .int .i64 (v48 2), .int .i64 (v48 3), .int .i64 (v48 4), .int .i64 v49, .int .i64 (v50 0), .int .i64 (v50 1), .int .i64 (v50 2), .int .i64 (v50 3), .int .i64 (v50 4), .int .i64 (v50 5), .int .i64 (v50 6), .int .i64 (v50 7), .int .i64 (v50 8), .int .i64 (v50 9), .int .i64 (v50 10), .int .i64 (v50 11), .int .i64 (v50 12), .int .i64 (v50 13), .int .i64 (v50 14), .int .i64 (v50 15), .int .i64 (v50 16), .int .i64 (v50 17), .int .i64 (v50 18), .int .i64 (v50 19), .int .i64 (v50 20), .int .i64 (v50 21), .int .i64 (v50 22), .int .i64 (v50 23)]), (32, .int .i64 x70), (33, .int .i64 y71), (34, .tup [.agg [.int .i64 y72.1.Limit, .sl 97 .ro (y72.1.Last.map pv97), .int .i64 (y72.1.Counts 0), .int .i64 (y72.1.Counts 1), .int .i64 (y72.1.Counts 2), .int .i64 (y72.1.Counts 3), .int .i64 (y72.1.Counts 4), .int .i64 y72.1.Frames, .int .i64 (y72.1.Buckets 0), .int .i64 (y72.1.Buckets 1), .int .i64 (y72.1.Buckets 2), .int .i64 (y72.1.Buckets 3), .int .i64 (y72.1.Buckets 4), .int .i64 (y72.1.Buckets 5), .int .i64 (y72.1.Buckets 6), .int .i64 (y72.1.Buckets 7), .int .i64 (y72.1.Buckets 8), .int .i64 (y72.1.Buckets 9), .int .i64 (y72.1.Buckets 10), .int .i64 (y72.1.Buckets 11), .int .i64 (y72.1.Buckets 12), .int .i64 (y72.1.Buckets 13), .int .i64 (y72.1.Buckets 14), .int .i64 (y72.1.Buckets 15), .int .i64 (y72.1.Buckets 16), .int .i64 (y72.1.Buckets 17), .int .i64 (y72.1.Buckets 18), .int .i64 (y72.1.Buckets 19), .int .i64 (y72.1.Buckets 20), .int .i64 (y72.1.Buckets 21), .int .i64 (y72.1.Buckets 22), .int .i64 (y72.1.Buckets 23)], .int .i64 y72.2]), (30, .tup [.agg [.int .i64 y72.1.Limit, .sl 97 .ro (y72.1.Last.map pv97), .int .i64 (y72.1.Counts 0), .int .i64 (y72.1.Counts 1), .int .i64 (y72.1.Counts 2), .int .i64 (y72.1.Counts 3), .int .i64 (y72.1.Counts 4), .int .i64 y72.1.Frames, .int .i64 (y72.1.Buckets 0), .int .i64 (y72.1.Buckets 1), .int .i64 (y72.1.Buckets 2), .int .i64 (y72.1.Buckets 3), .int .i64 (y72.1.Buckets 4), .int .i64 (y72.1.Buckets 5), .int .i64 (y72.1.Buckets 6), .int .i64 (y72.1.Buckets 7), .int .i64 (y72.1.Buckets 8), .int .i64 (y72.1.Buckets 9), .int .i64 (y72.1.Buckets 10), .int .i64 (y72.1.Buckets 11), .int .i64 (y72.1.Buckets 12), .int .i64 (y72.1.Buckets 13), .int .i64 (y72.1.Buckets 14), .int .i64 (y72.1.Buckets 15), .int .i64 (y72.1.Buckets 16), .int .i64 (y72.1.Buckets 17), .int .i64 (y72.1.Buckets 18), .int .i64 (y72.1.Buckets 19), .int .i64 (y72.1.Buckets 20), .int .i64 (y72.1.Buckets 21), .int .i64 (y72.1.Buckets 22), .int .i64 (y72.1.Buckets 23)], .int .i64 y72.2]), (35, .agg [.int .i64 y72.1.Limit, .sl 97 .ro (y72.1.Last.map pv97), .int .i64 (y72.1.Counts 0), .int .i64 (y72.1.Counts 1), .int .i64 (y72.1.Counts 2), .int .i64 (y72.1.Counts 3), .int .i64 (y72.1.Counts 4), .int .i64 y72.1.Frames, .int .i64 (y72.1.Buckets 0), .int .i64 (y72.1.Buckets 1), .int .i64 (y72.1.Buckets 2), .int .i64 (y72.1.Buckets 3), .int .i64 (y72.1.Buckets 4), .int .i64 (y72.1.Buckets 5), .int .i64 (y72.1.Buckets 6), .int .i64 (y72.1.Buckets 7), .int .i64 (y72.1.Buckets 8), .int .i64 (y72.1.Buckets 9), .int .i64 (y72.1.Buckets 10), .int .i64 (y72.1.Buckets 11), .int .i64 (y72.1.Buckets 12), .int .i64 (y72.1.Buckets 13), .int .i64 (y72.1.Buckets 14), .int .i64 (y72.1.Buckets 15), .int .i64 (y72.1.Buckets 16), .int .i64 (y72.1.Buckets 17), .int .i64 (y72.1.Buckets 18), .int .i64 (y72.1.Buckets 19), .int .i64 (y72.1.Buckets 20), .int .i64 (y72.1.Buckets 21), .int .i64 (y72.1.Buckets 22), .int .i64 (y72.1.Buckets 23)]), (36, .int .i64 y72.2), (0, .sl 3 .ro (a0.map (PV.int .i64))), (1, .int .i64 a1), (2, .int .i64 a2), (7, .ptr (.loc 5 4) 0), (10, .int .i64 x70), (24, .sl 3 .ro (a0.map (PV.int .i64))), (25, .int .i64 (a0.length : Int)), (26, .int .i64 v51)], [], [((.loc 5 4), [.int .i64 v46, .sl 97 .ro (v47.map pv97), .int .i64 (v48 0), .int .i64 (v48 1), .int .i64 (v48 2), .int .i64 (v48 3), .int .i64 (v48 4), .int .i64 v49, .int .i64 (v50 0), .int .i64 (v50 1), .int .i64 (v50 2), .int .i64 (v50 3), .int .i64 (v50 4), .int .i64 (v50 5), .int .i64 (v50 6), .int .i64 (v50 7), .int .i64 (v50 8), .int .i64 (v50 9), .int .i64 (v50 10), .int .i64 (v50 11), .int .i64 (v50 12), .int .i64 (v50 13), .int .i64 (v50 14), .int .i64 (v50 15), .int .i64 (v50 16), .int .i64 (v50 17), .int .i64 (v50 18), .int .i64 (v50 19), .int .i64 (v50 20), .int .i64 (v50 21), .int .i64 (v50 22), .int .i64 (v50 23)])]⟩,
            ⟨[(31, .agg [.int .i64 v46, .sl 97 .ro (v47.map pv97), .int .i64 (v48 0), .int .i64 (v48 1), .int .i64 (v48 2), .int .i64 (v48 3), .int .i64 (v48 4), .int .i64 v49, .int .i64 (v50 0), .int .i64 (v50 1), .int .i64 (v50 2), .int .i64 (v50 3), .int .i64 (v50 4), .int .i64 (v50 5), .int .i64 (v50 6), .int .i64 (v50 7), .int .i64 (v50 8), .int .i64 (v50 9), .int .i64 (v50 10), .int .i64 (v50 11), .int .i64 (v50 12), .int .i64 (v50 13), .int .i64 (v50 14), .int .i64 (v50 15), .int .i64 (v50 16), .int .i64 (v50 17), .int .i64 (v50 18), .int .i64 (v50 19), .int .i64 (v50 20), .int .i64 (v50 21), .int .i64 (v50 22), .int .i64 (v50 23)]), (32, .int .i64 x70), (33, .int .i64 y71), (34, .tup [.agg [.int .i64 y72.1.Limit, .sl 97 .ro (y72.1.Last.map pv97), .int .i64 (y72.1.Counts 0), .int .i64 (y72.1.Counts 1), .int .i64 (y72.1.Counts 2), .int .i64 (y72.1.Counts 3), .int .i64 (y72.1.Counts 4), .int .i64 y72.1.Frames, .int .i64 (y72.1.Buckets 0), .int .i64 (y72.1.Buckets 1), .int .i64 (y72.1.Buckets 2), .int .i64 (y72.1.Buckets 3), .int .i64 (y72.1.Buckets 4), .int .i64 (y72.1.Buckets 5), .int .i64 (y72.1.Buckets 6), .int .i64 (y72.1.Buckets 7), .int .i64 (y72.1.Buckets 8), .int .i64 (y72.1.Buckets 9), .int .i64 (y72.1.Buckets 10), .int .i64 (y72.1.Buckets 11), .int .i64 (y72.1.Buckets 12), .int .i64 (y72.1.Buckets 13), .int .i64 (y72.1.Buckets 14), .int .i64 (y72.1.Buckets 15), .int .i64 (y72.1.Buckets 16), .int .i64 (y72.1.Buckets 17), .int .i64 (y72.1.Buckets 18), .int .i64 (y72.1.Buckets 19), .int .i64 (y72.1.Buckets 20), .int .i64 (y72.1.Buckets 21), .int .i64 (y72.1.Buckets 22), .int .i64 (y72.1.Buckets 23)], .int .i64 y72.2]), (30, .tup [.agg [.int .i64 y72.1.Limit, .sl 97 .ro (y72.1.Last.map pv97), .int .i64 (y72.1.Counts 0), .int .i64 (y72.1.Counts 1), .int .i64 (y72.1.Counts 2), .int .i64 (y72.1.Counts 3), .int .i64 (y72.1.Counts 4), .int .i64 y72.1.Frames, .int .i64 (y72.1.Buckets 0), .int .i64 (y72.1.Buckets 1), .int .i64 (y72.1.Buckets 2), .int .i64 (y72.1.Buckets 3), .int .i64 (y72.1.Buckets 4), .int .i64 (y72.1.Buckets 5), .int .i64 (y72.1.Buckets 6), .int .i64 (y72.1.Buckets 7), .int .i64 (y72.1.Buckets 8), .int .i64 (y72.1.Buckets 9), .int .i64 (y72.1.Buckets 10), .int .i64 (y72.1.Buckets 11), .int .i64 (y72.1.Buckets 12), .int .i64 (y72.1.Buckets 13), .int .i64 (y72.1.Buckets 14), .int .i64 (y72.1.Buckets 15), .int .i64 (y72.1.Buckets 16), .int .i64 (y72.1.Buckets 17), .int .i64 (y72.1.Buckets 18), .int .i64 (y72.1.Buckets 19), .int .i64 (y72.1.Buckets 20), .int .i64 (y72.1.Buckets 21), .int .i64 (y72.1.Buckets 22), .int .i64 (y72.1.Buckets 23)], .int .i64 y72.2]), (35, .agg [.int .i64 y72.1.Limit, .sl 97 .ro (y72.1.Last.map pv97), .int .i64 (y72.1.Counts 0), .int .i64 (y72.1.Counts 1), .int .i64 (y72.1.Counts 2), .int .i64 (y72.1.Counts 3), .int .i64 (y72.1.Counts 4), .int .i64 y72.1.Frames, .int .i64 (y72.1.Buckets 0), .int .i64 (y72.1.Buckets 1), .int .i64 (y72.1.Buckets 2), .int .i64 (y72.1.Buckets 3), .int .i64 (y72.1.Buckets 4), .int .i64 (y72.1.Buckets 5), .int .i64 (y72.1.Buckets 6), .int .i64 (y72.1.Buckets 7), .int .i64 (y72.1.Buckets 8), .int .i64 (y72.1.Buckets 9), .int .i64 (y72.1.Buckets 10), .int .i64 (y72.1.Buckets 11), .int .i64 (y72.1.Buckets 12), .int .i64 (y72.1.Buckets 13), .int .i64 (y72.1.Buckets 14), .int .i64 (y72.1.Buckets 15), .int .i64 (y72.1.Buckets 16), .int .i64 (y72.1.Buckets 17), .int .i64 (y72.1.Buckets 18), .int .i64 (y72.1.Buckets 19), .int .i64 (y72.1.Buckets 20), .int .i64 (y72.1.Buckets 21), .int .i64 (y72.1.Buckets 22), .int .i64 (y72.1.Buckets 23)]), (36, .int .i64 y72.2), (11, .ptr (.loc 9 7) 0), (0, .sl 3 .ro (a0.map (PV.int .i64))), (1, .int .i64 a1), (2, .int .i64 a2), (7, .ptr (.loc 5 4) 0), (10, .int .i64 x70), (24, .sl 3 .ro (a0.map (PV.int .i64))), (25, .int .i64 (a0.length : Int)), (26, .int .i64 v51)], [], [((.loc 5 4), [.int .i64 v46, .sl 97 .ro (v47.map pv97), .int .i64 (v48 0), .int .i64 (v48 1), .int .i64 (v48 2), .int .i64 (v48 3), .int .i64 (v48 4), .int .i64 v49, .int .i64 (v50 0), .int .i64 (v50 1), .int .i64 (v50 2), .int .i64 (v50 3), .int .i64 (v50 4), .int .i64 (v50 5), .int .i64 (v50 6), .int .i64 (v50 7), .int .i64 (v50 8), .int .i64 (v50 9), .int .i64 (v50 10), .int .i64 (v50 11), .int .i64 (v50 12), .int .i64 (v50 13), .int .i64 (v50 14), .int .i64 (v50 15), .int .i64 (v50 16), .int .i64 (v50 17), .int .i64 (v50 18), .int .i64 (v50 19), .int .i64 (v50 20), .int .i64 (v50 21), .int .i64 (v50 22), .int .i64 (v50 23)]), ((.loc 9 7), [.int .i64 0, .sl 97 .full [], .int .i64 (aZ 0), .int .i64 (aZ 1), .int .i64 (aZ 2), .int .i64 (aZ 3), .int .i64 (aZ 4), .int .i64 0, .int .i64 (aZ 0), .int .i64 (aZ 1), .int .i64 (aZ 2), .int .i64 (aZ 3), .int .i64 (aZ 4), .int .i64 (aZ 5), .int .i64 (aZ 6), .int .i64 (aZ 7), .int .i64 (aZ 8), .int .i64 (aZ 9), .int .i64 (aZ 10), .int .i64 (aZ 11), .int .i64 (aZ 12), .int .i64 (aZ 13), .int .i64 (aZ 14), .int .i64 (aZ 15), .int .i64 (aZ 16), .int .i64 (aZ 17), .int .i64 (aZ 18), .int .i64 (aZ 19), .int .i64 (aZ 20), .int .i64 (aZ 21), .int .i64 (aZ 22), .int .i64 (aZ 23)])]⟩,
            ⟨[(31, .agg [.int .i64 v46, .sl 97 .ro (v47.map pv97), .int .i64 (v48 0), .int .i64 (v48 1), .int .i64 (v48 2), .int .i64 (v48 3), .int .i64 (v48 4), .int .i64 v49, .int .i64 (v50 0), .int .i64 (v50 1), .int .i64 (v50 2), .int .i64 (v50 3), .int .i64 (v50 4), .int .i64 (v50 5), .int .i64 (v50 6), .int .i64 (v50 7), .int .i64 (v50 8), .int .i64 (v50 9), .int .i64 (v50 10), .int .i64 (v50 11), .int .i64 (v50 12), .int .i64 (v50 13), .int .i64 (v50 14), .int .i64 (v50 15), .int .i64 (v50 16), .int .i64 (v50 17), .int .i64 (v50 18), .int .i64 (v50 19), .int .i64 (v50 20), .int .i64 (v50 21), .int .i64 (v50 22), .int .i64 (v50 23)]), (32, .int .i64 x70), (33, .int .i64 y71), (34, .tup [.agg [.int .i64 y72.1.Limit, .sl 97 .ro (y72.1.Last.map pv97), .int .i64 (y72.1.Counts 0), .int .i64 (y72.1.Counts 1), .int .i64 (y72.1.Counts 2), .int .i64 (y72.1.Counts 3), .int .i64 (y72.1.Counts 4), .int .i64 y72.1.Frames, .int .i64 (y72.1.Buckets 0), .int .i64 (y72.1.Buckets 1), .int .i64 (y72.1.Buckets 2), .int .i64 (y72.1.Buckets 3), .int .i64 (y72.1.Buckets 4), .int .i64 (y72.1.Buckets 5), .int .i64 (y72.1.Buckets 6), .int .i64 (y72.1.Buckets 7), .int .i64 (y72.1.Buckets 8), .int .i64 (y72.1.Buckets 9), .int .i64 (y72.1.Buckets 10), .int .i64 (y72.1.Buckets 11), .int .i64 (y72.1.Buckets 12), .int .i64 (y72.1.Buckets 13), .int .i64 (y72.1.Buckets 14), .int .i64 (y72.1.Buckets 15), .int .i64 (y72.1.Buckets 16), .int .i64 (y72.1.Buckets 17), .int .i64 (y72.1.Buckets 18), .int .i64 (y72.1.Buckets 19), .int .i64 (y72.1.Buckets 20), .int .i64 (y72.1.Buckets 21), .int .i64 (y72.1.Buckets 22), .int .i64 (y72.1.Buckets 23)], .int .i64 y72.2]), (30, .tup [.agg [.int .i64 y72.1.Limit, .sl 97 .ro (y72.1.Last.map pv97), .int .i64 (y72.1.Counts 0), .int .i64 (y72.1.Counts 1), .int .i64 (y72.1.Counts 2), .int .i64 (y72.1.Counts 3), .int .i64 (y72.1.Counts 4), .int .i64 y72.1.Frames, .int .i64 (y72.1.Buckets 0), .int .i64 (y72.1.Buckets 1), .int .i64 (y72.1.Buckets 2), .int .i64 (y72.1.Buckets 3), .int .i64 (y72.1.Buckets 4), .int .i64 (y72.1.Buckets 5), .int .i64 (y72.1.Buckets 6), .int .i64 (y72.1.Buckets 7), .int .i64 (y72.1.Buckets 8), .int .i64 (y72.1.Buckets 9), .int .i64 (y72.1.Buckets 10), .int .i64 (y72.1.Buckets 11), .int .i64 (y72.1.Buckets 12), .int .i64 (y72.1.Buckets 13), .int .i64 (y72.1.Buckets 14), .int .i64 (y72.1.Buckets 15), .int .i64 (y72.1.Buckets 16), .int .i64 (y72.1.Buckets 17), .int .i64 (y72.1.Buckets 18), .int .i64 (y72.1.Buckets 19), .int .i64 (y72.1.Buckets 20), .int .i64 (y72.1.Buckets 21), .int .i64 (y72.1.Buckets 22), .int .i64 (y72.1.Buckets 23)], .int .i64 y72.2]), (35, .agg [.int .i64 y72.1.Limit, .sl 97 .ro (y72.1.Last.map pv97), .int .i64 (y72.1.Counts 0), .int .i64 (y72.1.Counts 1), .int .i64 (y72.1.Counts 2), .int .i64 (y72.1.Counts 3), .int .i64 (y72.1.Counts 4), .int .i64 y72.1.Frames, .int .i64 (y72.1.Buckets 0), .int .i64 (y72.1.Buckets 1), .int .i64 (y72.1.Buckets 2), .int .i64 (y72.1.Buckets 3), .int .i64 (y72.1.Buckets 4), .int .i64 (y72.1.Buckets 5), .int .i64 (y72.1.Buckets 6), .int .i64 (y72.1.Buckets 7), .int .i64 (y72.1.Buckets 8), .int .i64 (y72.1.Buckets 9), .int .i64 (y72.1.Buckets 10), .int .i64 (y72.1.Buckets 11), .int .i64 (y72.1.Buckets 12), .int .i64 (y72.1.Buckets 13), .int .i64 (y72.1.Buckets 14), .int .i64 (y72.1.Buckets 15), .int .i64 (y72.1.Buckets 16), .int .i64 (y72.1.Buckets 17), .int .i64 (y72.1.Buckets 18), .int .i64 (y72.1.Buckets 19), .int .i64 (y72.1.Buckets 20), .int .i64 (y72.1.Buckets 21), .int .i64 (y72.1.Buckets 22), .int .i64 (y72.1.Buckets 23)]), (36, .int .i64 y72.2), (11, .ptr (.loc 9 7) 0), (12, .int .i64 y72.2), (0, .sl 3 .ro (a0.map (PV.int .i64))), (1, .int .i64 a1), (2, .int .i64 a2), (7, .ptr (.loc 5 4) 0), (10, .int .i64 x70), (24, .sl 3 .ro (a0.map (PV.int .i64))), (25, .int .i64 (a0.length : Int)), (26, .int .i64 v51)], [], [((.loc 5 4), [.int .i64 v46, .sl 97 .ro (v47.map pv97), .int .i64 (v48 0), .int .i64 (v48 1), .int .i64 (v48 2), .int .i64 (v48 3), .int .i64 (v48 4), .int .i64 v49, .int .i64 (v50 0), .int .i64 (v50 1), .int .i64 (v50 2), .int .i64 (v50 3), .int .i64 (v50 4), .int .i64 (v50 5), .int .i64 (v50 6), .int .i64 (v50 7), .int .i64 (v50 8), .int .i64 (v50 9), .int .i64 (v50 10), .int .i64 (v50 11), .int .i64 (v50 12), .int .i64 (v50 13), .int .i64 (v50 14), .int .i64 (v50 15), .int .i64 (v50 16), .int .i64 (v50 17), .int .i64 (v50 18), .int .i64 (v50 19), .int .i64 (v50 20), .int .i64 (v50 21), .int .i64 (v50 22), .int .i64 (v50 23)]), ((.loc 9 7), [.int .i64 y72.1.Limit, .sl 97 .ro (y72.1.Last.map pv97), .int .i64 (y72.1.Counts 0), .int .i64 (y72.1.Counts 1), .int .i64 (y72.1.Counts 2), .int .i64 (y72.1.Counts 3), .int .i64 (y72.1.Counts 4), .int .i64 y72.1.Frames, .int .i64 (y72.1.Buckets 0), .int .i64 (y72.1.Buckets 1), .int .i64 (y72.1.Buckets 2), .int .i64 (y72.1.Buckets 3), .int .i64 (y72.1.Buckets 4), .int .i64 (y72.1.Buckets 5), .int .i64 (y72.1.Buckets 6), .int .i64 (y72.1.Buckets 7), .int .i64 (y72.1.Buckets 8), .int .i64 (y72.1.Buckets 9), .int .i64 (y72.1.Buckets 10), .int .i64 (y72.1.Buckets 11), .int .i64 (y72.1.Buckets 12), .int .i64 (y72.1.Buckets 13), .int .i64 (y72.1.Buckets 14), .int .i64 (y72.1.Buckets 15), .int .i64 (y72.1.Buckets 16), .int .i64 (y72.1.Buckets 17), .int .i64 (y72.1.Buckets 18), .int .i64 (y72.1.Buckets 19), .int .i64 (y72.1.Buckets 20), .int .i64 (y72.1.Buckets 21), .int .i64 (y72.1.Buckets 22), .int .i64 (y72.1.Buckets 23)])]⟩]
            [(0, .sl 3 .ro (a0.map (PV.int .i64))), (1, .int .i64 a1), (2, .int .i64 a2), (7, .ptr (.loc 5 4) 0), (10, .int .i64 x70), (24, .sl 3 .ro (a0.map (PV.int .i64))), (25, .int .i64 (a0.length : Int)), (26, .int .i64 v51)]
            (.cons [7] [] (fun _ _ h => .val (h _)) rfl rfl <|
            .cons [7] [] (fun _ _ h => .val (h _)) rfl rfl <|
            .cons [10] [] (fun _ _ h => .move (h _)) rfl rfl <|
            .cons [10] [] (fun _ _ h => .move (h _)) rfl rfl <|
            .cons [32] [] (fun _ _ h => .cP (g39 hy71) (h _)) rfl rfl <|
            .cons [32] [] (fun _ _ h => .cP (g39 hy71) (h _)) rfl rfl <|
            .cons [31, 33] [] (fun _ _ h => .cP (g38 hy72) (h _)) rfl rfl <|
            .cons [31, 33] [] (fun _ _ h => .cP (g38 hy72) (h _)) rfl rfl <|
            .cons [34] [] (fun _ _ h => .move (h _)) rfl rfl <|
            .cons [34] [] (fun _ _ h => .move (h _)) rfl rfl <|
            .cons [30] [] (fun _ _ h => .val (h _)) rfl rfl <|
            .cons [30] [] (fun _ _ h => .val (h _)) rfl rfl <|
            .cons [30] [] (fun _ _ h => .val (h _)) rfl rfl <|
            .cons [30] [] (fun _ _ h => .val (h _)) rfl rfl <|
            .cons [30] [] (fun _ _ h => .val (h _)) rfl rfl <|
            .cons [36] [] (fun _ _ h => .assign (h _)) rfl rfl <|
            .nil)
            (.cons (PV.sub (oneSub (.loc 9 7) .kill)) [] [] (fun _ _ h => .allocL (cs := [.int .i64 0, .sl 97 .full [], .int .i64 (aZ 0), .int .i64 (aZ 1), .int .i64 (aZ 2), .int .i64 (aZ 3), .int .i64 (aZ 4), .int .i64 0, .int .i64 (aZ 0), .int .i64 (aZ 1), .int .i64 (aZ 2), .int .i64 (aZ 3), .int .i64 (aZ 4), .int .i64 (aZ 5), .int .i64 (aZ 6), .int .i64 (aZ 7), .int .i64 (aZ 8), .int .i64 (aZ 9), .int .i64 (aZ 10), .int .i64 (aZ 11), .int .i64 (aZ 12), .int .i64 (aZ 13), .int .i64 (aZ 14), .int .i64 (aZ 15), .int .i64 (aZ 16), .int .i64 (aZ 17), .int .i64 (aZ 18), .int .i64 (aZ 19), .int .i64 (aZ 20), .int .i64 (aZ 21), .int .i64 (aZ 22), .int .i64 (aZ 23)]) (h _ _ (.cons rfl (.cons rfl (.nil))))) rfl (.old rfl (.old rfl (.old rfl (.old rfl (.old rfl (.old rfl (.old rfl (.new rfl (.old rfl (.old rfl (.old rfl (.old rfl (.old rfl (.old rfl (.old rfl (.old rfl (.nil))))))))))))))))) rfl rfl <|
            .cons (fun x => x) [11, 35] [] (fun _ _ h => .wrL (cs := [.int .i64 y72.1.Limit, .sl 97 .ro (y72.1.Last.map pv97), .int .i64 (y72.1.Counts 0), .int .i64 (y72.1.Counts 1), .int .i64 (y72.1.Counts 2), .int .i64 (y72.1.Counts 3), .int .i64 (y72.1.Counts 4), .int .i64 y72.1.Frames, .int .i64 (y72.1.Buckets 0), .int .i64 (y72.1.Buckets 1), .int .i64 (y72.1.Buckets 2), .int .i64 (y72.1.Buckets 3), .int .i64 (y72.1.Buckets 4), .int .i64 (y72.1.Buckets 5), .int .i64 (y72.1.Buckets 6), .int .i64 (y72.1.Buckets 7), .int .i64 (y72.1.Buckets 8), .int .i64 (y72.1.Buckets 9), .int .i64 (y72.1.Buckets 10), .int .i64 (y72.1.Buckets 11), .int .i64 (y72.1.Buckets 12), .int .i64 (y72.1.Buckets 13), .int .i64 (y72.1.Buckets 14), .int .i64 (y72.1.Buckets 15), .int .i64 (y72.1.Buckets 16), .int .i64 (y72.1.Buckets 17), .int .i64 (y72.1.Buckets 18), .int .i64 (y72.1.Buckets 19), .int .i64 (y72.1.Buckets 20), .int .i64 (y72.1.Buckets 21), .int .i64 (y72.1.Buckets 22), .int .i64 (y72.1.Buckets 23)]) (h _ _ (.cons rfl (.cons rfl (.nil))))) rfl (.old rfl (.old rfl (.old rfl (.old rfl (.old rfl (.old rfl (.old rfl (.old rfl (.new rfl (.old rfl (.old rfl (.old rfl (.old rfl (.old rfl (.old rfl (.old rfl (.old rfl (.nil)))))))))))))))))) rfl rfl <|
            .nil)
            (by kernel_rfl) rfl (.cons rfl (.cons rfl (.cons rfl (.cons rfl (.cons rfl (.cons rfl (.cons rfl (.cons rfl (.nil))))))))) (.nil) (.cons rfl (.nil)) ?_
          refine .imp (T := St.of [(0, .sl 3 .ro (a0.map (PV.int .i64))), (1, .int .i64 a1), (2, .int .i64 a2), (7, .ptr (.loc 5 4) 0), (11, .ptr (.loc 9 7) 0), (12, .int .i64 y72.2), (24, .sl 3 .ro (a0.map (PV.int .i64))), (25, .int .i64 (a0.length : Int)), (26, .int .i64 v51)] [((.loc 5 4), [.int .i64 v46, .sl 97 .ro (v47.map pv97), .int .i64 (v48 0), .int .i64 (v48 1), .int .i64 (v48 2), .int .i64 (v48 3), .int .i64 (v48 4), .int .i64 v49, .int .i64 (v50 0), .int .i64 (v50 1), .int .i64 (v50 2), .int .i64 (v50 3), .int .i64 (v50 4), .int .i64 (v50 5), .int .i64 (v50 6), .int .i64 (v50 7), .int .i64 (v50 8), .int .i64 (v50 9), .int .i64 (v50 10), .int .i64 (v50 11), .int .i64 (v50 12), .int .i64 (v50 13), .int .i64 (v50 14), .int .i64 (v50 15), .int .i64 (v50 16), .int .i64 (v50 17), .int .i64 (v50 18), .int .i64 (v50 19), .int .i64 (v50 20), .int .i64 (v50 21), .int .i64 (v50 22), .int .i64 (v50 23)]), ((.loc 9 7), [.int .i64 y72.1.Limit, .sl 97 .ro (y72.1.Last.map pv97), .int .i64 (y72.1.Counts 0), .int .i64 (y72.1.Counts 1), .int .i64 (y72.1.Counts 2), .int .i64 (y72.1.Counts 3), .int .i64 (y72.1.Counts 4), .int .i64 y72.1.Frames, .int .i64 (y72.1.Buckets 0), .int .i64 (y72.1.Buckets 1), .int .i64 (y72.1.Buckets 2), .int .i64 (y72.1.Buckets 3), .int .i64 (y72.1.Buckets 4), .int .i64 (y72.1.Buckets 5), .int .i64 (y72.1.Buckets 6), .int .i64 (y72.1.Buckets 7), .int .i64 (y72.1.Buckets 8), .int .i64 (y72.1.Buckets 9), .int .i64 (y72.1.Buckets 10), .int .i64 (y72.1.Buckets 11), .int .i64 (y72.1.Buckets 12), .int .i64 (y72.1.Buckets 13), .int .i64 (y72.1.Buckets 14), .int .i64 (y72.1.Buckets 15), .int .i64 (y72.1.Buckets 16), .int .i64 (y72.1.Buckets 17), .int .i64 (y72.1.Buckets 18), .int .i64 (y72.1.Buckets 19), .int .i64 (y72.1.Buckets 20), .int .i64 (y72.1.Buckets 21), .int .i64 (y72.1.Buckets 22), .int .i64 (y72.1.Buckets 23)])]) (imp_of (.cons rfl (.cons rfl (.cons rfl (.cons rfl (.cons rfl (.cons rfl (.cons rfl (.cons rfl (.cons rfl (.nil)))))))))) (.cons rfl (.cons rfl (.nil)))) ?_
          refine .seq ?_
          refine .seq ?_
          refine .region ?_
          refine .move ?_
          refine .val ?_
          refine .nil ?_
          refine .cond (fun hc74 => ?_) (fun hc74 => ?_)
          · replace h := (if_pos hc74).symm.trans h
            refine .seq ?_
            refine .region ?_
            refine .assign ?_
            refine .nil ?_
            cases h
            exact .ret (fin_gen0 none)
          · replace h := (if_neg (nt hc74)).symm.trans h
            refine .skip ?_
            refine .region ?_
            refine .val (v := .agg [.int .i64 y72.1.Limit, .sl 97 .ro (y72.1.Last.map pv97), .int .i64 (y72.1.Counts 0), .int .i64 (y72.1.Counts 1), .int .i64 (y72.1.Counts 2), .int .i64 (y72.1.Counts 3), .int .i64 (y72.1.Counts 4), .int .i64 y72.1.Frames, .int .i64 (y72.1.Buckets 0), .int .i64 (y72.1.Buckets 1), .int .i64 (y72.1.Buckets 2), .int .i64 (y72.1.Buckets 3), .int .i64 (y72.1.Buckets 4), .int .i64 (y72.1.Buckets 5), .int .i64 (y72.1.Buckets 6), .int .i64 (y72.1.Buckets 7), .int .i64 (y72.1.Buckets 8), .int .i64 (y72.1.Buckets 9), .int .i64 (y72.1.Buckets 10), .int .i64 (y72.1.Buckets 11), .int .i64 (y72.1.Buckets 12), .int .i64 (y72.1.Buckets 13), .int .i64 (y72.1.Buckets 14), .int .i64 (y72.1.Buckets 15), .int .i64 (y72.1.Buckets 16), .int .i64 (y72.1.Buckets 17), .int .i64 (y72.1.Buckets 18), .int .i64 (y72.1.Buckets 19), .int .i64 (y72.1.Buckets 20), .int .i64 (y72.1.Buckets 21), .int .i64 (y72.1.Buckets 22), .int .i64 (y72.1.Buckets 23)]) ?_
            refine .wrL (cs := [.int .i64 y72.1.Limit, .sl 97 .ro (y72.1.Last.map pv97), .int .i64 (y72.1.Counts 0), .int .i64 (y72.1.Counts 1), .int .i64 (y72.1.Counts 2), .int .i64 (y72.1.Counts 3), .int .i64 (y72.1.Counts 4), .int .i64 y72.1.Frames, .int .i64 (y72.1.Buckets 0), .int .i64 (y72.1.Buckets 1), .int .i64 (y72.1.Buckets 2), .int .i64 (y72.1.Buckets 3), .int .i64 (y72.1.Buckets 4), .int .i64 (y72.1.Buckets 5), .int .i64 (y72.1.Buckets 6), .int .i64 (y72.1.Buckets 7), .int .i64 (y72.1.Buckets 8), .int .i64 (y72.1.Buckets 9), .int .i64 (y72.1.Buckets 10), .int .i64 (y72.1.Buckets 11), .int .i64 (y72.1.Buckets 12), .int .i64 (y72.1.Buckets 13), .int .i64 (y72.1.Buckets 14), .int .i64 (y72.1.Buckets 15), .int .i64 (y72.1.Buckets 16), .int .i64 (y72.1.Buckets 17), .int .i64 (y72.1.Buckets 18), .int .i64 (y72.1.Buckets 19), .int .i64 (y72.1.Buckets 20), .int .i64 (y72.1.Buckets 21), .int .i64 (y72.1.Buckets 22), .int .i64 (y72.1.Buckets 23)]) ?_
            refine .nil ?_
            refine .region ?_
            refine .val ?_
            refine .move ?_
            refine .nil ?_
            exact ⟨m63, _, Nat.lt_succ_self m63, ⟨_, _, _, _, _, _, rfl, h⟩, (imp_of (.cons rfl (.cons rfl (.cons rfl (.cons rfl (.cons rfl (.cons rfl (.cons rfl (.nil)))))))) (.cons rfl (.nil)))⟩
        · replace h := (if_neg (nt hc65)).symm.trans h
          refine .exit (.hit ?_)
          exact ⟨_, ⟨_, _, _, _, _, rfl, h⟩, (imp_of (.cons rfl (.cons rfl (.cons rfl (.cons rfl (.nil))))) (.cons rfl (.nil)))⟩
      · rintro T ⟨v35, v36, v37, v38, v39, rfl, h⟩
        subst hj40
        obtain ⟨j92, hj92, h⟩ := joinE h
        refine .cutI (fun T => (T = St.of [(1, .int .i64 a1), (2, .int .i64 a2), (7, .ptr (.loc 5 4) 0)] [((.loc 5 4), [.int .i64 v35, .sl 97 .ro (v36.map pv97), .int .i64 (v37 0), .int .i64 (v37 1), .int .i64 (v37 2), .int .i64 (v37 3), .int .i64 (v37 4), .int .i64 v38, .int .i64 (v39 0), .int .i64 (v39 1), .int .i64 (v39 2), .int .i64 (v39 3), .int .i64 (v39 4), .int .i64 (v39 5), .int .i64 (v39 6), .int .i64 (v39 7), .int .i64 (v39 8), .int .i64 (v39 9), .int .i64 (v39 10), .int .i64 (v39 11), .int .i64 (v39 12), .int .i64 (v39 13), .int .i64 (v39 14), .int .i64 (v39 15), .int .i64 (v39 16), .int .i64 (v39 17), .int .i64 (v39 18), .int .i64 (v39 19), .int .i64 (v39 20), .int .i64 (v39 21), .int .i64 (v39 22), .int .i64 (v39 23)])] ∧ j92 () = some r)) ?_ ?_
        · refine .seq ?_
          refine .region ?_
          refine .move ?_
          refine .lenL (f := (PV.int .i64)) ?_
          refine .move ?_
          refine .nil ?_
          refine .block ?_
          refine .loopI (fun m T => ∃ (v98 : Int), T = St.of [(1, .int .i64 a1), (2, .int .i64 a2), (7, .ptr (.loc 5 4) 0), (41, .sl 3 .ro (a0.map (PV.int .i64))), (42, .int .i64 (a0.length : Int)), (43, .int .i64 v98)] [((.loc 5 4), [.int .i64 v35, .sl 97 .ro (v36.map pv97), .int .i64 (v37 0), .int .i64 (v37 1), .int .i64 (v37 2), .int .i64 (v37 3), .int .i64 (v37 4), .int .i64 v38, .int .i64 (v39 0), .int .i64 (v39 1), .int .i64 (v39 2), .int .i64 (v39 3), .int .i64 (v39 4), .int .i64 (v39 5), .int .i64 (v39 6), .int .i64 (v39 7), .int .i64 (v39 8), .int .i64 (v39 9), .int .i64 (v39 10), .int .i64 (v39 11), .int .i64 (v39 12), .int .i64 (v39 13), .int .i64 (v39 14), .int .i64 (v39 15), .int .i64 (v39 16), .int .i64 (v39 17), .int .i64 (v39 18), .int .i64 (v39 19), .int .i64 (v39 20), .int .i64 (v39 21), .int .i64 (v39 22), .int .i64 (v39 23)])] ∧ f7_l2 n a0 v35 v36 v37 v38 v39 j92 m v98 = some r) _ _ ⟨_, rfl, h⟩ (imp_of (.cons rfl (.cons rfl (.cons rfl (.cons rfl (.cons rfl (.cons rfl (.nil))))))) (.cons rfl (.nil))) ?_
          rintro m105 T ⟨v98, rfl, h⟩
          obtain _ | m105 := m105
          · rw [f7_l2] at h; cases h
          rw [f7_l2] at h
          refine .seq ?_
          refine .region ?_
          refine .val ?_
          refine .nil ?_
          refine .seq ?_
          refine .cond (fun hc107 => ?_) (fun hc107 => ?_)
          · replace h := (if_pos hc107).symm.trans h
            refine .skip ?_
            refine .seq ?_
            refine .block ?_
            refine .seq ?_
            refine .region ?_
            obtain ⟨x112, hx112, h⟩ := bindE h
            refine .idxL (f := (PV.int .i64)) hx112 ?_
            refine .ldL hx112 (y := .int .i64 x112) ?_
            refine .assign ?_
            refine .nil ?_
            refine .seq ?_
            refine .region ?_
            refine .val (v := .agg [.int .i64 v35, .sl 97 .ro (v36.map pv97), .int .i64 (v37 0), .int .i64 (v37 1), .int .i64 (v37 2), .int .i64 (v37 3), .int .i64 (v37 4), .int .i64 v38, .int .i64 (v39 0), .int .i64 (v39 1), .int .i64 (v39 2), .int .i64 (v39 3), .int .i64 (v39 4), .int .i64 (v39 5), .int .i64 (v39 6), .int .i64 (v39 7), .int .i64 (v39 8), .int .i64 (v39 9), .int .i64 (v39 10), .int .i64 (v39 11), .int .i64 (v39 12), .int .i64 (v39 13), .int .i64 (v39 14), .int .i64 (v39 15), .int .i64 (v39 16), .int .i64 (v39 17), .int .i64 (v39 18), .int .i64 (v39 19), .int .i64 (v39 20), .int .i64 (v39 21), .int .i64 (v39 22), .int .i64 (v39 23)]) ?_
            obtain ⟨y113, hy113, h⟩ := bindE h
            refine .cP (g40 hy113) ?_
            refine .move ?_
            obtain ⟨y114, hy114, h⟩ := bindE h
            refine .cP (g39 hy114) ?_
            refine .val ?_
            refine .nil ?_
            refine .cond (fun hc115 => ?_) (fun hc115 => ?_)
            · replace h := (if_pos hc115).symm.trans h
              refine .seq ?_
              refine .region ?_
              refine .assign ?_
              refine .nil ?_
              cases h
              exact .ret (fin_gen0 none)
            · replace h := (if_neg (nt hc115)).symm.trans h
              refine .skip ?_
              refine .region ?_
              refine .val ?_
              refine .move ?_
              refine .nil ?_
              exact ⟨m105, _, Nat.lt_succ_self m105, ⟨_, rfl, h⟩, (imp_of (.cons rfl (.cons rfl (.cons rfl (.cons rfl (.cons rfl (.cons rfl (.nil))))))) (.cons rfl (.nil)))⟩
          · replace h := (if_neg (nt hc107)).symm.trans h
            refine .exit (.hit ?_)
            exact ⟨_, ⟨rfl, h⟩, (imp_of (.cons rfl (.cons rfl (.cons rfl (.nil)))) (.cons rfl (.nil)))⟩
        · rintro T ⟨rfl, h⟩
          subst hj92
          refine .seq ?_
          refine .region ?_
          refine .move ?_
          obtain ⟨y116, hy116, h⟩ := bindE h
          refine .cP (g39 hy116) ?_
          refine .move ?_
          obtain ⟨y117, hy117, h⟩ := bindE h
          refine .cP (g39 hy117) ?_
          refine .assign ?_
          refine .assign ?_
          refine .nil ?_
          refine .seq ?_
          obtain ⟨y118, hy118, h⟩ := bindE h
          obtain ⟨y119, hy119, h⟩ := bindE h
          refine .draw [] [[], [], [], [], [], [], [], [], [], [], [], []] [[], [], [], [], [], [], [], [], [], [], [], []] [[]]
            [(0, 0), (1, 0), (2, 0), (3, 0), (4, 0), (5, 0), (6, 0), (7, 0), (8, 0), (9, 0), (10, 0), (11, 0)] [] 0
            [⟨[(57, .agg [.int .i64 v35, .sl 97 .ro (v36.map pv97), .int .i64 (v37 0), .int .i64 (v37 1), .int .i64 (v37 2), .int .i64 (v37 3), .int .i64 (v37 4), .int .i64 v38, .int .i64 (v39 0), .int .i64 (v39 1), .int .i64 (v39 2), .int .i64 (v39 3), .int .i64 (v39 4), .int .i64 (v39 5), .int .i64 (v39 6), .int .i64 (v39 7), .int .i64 (v39 8), .int .i64 (v39 9), .int .i64 (v39 10), .int .i64 (v39 11), .int .i64 (v39 12), .int .i64 (v39 13), .int .i64 (v39 14), .int .i64 (v39 15), .int .i64 (v39 16), .int .i64 (v39 17), .int .i64 (v39 18), .int .i64 (v39 19), .int .i64 (v39 20), .int .i64 (v39 21), .int .i64 (v39 22), .int .i64 (v39 23)]), (58, .int .i64 y116), (59, .int .i64 y117), (60, .int .i64 (iMin y116 y117)), (61, .int .i64 y118), (62, .agg [.int .i64 v35, .sl 97 .ro (v36.map pv97), .int .i64 (v37 0), .int .i64 (v37 1), .int .i64 (v37 2), .int .i64 (v37 3), .int .i64 (v37 4), .int .i64 v38, .int .i64 (v39 0), .int .i64 (v39 1), .int .i64 (v39 2), .int .i64 (v39 3), .int .i64 (v39 4), .int .i64 (v39 5), .int .i64 (v39 6), .int .i64 (v39 7), .int .i64 (v39 8), .int .i64 (v39 9), .int .i64 (v39 10), .int .i64 (v39 11), .int .i64 (v39 12), .int .i64 (v39 13), .int .i64 (v39 14), .int .i64 (v39 15), .int .i64 (v39 16), .int .i64 (v39 17), .int .i64 (v39 18), .int .i64 (v39 19), .int .i64 (v39 20), .int .i64 (v39 21), .int .i64 (v39 22), .int .i64 (v39 23)]), (63, .int .i64 y116), (64, .int .i64 y117), (65, .int .i64 (iMax y116 y117)), (66, .int .i64 y119), (67, .bool (decide (y118 ≤ y119))), (6, .bool (decide (y118 ≤ y119))), (1, .int .i64 y116), (2, .int .i64 y117), (7, .ptr (.loc 5 4) 0)], [], [((.loc 5 4), [.int .i64 v35, .sl 97 .ro (v36.map pv97), .int .i64 (v37 0), .int .i64 (v37 1), .int .i64 (v37 2), .int .i64 (v37 3), .int .i64 (v37 4), .int .i64 v38, .int .i64 (v39 0), .int .i64 (v39 1), .int .i64 (v39 2), .int .i64 (v39 3), .int .i64 (v39 4), .int .i64 (v39 5), .int .i64 (v39 6), .int .i64 (v39 7), .int .i64 (v39 8), .int .i64 (v39 9), .int .i64 (v39 10), .int .i64 (v39 11), .int .i64 (v39 12), .int .i64 (v39 13), .int .i64 (v39 14), .int .i64 (v39 15), .int .i64 (v39 16), .int .i64 (v39 17), .int .i64 (v39 18), .int .i64 (v39 19), .int .i64 (v39 20), .int .i64 (v39 21), .int .i64 (v39 22), .int .i64 (v39 23)])]⟩]
            [(1, .int .i64 y116), (2, .int .i64 y117), (7, .ptr (.loc 5 4) 0)]
            (.cons [7] [] (fun _ _ h => .val (h _)) rfl rfl <|
            .cons [1] [] (fun _ _ h => .move (h _)) rfl rfl <|
            .cons [2] [] (fun _ _ h => .move (h _)) rfl rfl <|
            .cons [58, 59] [] (fun _ _ h => .minL (h _)) rfl rfl <|
            .cons [57, 60] [] (fun _ _ h => .cP (g40 hy118) (h _)) rfl rfl <|
            .cons [7] [] (fun _ _ h => .val (h _)) rfl rfl <|
            .cons [1] [] (fun _ _ h => .move (h _)) rfl rfl <|
            .cons [2] [] (fun _ _ h => .move (h _)) rfl rfl <|
            .cons [63, 64] [] (fun _ _ h => .maxL (h _)) rfl rfl <|
            .cons [62, 65] [] (fun _ _ h => .cP (g40 hy119) (h _)) rfl rfl <|
            .cons [61, 66] [] (fun _ _ h => .val (h _)) rfl rfl <|
            .cons [67] [] (fun _ _ h => .assign (h _)) rfl rfl <|
            .nil)
            (.nil)
            (by kernel_rfl) rfl (.cons rfl (.cons rfl (.cons rfl (.nil)))) (.nil) (.cons rfl (.nil)) ?_
          cases h
          exact .ret (fin_gen0 none)
end Go.Proofs.Ytacdknbakjbpiaa
