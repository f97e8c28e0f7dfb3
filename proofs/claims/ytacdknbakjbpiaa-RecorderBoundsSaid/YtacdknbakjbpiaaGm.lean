/-
  Plain functions of recorder, soundservicelaw38, soundservicemill, soundserviceref37, soundserviceref38, and that the code does what they say.
-/
import Derived.Test.YtacdknbakjbpiaaGg
namespace Go.Proofs.Ytacdknbakjbpiaa
open Go Ab
/- soundservice/soundserviceref38.Measure -/
def f66_l1 (n : Nat) (j15 : Int → Option (Recorder × Int)) : Nat → Int → Int → Option (Recorder × Int)
  | 0, _, _ => none
  | m22 + 1, v17, v18 =>
    if decide (v17 > (0 : Int)) then (
    f66_l1 n j15 m22 (w64 (Int.tdiv v17 (2 : Int))) (w64 (v18 + (1 : Int))))
    else (
    j15 v18)
def f66 (n : Nat) (a0 : Recorder) (a1 : Int) : Option (Recorder × Int) :=
  (f61 n (⟨a0.Limit, a0.Last, a0.Counts, a0.Frames, a0.Buckets⟩ : Recorder)).bind fun y3 =>
  if !y3 then (
  some ((⟨0, ([] : List Glitch), aZ, 0, aZ⟩ : Recorder), 1))
  else (
  if decide (a1 < (0 : Int)) then (
  some ((⟨0, ([] : List Glitch), aZ, 0, aZ⟩ : Recorder), 2))
  else (
  joinK (fun (v14 : Int) =>
  (aIdx 24 (iMin v14 (23 : Int))).bind fun x25 =>
  (aIdx 24 (iMin v14 (23 : Int))).bind fun x26 =>
  some ((⟨a0.Limit, a0.Last, a0.Counts, a0.Frames, (aUp a0.Buckets x26 (iMin (w64 ((a0.Buckets x25) + (1 : Int))) (1099511627776 : Int)))⟩ : Recorder), 0)) fun j15 =>
  f66_l1 n j15 n a1 0))
set_option maxHeartbeats 4000000 in
set_option maxRecDepth 100000 in
theorem g66 {n : Nat} {a0 : Recorder} {a1 : Int} {r : (Recorder × Int)} (h : f66 n a0 a1 = some r) :
    Ab.Can Try.prog 66 [.agg [.int .i64 a0.Limit, .sl 97 .ro (a0.Last.map pv97), .int .i64 (a0.Counts 0), .int .i64 (a0.Counts 1), .int .i64 (a0.Counts 2), .int .i64 (a0.Counts 3), .int .i64 (a0.Counts 4), .int .i64 a0.Frames, .int .i64 (a0.Buckets 0), .int .i64 (a0.Buckets 1), .int .i64 (a0.Buckets 2), .int .i64 (a0.Buckets 3), .int .i64 (a0.Buckets 4), .int .i64 (a0.Buckets 5), .int .i64 (a0.Buckets 6), .int .i64 (a0.Buckets 7), .int .i64 (a0.Buckets 8), .int .i64 (a0.Buckets 9), .int .i64 (a0.Buckets 10), .int .i64 (a0.Buckets 11), .int .i64 (a0.Buckets 12), .int .i64 (a0.Buckets 13), .int .i64 (a0.Buckets 14), .int .i64 (a0.Buckets 15), .int .i64 (a0.Buckets 16), .int .i64 (a0.Buckets 17), .int .i64 (a0.Buckets 18), .int .i64 (a0.Buckets 19), .int .i64 (a0.Buckets 20), .int .i64 (a0.Buckets 21), .int .i64 (a0.Buckets 22), .int .i64 (a0.Buckets 23)], .int .i64 a1] H0 (.tup [.agg [.int .i64 r.1.Limit, .sl 97 .ro (r.1.Last.map pv97), .int .i64 (r.1.Counts 0), .int .i64 (r.1.Counts 1), .int .i64 (r.1.Counts 2), .int .i64 (r.1.Counts 3), .int .i64 (r.1.Counts 4), .int .i64 r.1.Frames, .int .i64 (r.1.Buckets 0), .int .i64 (r.1.Buckets 1), .int .i64 (r.1.Buckets 2), .int .i64 (r.1.Buckets 3), .int .i64 (r.1.Buckets 4), .int .i64 (r.1.Buckets 5), .int .i64 (r.1.Buckets 6), .int .i64 (r.1.Buckets 7), .int .i64 (r.1.Buckets 8), .int .i64 (r.1.Buckets 9), .int .i64 (r.1.Buckets 10), .int .i64 (r.1.Buckets 11), .int .i64 (r.1.Buckets 12), .int .i64 (r.1.Buckets 13), .int .i64 (r.1.Buckets 14), .int .i64 (r.1.Buckets 15), .int .i64 (r.1.Buckets 16), .int .i64 (r.1.Buckets 17), .int .i64 (r.1.Buckets 18), .int .i64 (r.1.Buckets 19), .int .i64 (r.1.Buckets 20), .int .i64 (r.1.Buckets 21), .int .i64 (r.1.Buckets 22), .int .i64 (r.1.Buckets 23)], .int .i64 r.2]) H0 := by
  refine can_of tabOK mix Try.call66 Try.func66 rfl (by kernel_rfl) (by show _ ≤ 32; simp) fun _ => ?_
  rw [f66] at h
  refine .seq ?_
  refine .region ?_
  refine .boxL (cs := [.int .i64 a0.Limit, .sl 97 .ro (a0.Last.map pv97), .int .i64 (a0.Counts 0), .int .i64 (a0.Counts 1), .int .i64 (a0.Counts 2), .int .i64 (a0.Counts 3), .int .i64 (a0.Counts 4), .int .i64 a0.Frames, .int .i64 (a0.Buckets 0), .int .i64 (a0.Buckets 1), .int .i64 (a0.Buckets 2), .int .i64 (a0.Buckets 3), .int .i64 (a0.Buckets 4), .int .i64 (a0.Buckets 5), .int .i64 (a0.Buckets 6), .int .i64 (a0.Buckets 7), .int .i64 (a0.Buckets 8), .int .i64 (a0.Buckets 9), .int .i64 (a0.Buckets 10), .int .i64 (a0.Buckets 11), .int .i64 (a0.Buckets 12), .int .i64 (a0.Buckets 13), .int .i64 (a0.Buckets 14), .int .i64 (a0.Buckets 15), .int .i64 (a0.Buckets 16), .int .i64 (a0.Buckets 17), .int .i64 (a0.Buckets 18), .int .i64 (a0.Buckets 19), .int .i64 (a0.Buckets 20), .int .i64 (a0.Buckets 21), .int .i64 (a0.Buckets 22), .int .i64 (a0.Buckets 23)]) ?_
  refine .allocL (cs := [.int .i64 0, .sl 97 .full [], .int .i64 (aZ 0), .int .i64 (aZ 1), .int .i64 (aZ 2), .int .i64 (aZ 3), .int .i64 (aZ 4), .int .i64 0, .int .i64 (aZ 0), .int .i64 (aZ 1), .int .i64 (aZ 2), .int .i64 (aZ 3), .int .i64 (aZ 4), .int .i64 (aZ 5), .int .i64 (aZ 6), .int .i64 (aZ 7), .int .i64 (aZ 8), .int .i64 (aZ 9), .int .i64 (aZ 10), .int .i64 (aZ 11), .int .i64 (aZ 12), .int .i64 (aZ 13), .int .i64 (aZ 14), .int .i64 (aZ 15), .int .i64 (aZ 16), .int .i64 (aZ 17), .int .i64 (aZ 18), .int .i64 (aZ 19), .int .i64 (aZ 20), .int .i64 (aZ 21), .int .i64 (aZ 22), .int .i64 (aZ 23)]) ?_
  refine .assign ?_
  refine .nil ?_
  refine .seq ?_
  refine .seq ?_
  refine .region ?_
  refine .val (v := .agg [.int .i64 a0.Limit, .sl 97 .ro (a0.Last.map pv97), .int .i64 (a0.Counts 0), .int .i64 (a0.Counts 1), .int .i64 (a0.Counts 2), .int .i64 (a0.Counts 3), .int .i64 (a0.Counts 4), .int .i64 a0.Frames, .int .i64 (a0.Buckets 0), .int .i64 (a0.Buckets 1), .int .i64 (a0.Buckets 2), .int .i64 (a0.Buckets 3), .int .i64 (a0.Buckets 4), .int .i64 (a0.Buckets 5), .int .i64 (a0.Buckets 6), .int .i64 (a0.Buckets 7), .int .i64 (a0.Buckets 8), .int .i64 (a0.Buckets 9), .int .i64 (a0.Buckets 10), .int .i64 (a0.Buckets 11), .int .i64 (a0.Buckets 12), .int .i64 (a0.Buckets 13), .int .i64 (a0.Buckets 14), .int .i64 (a0.Buckets 15), .int .i64 (a0.Buckets 16), .int .i64 (a0.Buckets 17), .int .i64 (a0.Buckets 18), .int .i64 (a0.Buckets 19), .int .i64 (a0.Buckets 20), .int .i64 (a0.Buckets 21), .int .i64 (a0.Buckets 22), .int .i64 (a0.Buckets 23)]) ?_
  obtain ⟨y3, hy3, h⟩ := bindE h
  refine .cP (g61 hy3) ?_
  refine .val ?_
  refine .nil ?_
  refine .cond (fun hc4 => ?_) (fun hc4 => ?_)
  · replace h := (if_pos hc4).symm.trans h
    refine .seq ?_
    refine .region ?_
    refine .buildL (cs := [.int .i64 0, .sl 97 .full [], .int .i64 (aZ 0), .int .i64 (aZ 1), .int .i64 (aZ 2), .int .i64 (aZ 3), .int .i64 (aZ 4), .int .i64 0, .int .i64 (aZ 0), .int .i64 (aZ 1), .int .i64 (aZ 2), .int .i64 (aZ 3), .int .i64 (aZ 4), .int .i64 (aZ 5), .int .i64 (aZ 6), .int .i64 (aZ 7), .int .i64 (aZ 8), .int .i64 (aZ 9), .int .i64 (aZ 10), .int .i64 (aZ 11), .int .i64 (aZ 12), .int .i64 (aZ 13), .int .i64 (aZ 14), .int .i64 (aZ 15), .int .i64 (aZ 16), .int .i64 (aZ 17), .int .i64 (aZ 18), .int .i64 (aZ 19), .int .i64 (aZ 20), .int .i64 (aZ 21), .int .i64 (aZ 22), .int .i64 (aZ 23)]) ?_
    refine .wrL (cs := [.int .i64 0, .sl 97 .full [], .int .i64 (aZ 0), .int .i64 (aZ 1), .int .i64 (aZ 2), .int .i64 (aZ 3), .int .i64 (aZ 4), .int .i64 0, .int .i64 (aZ 0), .int .i64 (aZ 1), .int .i64 (aZ 2), .int .i64 (aZ 3), .int .i64 (aZ 4), .int .i64 (aZ 5), .int .i64 (aZ 6), .int .i64 (aZ 7), .int .i64 (aZ 8), .int .i64 (aZ 9), .int .i64 (aZ 10), .int .i64 (aZ 11), .int .i64 (aZ 12), .int .i64 (aZ 13), .int .i64 (aZ 14), .int .i64 (aZ 15), .int .i64 (aZ 16), .int .i64 (aZ 17), .int .i64 (aZ 18), .int .i64 (aZ 19), .int .i64 (aZ 20), .int .i64 (aZ 21), .int .i64 (aZ 22), .int .i64 (aZ 23)]) ?_
    refine .assign ?_
    refine .nil ?_
    cases h
    refine .imp (Imp.cell (.loc 0 1) (ds := [.int .i64 0, .sl 97 .ro (([] : List Glitch).map pv97), .int .i64 (aZ 0), .int .i64 (aZ 1), .int .i64 (aZ 2), .int .i64 (aZ 3), .int .i64 (aZ 4), .int .i64 0, .int .i64 (aZ 0), .int .i64 (aZ 1), .int .i64 (aZ 2), .int .i64 (aZ 3), .int .i64 (aZ 4), .int .i64 (aZ 5), .int .i64 (aZ 6), .int .i64 (aZ 7), .int .i64 (aZ 8), .int .i64 (aZ 9), .int .i64 (aZ 10), .int .i64 (aZ 11), .int .i64 (aZ 12), .int .i64 (aZ 13), .int .i64 (aZ 14), .int .i64 (aZ 15), .int .i64 (aZ 16), .int .i64 (aZ 17), .int .i64 (aZ 18), .int .i64 (aZ 19), .int .i64 (aZ 20), .int .i64 (aZ 21), .int .i64 (aZ 22), .int .i64 (aZ 23)]) (.cons (.refl _) rfl (.cons (.ro _ _) rfl (.cons (.refl _) rfl (.cons (.refl _) rfl (.cons (.refl _) rfl (.cons (.refl _) rfl (.cons (.refl _) rfl (.cons (.refl _) rfl (.cons (.refl _) rfl (.cons (.refl _) rfl (.cons (.refl _) rfl (.cons (.refl _) rfl (.cons (.refl _) rfl (.cons (.refl _) rfl (.cons (.refl _) rfl (.cons (.refl _) rfl (.cons (.refl _) rfl (.cons (.refl _) rfl (.cons (.refl _) rfl (.cons (.refl _) rfl (.cons (.refl _) rfl (.cons (.refl _) rfl (.cons (.refl _) rfl (.cons (.refl _) rfl (.cons (.refl _) rfl (.cons (.refl _) rfl (.cons (.refl _) rfl (.cons (.refl _) rfl (.cons (.refl _) rfl (.cons (.refl _) rfl (.cons (.refl _) rfl (.cons (.refl _) rfl (.nil))))))))))))))))))))))))))))))))) rfl) ?_
    exact .ret (fin_gen0 none)
  · replace h := (if_neg (nt hc4)).symm.trans h
    refine .skip ?_
    refine .seq ?_
    refine .seq ?_
    refine .region ?_
    refine .move ?_
    refine .val ?_
    refine .nil ?_
    refine .cond (fun hc6 => ?_) (fun hc6 => ?_)
    · replace h := (if_pos hc6).symm.trans h
      refine .seq ?_
      refine .region ?_
      refine .buildL (cs := [.int .i64 0, .sl 97 .full [], .int .i64 (aZ 0), .int .i64 (aZ 1), .int .i64 (aZ 2), .int .i64 (aZ 3), .int .i64 (aZ 4), .int .i64 0, .int .i64 (aZ 0), .int .i64 (aZ 1), .int .i64 (aZ 2), .int .i64 (aZ 3), .int .i64 (aZ 4), .int .i64 (aZ 5), .int .i64 (aZ 6), .int .i64 (aZ 7), .int .i64 (aZ 8), .int .i64 (aZ 9), .int .i64 (aZ 10), .int .i64 (aZ 11), .int .i64 (aZ 12), .int .i64 (aZ 13), .int .i64 (aZ 14), .int .i64 (aZ 15), .int .i64 (aZ 16), .int .i64 (aZ 17), .int .i64 (aZ 18), .int .i64 (aZ 19), .int .i64 (aZ 20), .int .i64 (aZ 21), .int .i64 (aZ 22), .int .i64 (aZ 23)]) ?_
      refine .wrL (cs := [.int .i64 0, .sl 97 .full [], .int .i64 (aZ 0), .int .i64 (aZ 1), .int .i64 (aZ 2), .int .i64 (aZ 3), .int .i64 (aZ 4), .int .i64 0, .int .i64 (aZ 0), .int .i64 (aZ 1), .int .i64 (aZ 2), .int .i64 (aZ 3), .int .i64 (aZ 4), .int .i64 (aZ 5), .int .i64 (aZ 6), .int .i64 (aZ 7), .int .i64 (aZ 8), .int .i64 (aZ 9), .int .i64 (aZ 10), .int .i64 (aZ 11), .int .i64 (aZ 12), .int .i64 (aZ 13), .int .i64 (aZ 14), .int .i64 (aZ 15), .int .i64 (aZ 16), .int .i64 (aZ 17), .int .i64 (aZ 18), .int .i64 (aZ 19), .int .i64 (aZ 20), .int .i64 (aZ 21), .int .i64 (aZ 22), .int .i64 (aZ 23)]) ?_
      refine .assign ?_
      refine .nil ?_
      cases h
      refine .imp (Imp.cell (.loc 0 1) (ds := [.int .i64 0, .sl 97 .ro (([] : List Glitch).map pv97), .int .i64 (aZ 0), .int .i64 (aZ 1), .int .i64 (aZ 2), .int .i64 (aZ 3), .int .i64 (aZ 4), .int .i64 0, .int .i64 (aZ 0), .int .i64 (aZ 1), .int .i64 (aZ 2), .int .i64 (aZ 3), .int .i64 (aZ 4), .int .i64 (aZ 5), .int .i64 (aZ 6), .int .i64 (aZ 7), .int .i64 (aZ 8), .int .i64 (aZ 9), .int .i64 (aZ 10), .int .i64 (aZ 11), .int .i64 (aZ 12), .int .i64 (aZ 13), .int .i64 (aZ 14), .int .i64 (aZ 15), .int .i64 (aZ 16), .int .i64 (aZ 17), .int .i64 (aZ 18), .int .i64 (aZ 19), .int .i64 (aZ 20), .int .i64 (aZ 21), .int .i64 (aZ 22), .int .i64 (aZ 23)]) (.cons (.refl _) rfl (.cons (.ro _ _) rfl (.cons (.refl _) rfl (.cons (.refl _) rfl (.cons (.refl _) rfl (.cons (.refl _) rfl (.cons (.refl _) rfl (.cons (.refl _) rfl (.cons (.refl _) rfl (.cons (.refl _) rfl (.cons (.refl _) rfl (.cons (.refl _) rfl (.cons (.refl _) rfl (.cons (.refl _) rfl (.cons (.refl _) rfl (.cons (.refl _) rfl (.cons (.refl _) rfl (.cons (.refl _) rfl (.cons (.refl _) rfl (.cons (.refl _) rfl (.cons (.refl _) rfl (.cons (.refl _) rfl (.cons (.refl _) rfl (.cons (.refl _) rfl (.cons (.refl _) rfl (.cons (.refl _) rfl (.cons (.refl _) rfl (.cons (.refl _) rfl (.cons (.refl _) rfl (.cons (.refl _) rfl (.cons (.refl _) rfl (.cons (.refl _) rfl (.nil))))))))))))))))))))))))))))))))) rfl) ?_
      exact .ret (fin_gen0 none)
    · replace h := (if_neg (nt hc6)).symm.trans h
      refine .skip ?_
      refine .seq ?_
      refine .region ?_
      refine .assign ?_
      refine .nil ?_
      obtain ⟨j15, hj15, h⟩ := joinE h
      refine .cutI (fun T => (∃ (v14 : Int), T = St.of [(2, .ptr (.loc 0 0) 0), (4, .ptr (.loc 0 1) 0), (6, .int .i64 v14)] [((.loc 0 0), [.int .i64 a0.Limit, .sl 97 .ro (a0.Last.map pv97), .int .i64 (a0.Counts 0), .int .i64 (a0.Counts 1), .int .i64 (a0.Counts 2), .int .i64 (a0.Counts 3), .int .i64 (a0.Counts 4), .int .i64 a0.Frames, .int .i64 (a0.Buckets 0), .int .i64 (a0.Buckets 1), .int .i64 (a0.Buckets 2), .int .i64 (a0.Buckets 3), .int .i64 (a0.Buckets 4), .int .i64 (a0.Buckets 5), .int .i64 (a0.Buckets 6), .int .i64 (a0.Buckets 7), .int .i64 (a0.Buckets 8), .int .i64 (a0.Buckets 9), .int .i64 (a0.Buckets 10), .int .i64 (a0.Buckets 11), .int .i64 (a0.Buckets 12), .int .i64 (a0.Buckets 13), .int .i64 (a0.Buckets 14), .int .i64 (a0.Buckets 15), .int .i64 (a0.Buckets 16), .int .i64 (a0.Buckets 17), .int .i64 (a0.Buckets 18), .int .i64 (a0.Buckets 19), .int .i64 (a0.Buckets 20), .int .i64 (a0.Buckets 21), .int .i64 (a0.Buckets 22), .int .i64 (a0.Buckets 23)]), ((.loc 0 1), [.int .i64 0, .sl 97 .full [], .int .i64 (aZ 0), .int .i64 (aZ 1), .int .i64 (aZ 2), .int .i64 (aZ 3), .int .i64 (aZ 4), .int .i64 0, .int .i64 (aZ 0), .int .i64 (aZ 1), .int .i64 (aZ 2), .int .i64 (aZ 3), .int .i64 (aZ 4), .int .i64 (aZ 5), .int .i64 (aZ 6), .int .i64 (aZ 7), .int .i64 (aZ 8), .int .i64 (aZ 9), .int .i64 (aZ 10), .int .i64 (aZ 11), .int .i64 (aZ 12), .int .i64 (aZ 13), .int .i64 (aZ 14), .int .i64 (aZ 15), .int .i64 (aZ 16), .int .i64 (aZ 17), .int .i64 (aZ 18), .int .i64 (aZ 19), .int .i64 (aZ 20), .int .i64 (aZ 21), .int .i64 (aZ 22), .int .i64 (aZ 23)])] ∧ j15 v14 = some r)) ?_ ?_
      · refine .block ?_
        refine .loopI (fun m T => ∃ (v17 : Int) (v18 : Int), T = St.of [(1, .int .i64 v17), (2, .ptr (.loc 0 0) 0), (4, .ptr (.loc 0 1) 0), (6, .int .i64 v18)] [((.loc 0 0), [.int .i64 a0.Limit, .sl 97 .ro (a0.Last.map pv97), .int .i64 (a0.Counts 0), .int .i64 (a0.Counts 1), .int .i64 (a0.Counts 2), .int .i64 (a0.Counts 3), .int .i64 (a0.Counts 4), .int .i64 a0.Frames, .int .i64 (a0.Buckets 0), .int .i64 (a0.Buckets 1), .int .i64 (a0.Buckets 2), .int .i64 (a0.Buckets 3), .int .i64 (a0.Buckets 4), .int .i64 (a0.Buckets 5), .int .i64 (a0.Buckets 6), .int .i64 (a0.Buckets 7), .int .i64 (a0.Buckets 8), .int .i64 (a0.Buckets 9), .int .i64 (a0.Buckets 10), .int .i64 (a0.Buckets 11), .int .i64 (a0.Buckets 12), .int .i64 (a0.Buckets 13), .int .i64 (a0.Buckets 14), .int .i64 (a0.Buckets 15), .int .i64 (a0.Buckets 16), .int .i64 (a0.Buckets 17), .int .i64 (a0.Buckets 18), .int .i64 (a0.Buckets 19), .int .i64 (a0.Buckets 20), .int .i64 (a0.Buckets 21), .int .i64 (a0.Buckets 22), .int .i64 (a0.Buckets 23)]), ((.loc 0 1), [.int .i64 0, .sl 97 .full [], .int .i64 (aZ 0), .int .i64 (aZ 1), .int .i64 (aZ 2), .int .i64 (aZ 3), .int .i64 (aZ 4), .int .i64 0, .int .i64 (aZ 0), .int .i64 (aZ 1), .int .i64 (aZ 2), .int .i64 (aZ 3), .int .i64 (aZ 4), .int .i64 (aZ 5), .int .i64 (aZ 6), .int .i64 (aZ 7), .int .i64 (aZ 8), .int .i64 (aZ 9), .int .i64 (aZ 10), .int .i64 (aZ 11), .int .i64 (aZ 12), .int .i64 (aZ 13), .int .i64 (aZ 14), .int .i64 (aZ 15), .int .i64 (aZ 16), .int .i64 (aZ 17), .int .i64 (aZ 18), .int .i64 (aZ 19), .int .i64 (aZ 20), .int .i64 (aZ 21), .int .i64 (aZ 22), .int .i64 (aZ 23)])] ∧ f66_l1 n j15 m v17 v18 = some r) _ _ ⟨_, _, rfl, h⟩ (imp_of (.cons rfl (.cons rfl (.cons rfl (.cons rfl (.nil))))) (.cons rfl (.cons rfl (.nil)))) ?_
        rintro m22 T ⟨v17, v18, rfl, h⟩
        obtain _ | m22 := m22
        · rw [f66_l1] at h; cases h
        rw [f66_l1] at h
        refine .seq ?_
        refine .seq ?_
        refine .region ?_
        refine .move ?_
        refine .val ?_
        refine .nil ?_
        refine .cond (fun hc24 => ?_) (fun hc24 => ?_)
        · replace h := (if_pos hc24).symm.trans h
          refine .skip ?_
          refine .seq ?_
          refine .block ?_
          refine .region ?_
          refine .move ?_
          refine .val ?_
          refine .assign ?_
          refine .nil ?_
          refine .region ?_
          refine .move ?_
          refine .val ?_ (hc := by decide)
          refine .assign ?_
          refine .nil ?_
          exact ⟨m22, _, Nat.lt_succ_self m22, ⟨_, _, rfl, h⟩, (imp_of (.cons rfl (.cons rfl (.cons rfl (.cons rfl (.nil))))) (.cons rfl (.cons rfl (.nil))))⟩
        · replace h := (if_neg (nt hc24)).symm.trans h
          refine .exit (.hit ?_)
          exact ⟨_, ⟨_, rfl, h⟩, (imp_of (.cons rfl (.cons rfl (.cons rfl (.nil)))) (.cons rfl (.cons rfl (.nil))))⟩
      · rintro T ⟨v14, rfl, h⟩
        subst hj15
        refine .seq ?_
        refine .region ?_
        refine .move ?_
        refine .minL ?_
        refine .assign ?_
        refine .nil ?_
        refine .seq ?_
        refine .region ?_
        refine .move ?_
        refine .move ?_
        refine .val ?_
        obtain ⟨x25, hx25, h⟩ := bindE h
        refine .idxA hx25 ?_
        refine .ldA hx25 (A := a0.Buckets) ?_
        refine .val ?_
        refine .minL ?_
        refine .val ?_
        obtain ⟨x26, hx26, h⟩ := bindE h
        refine .idxA hx26 ?_
        refine .stA hx26 (A := a0.Buckets) (cs' := [.int .i64 a0.Limit, .sl 97 .ro (a0.Last.map pv97), .int .i64 (a0.Counts 0), .int .i64 (a0.Counts 1), .int .i64 (a0.Counts 2), .int .i64 (a0.Counts 3), .int .i64 (a0.Counts 4), .int .i64 a0.Frames, .int .i64 ((aUp a0.Buckets x26 (iMin (w64 ((a0.Buckets x25) + (1 : Int))) (1099511627776 : Int))) 0), .int .i64 ((aUp a0.Buckets x26 (iMin (w64 ((a0.Buckets x25) + (1 : Int))) (1099511627776 : Int))) 1), .int .i64 ((aUp a0.Buckets x26 (iMin (w64 ((a0.Buckets x25) + (1 : Int))) (1099511627776 : Int))) 2), .int .i64 ((aUp a0.Buckets x26 (iMin (w64 ((a0.Buckets x25) + (1 : Int))) (1099511627776 : Int))) 3), .int .i64 ((aUp a0.Buckets x26 (iMin (w64 ((a0.Buckets x25) + (1 : Int))) (1099511627776 : Int))) 4), .int .i64 ((aUp a0.Buckets x26 (iMin (w64 ((a0.Buckets x25) + (1 : Int))) (1099511627776 : Int))) 5), .int .i64 ((aUp a0.Buckets x26 (iMin (w64 ((a0.Buckets x25) + (1 : Int))) (1099511627776 : Int))) 6), .int .i64 ((aUp a0.Buckets x26 (iMin (w64 ((a0.Buckets x25) + (1 : Int))) (1099511627776 : Int))) 7), .int .i64 ((aUp a0.Buckets x26 (iMin (w64 ((a0.Buckets x25) + (1 : Int))) (1099511627776 : Int))) 8), .int .i64 ((aUp a0.Buckets x26 (iMin (w64 ((a0.Buckets x25) + (1 : Int))) (1099511627776 : Int))) 9), .int .i64 ((aUp a0.Buckets x26 (iMin (w64 ((a0.Buckets x25) + (1 : Int))) (1099511627776 : Int))) 10), .int .i64 ((aUp a0.Buckets x26 (iMin (w64 ((a0.Buckets x25) + (1 : Int))) (1099511627776 : Int))) 11), .int .i64 ((aUp a0.Buckets x26 (iMin (w64 ((a0.Buckets x25) + (1 : Int))) (1099511627776 : Int))) 12), .int .i64 ((aUp a0.Buckets x26 (iMin (w64 ((a0.Buckets x25) + (1 : Int))) (1099511627776 : Int))) 13), .int .i64 ((aUp a0.Buckets x26 (iMin (w64 ((a0.Buckets x25) + (1 : Int))) (1099511627776 : Int))) 14), .int .i64 ((aUp a0.Buckets x26 (iMin (w64 ((a0.Buckets x25) + (1 : Int))) (1099511627776 : Int))) 15), .int .i64 ((aUp a0.Buckets x26 (iMin (w64 ((a0.Buckets x25) + (1 : Int))) (1099511627776 : Int))) 16), .int .i64 ((aUp a0.Buckets x26 (iMin (w64 ((a0.Buckets x25) + (1 : Int))) (1099511627776 : Int))) 17), .int .i64 ((aUp a0.Buckets x26 (iMin (w64 ((a0.Buckets x25) + (1 : Int))) (1099511627776 : Int))) 18), .int .i64 ((aUp a0.Buckets x26 (iMin (w64 ((a0.Buckets x25) + (1 : Int))) (1099511627776 : Int))) 19), .int .i64 ((aUp a0.Buckets x26 (iMin (w64 ((a0.Buckets x25) + (1 : Int))) (1099511627776 : Int))) 20), .int .i64 ((aUp a0.Buckets x26 (iMin (w64 ((a0.Buckets x25) + (1 : Int))) (1099511627776 : Int))) 21), .int .i64 ((aUp a0.Buckets x26 (iMin (w64 ((a0.Buckets x25) + (1 : Int))) (1099511627776 : Int))) 22), .int .i64 ((aUp a0.Buckets x26 (iMin (w64 ((a0.Buckets x25) + (1 : Int))) (1099511627776 : Int))) 23)]) ?_
        refine .nil ?_
        refine .seq ?_
        refine .region ?_
        refine .val (v := .agg [.int .i64 a0.Limit, .sl 97 .ro (a0.Last.map pv97), .int .i64 (a0.Counts 0), .int .i64 (a0.Counts 1), .int .i64 (a0.Counts 2), .int .i64 (a0.Counts 3), .int .i64 (a0.Counts 4), .int .i64 a0.Frames, .int .i64 ((aUp a0.Buckets x26 (iMin (w64 ((a0.Buckets x25) + (1 : Int))) (1099511627776 : Int))) 0), .int .i64 ((aUp a0.Buckets x26 (iMin (w64 ((a0.Buckets x25) + (1 : Int))) (1099511627776 : Int))) 1), .int .i64 ((aUp a0.Buckets x26 (iMin (w64 ((a0.Buckets x25) + (1 : Int))) (1099511627776 : Int))) 2), .int .i64 ((aUp a0.Buckets x26 (iMin (w64 ((a0.Buckets x25) + (1 : Int))) (1099511627776 : Int))) 3), .int .i64 ((aUp a0.Buckets x26 (iMin (w64 ((a0.Buckets x25) + (1 : Int))) (1099511627776 : Int))) 4), .int .i64 ((aUp a0.Buckets x26 (iMin (w64 ((a0.Buckets x25) + (1 : Int))) (1099511627776 : Int))) 5), .int .i64 ((aUp a0.Buckets x26 (iMin (w64 ((a0.Buckets x25) + (1 : Int))) (1099511627776 : Int))) 6), .int .i64 ((aUp a0.Buckets x26 (iMin (w64 ((a0.Buckets x25) + (1 : Int))) (1099511627776 : Int))) 7), .int .i64 ((aUp a0.Buckets x26 (iMin (w64 ((a0.Buckets x25) + (1 : Int))) (1099511627776 : Int))) 8), .int .i64 ((aUp a0.Buckets x26 (iMin (w64 ((a0.Buckets x25) + (1 : Int))) (1099511627776 : Int))) 9), .int .i64 ((aUp a0.Buckets x26 (iMin (w64 ((a0.Buckets x25) + (1 : Int))) (1099511627776 : Int))) 10), .int .i64 ((aUp a0.Buckets x26 (iMin (w64 ((a0.Buckets x25) + (1 : Int))) (1099511627776 : Int))) 11), .int .i64 ((aUp a0.Buckets x26 (iMin (w64 ((a0.Buckets x25) + (1 : Int))) (1099511627776 : Int))) 12), .int .i64 ((aUp a0.Buckets x26 (iMin (w64 ((a0.Buckets x25) + (1 : Int))) (1099511627776 : Int))) 13), .int .i64 ((aUp a0.Buckets x26 (iMin (w64 ((a0.Buckets x25) + (1 : Int))) (1099511627776 : Int))) 14), .int .i64 ((aUp a0.Buckets x26 (iMin (w64 ((a0.Buckets x25) + (1 : Int))) (1099511627776 : Int))) 15), .int .i64 ((aUp a0.Buckets x26 (iMin (w64 ((a0.Buckets x25) + (1 : Int))) (1099511627776 : Int))) 16), .int .i64 ((aUp a0.Buckets x26 (iMin (w64 ((a0.Buckets x25) + (1 : Int))) (1099511627776 : Int))) 17), .int .i64 ((aUp a0.Buckets x26 (iMin (w64 ((a0.Buckets x25) + (1 : Int))) (1099511627776 : Int))) 18), .int .i64 ((aUp a0.Buckets x26 (iMin (w64 ((a0.Buckets x25) + (1 : Int))) (1099511627776 : Int))) 19), .int .i64 ((aUp a0.Buckets x26 (iMin (w64 ((a0.Buckets x25) + (1 : Int))) (1099511627776 : Int))) 20), .int .i64 ((aUp a0.Buckets x26 (iMin (w64 ((a0.Buckets x25) + (1 : Int))) (1099511627776 : Int))) 21), .int .i64 ((aUp a0.Buckets x26 (iMin (w64 ((a0.Buckets x25) + (1 : Int))) (1099511627776 : Int))) 22), .int .i64 ((aUp a0.Buckets x26 (iMin (w64 ((a0.Buckets x25) + (1 : Int))) (1099511627776 : Int))) 23)]) ?_
        refine .wrL (cs := [.int .i64 a0.Limit, .sl 97 .ro (a0.Last.map pv97), .int .i64 (a0.Counts 0), .int .i64 (a0.Counts 1), .int .i64 (a0.Counts 2), .int .i64 (a0.Counts 3), .int .i64 (a0.Counts 4), .int .i64 a0.Frames, .int .i64 ((aUp a0.Buckets x26 (iMin (w64 ((a0.Buckets x25) + (1 : Int))) (1099511627776 : Int))) 0), .int .i64 ((aUp a0.Buckets x26 (iMin (w64 ((a0.Buckets x25) + (1 : Int))) (1099511627776 : Int))) 1), .int .i64 ((aUp a0.Buckets x26 (iMin (w64 ((a0.Buckets x25) + (1 : Int))) (1099511627776 : Int))) 2), .int .i64 ((aUp a0.Buckets x26 (iMin (w64 ((a0.Buckets x25) + (1 : Int))) (1099511627776 : Int))) 3), .int .i64 ((aUp a0.Buckets x26 (iMin (w64 ((a0.Buckets x25) + (1 : Int))) (1099511627776 : Int))) 4), .int .i64 ((aUp a0.Buckets x26 (iMin (w64 ((a0.Buckets x25) + (1 : Int))) (1099511627776 : Int))) 5), .int .i64 ((aUp a0.Buckets x26 (iMin (w64 ((a0.Buckets x25) + (1 : Int))) (1099511627776 : Int))) 6), .int .i64 ((aUp a0.Buckets x26 (iMin (w64 ((a0.Buckets x25) + (1 : Int))) (1099511627776 : Int))) 7), .int .i64 ((aUp a0.Buckets x26 (iMin (w64 ((a0.Buckets x25) + (1 : Int))) (1099511627776 : Int))) 8), .int .i64 ((aUp a0.Buckets x26 (iMin (w64 ((a0.Buckets x25) + (1 : Int))) (1099511627776 : Int))) 9), .int .i64 ((aUp a0.Buckets x26 (iMin (w64 ((a0.Buckets x25) + (1 : Int))) (1099511627776 : Int))) 10), .int .i64 ((aUp a0.Buckets x26 (iMin (w64 ((a0.Buckets x25) + (1 : Int))) (1099511627776 : Int))) 11), .int .i64 ((aUp a0.Buckets x26 (iMin (w64 ((a0.Buckets x25) + (1 : Int))) (1099511627776 : Int))) 12), .int .i64 ((aUp a0.Buckets x26 (iMin (w64 ((a0.Buckets x25) + (1 : Int))) (1099511627776 : Int))) 13), .int .i64 ((aUp a0.Buckets x26 (iMin (w64 ((a0.Buckets x25) + (1 : Int))) (1099511627776 : Int))) 14), .int .i64 ((aUp a0.Buckets x26 (iMin (w64 ((a0.Buckets x25) + (1 : Int))) (1099511627776 : Int))) 15), .int .i64 ((aUp a0.Buckets x26 (iMin (w64 ((a0.Buckets x25) + (1 : Int))) (1099511627776 : Int))) 16), .int .i64 ((aUp a0.Buckets x26 (iMin (w64 ((a0.Buckets x25) + (1 : Int))) (1099511627776 : Int))) 17), .int .i64 ((aUp a0.Buckets x26 (iMin (w64 ((a0.Buckets x25) + (1 : Int))) (1099511627776 : Int))) 18), .int .i64 ((aUp a0.Buckets x26 (iMin (w64 ((a0.Buckets x25) + (1 : Int))) (1099511627776 : Int))) 19), .int .i64 ((aUp a0.Buckets x26 (iMin (w64 ((a0.Buckets x25) + (1 : Int))) (1099511627776 : Int))) 20), .int .i64 ((aUp a0.Buckets x26 (iMin (w64 ((a0.Buckets x25) + (1 : Int))) (1099511627776 : Int))) 21), .int .i64 ((aUp a0.Buckets x26 (iMin (w64 ((a0.Buckets x25) + (1 : Int))) (1099511627776 : Int))) 22), .int .i64 ((aUp a0.Buckets x26 (iMin (w64 ((a0.Buckets x25) + (1 : Int))) (1099511627776 : Int))) 23)]) ?_
        refine .assign ?_
        refine .nil ?_
        cases h
        exact .ret (fin_gen0 none)

/- soundservice/soundservicemill.Glitch -/
def f62 (n : Nat) (a0 : Deck) : Option (Glitch × Deck) :=
  (f94 n (⟨a0.L, a0.At⟩ : Deck) (1 : Int) (4 : Int)).bind fun y1 =>
  (f79 n (⟨y1.2.L, y1.2.At⟩ : Deck) (12 : Int)).bind fun y2 =>
  (f94 n (⟨y2.2.L, y2.2.At⟩ : Deck) (1 : Int) (3 : Int)).bind fun y3 =>
  (f94 n (⟨y3.2.L, y3.2.At⟩ : Deck) (1 : Int) (50 : Int)).bind fun y4 =>
  joinK (fun (v8 : Int) (v9 : Int) (v10 : (List Int)) (v11 : Int) =>
  some ((⟨y1.1, y2.1, y3.1, v8, v9, y4.1⟩ : Glitch), (⟨v10, v11⟩ : Deck))) fun j12 =>
  if decide (y1.1 ≤ (2 : Int)) then (
  (f94 n (⟨y4.2.L, y4.2.At⟩ : Deck) (1 : Int) (3 : Int)).bind fun y14 =>
  j12 y14.1 0 y14.2.L y14.2.At)
  else (
  (f94 n (⟨y4.2.L, y4.2.At⟩ : Deck) (1 : Int) (3 : Int)).bind fun y15 =>
  j12 0 (IntKind.wrap .u64 (y15.1)) y15.2.L y15.2.At)
set_option maxHeartbeats 4000000 in
set_option maxRecDepth 100000 in
theorem g62 {n : Nat} {a0 : Deck} {r : (Glitch × Deck)} (h : f62 n a0 = some r) :
    Ab.Can Try.prog 62 [.ptr (.par 0) 0] (lookH [(.par 0, [.sl 3 .ro (a0.L.map (PV.int .i64)), .int .i64 a0.At])]) (.agg [.int .i64 r.1.Kind, .int .i64 r.1.At, .int .i64 r.1.Quanta, .int .i64 r.1.Stream, .int .u64 r.1.Device, .int .i64 r.1.Frames]) (lookH [(.par 0, [.sl 3 .ro (r.2.L.map (PV.int .i64)), .int .i64 r.2.At])]) := by
  refine can_of tabOK mix Try.call62 Try.func62 rfl (by kernel_rfl) (by show _ ≤ 24; simp) fun _ => ?_
  rw [f62] at h
  refine .seq ?_
  refine .region ?_
  refine .allocL (cs := [.int .i64 0, .int .i64 0, .int .i64 0, .int .i64 0, .int .u64 0, .int .i64 0]) ?_
  refine .nil ?_
  refine .seq ?_
  refine .region ?_
  refine .move ?_
  obtain ⟨y1, hy1, h⟩ := bindE h
  refine .cH (.par 0) (g94 hy1) ?_
  refine .move ?_
  obtain ⟨y2, hy2, h⟩ := bindE h
  refine .cH (.par 0) (g79 hy2) ?_
  refine .move ?_
  obtain ⟨y3, hy3, h⟩ := bindE h
  refine .cH (.par 0) (g94 hy3) ?_
  refine .move ?_
  obtain ⟨y4, hy4, h⟩ := bindE h
  refine .cH (.par 0) (g94 hy4) ?_
  refine .buildL (cs := [.int .i64 y1.1, .int .i64 y2.1, .int .i64 y3.1, .int .i64 0, .int .u64 0, .int .i64 y4.1]) ?_
  refine .allocL (cs := [.int .i64 0, .int .i64 0, .int .i64 0, .int .i64 0, .int .u64 0, .int .i64 0]) ?_
  refine .wrL (cs := [.int .i64 y1.1, .int .i64 y2.1, .int .i64 y3.1, .int .i64 0, .int .u64 0, .int .i64 y4.1]) ?_
  refine .nil ?_
  obtain ⟨j12, hj12, h⟩ := joinE h
  refine .cutI (fun T => (∃ (v8 : Int) (v9 : Int) (v10 : (List Int)) (v11 : Int), T = St.of [(2, .ptr (.loc 0 0) 0), (3, .ptr (.loc 1 9) 0)] [((.loc 0 0), [.int .i64 0, .int .i64 0, .int .i64 0, .int .i64 0, .int .u64 0, .int .i64 0]), ((.loc 1 9), [.int .i64 y1.1, .int .i64 y2.1, .int .i64 y3.1, .int .i64 v8, .int .u64 v9, .int .i64 y4.1]), ((.par 0), [.sl 3 .ro (v10.map (PV.int .i64)), .int .i64 v11])] ∧ j12 v8 v9 v10 v11 = some r)) ?_ ?_
  · refine .seq ?_
    refine .region ?_
    refine .val ?_
    refine .val ?_
    refine .val ?_
    refine .nil ?_
    refine .cond (fun hc13 => ?_) (fun hc13 => ?_)
    · replace h := (if_pos hc13).symm.trans h
      refine .region ?_
      refine .move ?_
      obtain ⟨y14, hy14, h⟩ := bindE h
      refine .cH (.par 0) (g94 hy14) ?_
      refine .val ?_
      refine .wrL (cs := [.int .i64 y1.1, .int .i64 y2.1, .int .i64 y3.1, .int .i64 y14.1, .int .u64 0, .int .i64 y4.1]) ?_
      refine .nil ?_
      exact ⟨_, ⟨_, _, _, _, rfl, h⟩, (imp_of (.cons rfl (.cons rfl (.nil))) (.cons rfl (.cons rfl (.cons rfl (.nil)))))⟩
    · replace h := (if_neg (nt hc13)).symm.trans h
      refine .region ?_
      refine .move ?_
      obtain ⟨y15, hy15, h⟩ := bindE h
      refine .cH (.par 0) (g94 hy15) ?_
      refine .val ?_
      refine .val ?_
      refine .wrL (cs := [.int .i64 y1.1, .int .i64 y2.1, .int .i64 y3.1, .int .i64 0, .int .u64 (IntKind.wrap .u64 (y15.1)), .int .i64 y4.1]) ?_
      refine .nil ?_
      exact ⟨_, ⟨_, _, _, _, rfl, h⟩, (imp_of (.cons rfl (.cons rfl (.nil))) (.cons rfl (.cons rfl (.cons rfl (.nil)))))⟩
  · rintro T ⟨v8, v9, v10, v11, rfl, h⟩
    subst hj12
    refine .seq ?_
    refine .region ?_
    refine .val (v := .agg [.int .i64 y1.1, .int .i64 y2.1, .int .i64 y3.1, .int .i64 v8, .int .u64 v9, .int .i64 y4.1]) ?_
    refine .wrL (cs := [.int .i64 y1.1, .int .i64 y2.1, .int .i64 y3.1, .int .i64 v8, .int .u64 v9, .int .i64 y4.1]) ?_
    refine .nil ?_
    cases h
    exact .ret (fin_gen none (.par .nil))

/- soundservice/soundserviceref37.kin -/
def f121 (_n : Nat) (a0 : Glitch) (a1 : Glitch) : Option Bool :=
  if (a0.Kind == a1.Kind) then (
  if (a0.Stream == a1.Stream) then (
  some (a0.Device == a1.Device))
  else (
  some false))
  else (
  some false)
set_option maxHeartbeats 4000000 in
set_option maxRecDepth 100000 in
theorem g121 {n : Nat} {a0 : Glitch} {a1 : Glitch} {r : Bool} (h : f121 n a0 a1 = some r) :
    Ab.Can Try.prog 121 [.agg [.int .i64 a0.Kind, .int .i64 a0.At, .int .i64 a0.Quanta, .int .i64 a0.Stream, .int .u64 a0.Device, .int .i64 a0.Frames], .agg [.int .i64 a1.Kind, .int .i64 a1.At, .int .i64 a1.Quanta, .int .i64 a1.Stream, .int .u64 a1.Device, .int .i64 a1.Frames]] H0 (.bool r) H0 := by
  refine can_of tabOK mix Try.call121 Try.func121 rfl (by kernel_rfl) (by show _ ≤ 24; simp) fun _ => ?_
  rw [f121] at h
  refine .seq ?_
  refine .region ?_
  refine .boxL (cs := [.int .i64 a0.Kind, .int .i64 a0.At, .int .i64 a0.Quanta, .int .i64 a0.Stream, .int .u64 a0.Device, .int .i64 a0.Frames]) ?_
  refine .boxL (cs := [.int .i64 a1.Kind, .int .i64 a1.At, .int .i64 a1.Quanta, .int .i64 a1.Stream, .int .u64 a1.Device, .int .i64 a1.Frames]) ?_
  refine .assign ?_
  refine .nil ?_
  refine .seq ?_
  refine .region ?_
  refine .val ?_
  refine .val ?_
  refine .val ?_
  refine .val ?_
  refine .val ?_
  refine .move ?_
  refine .caseG (fun hc3 => ?_) (fun hc3 => ?_)
  · replace h := (if_pos hc3).symm.trans h
    refine .val ?_
    refine .val ?_
    refine .val ?_
    refine .val ?_
    refine .val ?_
    refine .brT ?_
    refine .move ?_
    refine .caseG (fun hc4 => ?_) (fun hc4 => ?_)
    · replace h := (if_pos hc4).symm.trans h
      refine .val ?_
      refine .val ?_
      refine .val ?_
      refine .val ?_
      refine .val ?_
      refine .brT ?_
      refine .assign ?_
      refine .nil ?_
      cases h
      exact .ret (fin_gen0 none)
    · replace h := (if_neg (nt hc4)).symm.trans h
      refine .skip ?_
      refine .skip ?_
      refine .skip ?_
      refine .skip ?_
      refine .skip ?_
      refine .brF ?_
      refine .assign ?_
      refine .nil ?_
      cases h
      exact .ret (fin_gen0 none)
  · replace h := (if_neg (nt hc3)).symm.trans h
    refine .skip ?_
    refine .skip ?_
    refine .skip ?_
    refine .skip ?_
    refine .skip ?_
    refine .brF ?_
    refine .move ?_
    refine .skip ?_
    refine .skip ?_
    refine .skip ?_
    refine .skip ?_
    refine .skip ?_
    refine .brF ?_
    refine .assign ?_
    refine .nil ?_
    cases h
    exact .ret (fin_gen0 none)

/- soundservice/soundserviceref37.Join -/
def f103 (n : Nat) (a0 : Glitch) (a1 : Glitch) : Option (Glitch × Bool) :=
  joinK (fun (_ : Unit) =>
  some ((⟨0, 0, 0, 0, 0, 0⟩ : Glitch), false)) fun j20 =>
  joinK (fun (_ : Unit) =>
  if decide ((w64 (a0.Frames + a1.Frames)) > (1099511627776 : Int)) then (
  some ((⟨0, 0, 0, 0, 0, 0⟩ : Glitch), false))
  else (
  some ((⟨a0.Kind, a0.At, w64 (a0.Quanta + a1.Quanta), a0.Stream, a0.Device, w64 (a0.Frames + a1.Frames)⟩ : Glitch), true))) fun j21 =>
  (f101 n (⟨a0.Kind, a0.At, a0.Quanta, a0.Stream, a0.Device, a0.Frames⟩ : Glitch)).bind fun y22 =>
  if !y22 then (
  j20 ())
  else (
  (f101 n (⟨a1.Kind, a1.At, a1.Quanta, a1.Stream, a1.Device, a1.Frames⟩ : Glitch)).bind fun y24 =>
  if !y24 then (
  j20 ())
  else (
  (f121 n (⟨a0.Kind, a0.At, a0.Quanta, a0.Stream, a0.Device, a0.Frames⟩ : Glitch) (⟨a1.Kind, a1.At, a1.Quanta, a1.Stream, a1.Device, a1.Frames⟩ : Glitch)).bind fun y26 =>
  if !y26 then (
  j20 ())
  else (
  if (a1.At != (w64 (a0.At + a0.Quanta))) then (
  j20 ())
  else (
  if decide ((w64 (a0.Quanta + a1.Quanta)) > (4096 : Int)) then (
  j20 ())
  else (
  j21 ())))))
set_option maxHeartbeats 4000000 in
set_option maxRecDepth 100000 in
theorem g103 {n : Nat} {a0 : Glitch} {a1 : Glitch} {r : (Glitch × Bool)} (h : f103 n a0 a1 = some r) :
    Ab.Can Try.prog 103 [.agg [.int .i64 a0.Kind, .int .i64 a0.At, .int .i64 a0.Quanta, .int .i64 a0.Stream, .int .u64 a0.Device, .int .i64 a0.Frames], .agg [.int .i64 a1.Kind, .int .i64 a1.At, .int .i64 a1.Quanta, .int .i64 a1.Stream, .int .u64 a1.Device, .int .i64 a1.Frames]] H0 (.tup [.agg [.int .i64 r.1.Kind, .int .i64 r.1.At, .int .i64 r.1.Quanta, .int .i64 r.1.Stream, .int .u64 r.1.Device, .int .i64 r.1.Frames], .bool r.2]) H0 := by
  refine can_of tabOK mix Try.call103 Try.func103 rfl (by kernel_rfl) (by show _ ≤ 60; simp) fun _ => ?_
  rw [f103] at h
  refine .seq ?_
  refine .region ?_
  refine .boxL (cs := [.int .i64 a0.Kind, .int .i64 a0.At, .int .i64 a0.Quanta, .int .i64 a0.Stream, .int .u64 a0.Device, .int .i64 a0.Frames]) ?_
  refine .boxL (cs := [.int .i64 a1.Kind, .int .i64 a1.At, .int .i64 a1.Quanta, .int .i64 a1.Stream, .int .u64 a1.Device, .int .i64 a1.Frames]) ?_
  refine .allocL (cs := [.int .i64 0, .int .i64 0, .int .i64 0, .int .i64 0, .int .u64 0, .int .i64 0]) ?_
  refine .assign ?_
  refine .nil ?_
  refine .seq ?_
  obtain ⟨j20, hj20, h⟩ := joinE h
  obtain ⟨j21, hj21, h⟩ := joinE h
  refine .cutI (fun T => (T = St.of [(2, .ptr (.loc 0 0) 0), (3, .ptr (.loc 0 1) 0), (4, .ptr (.loc 0 2) 0), (45, .bool true)] [((.loc 0 0), [.int .i64 a0.Kind, .int .i64 a0.At, .int .i64 a0.Quanta, .int .i64 a0.Stream, .int .u64 a0.Device, .int .i64 a0.Frames]), ((.loc 0 1), [.int .i64 a1.Kind, .int .i64 a1.At, .int .i64 a1.Quanta, .int .i64 a1.Stream, .int .u64 a1.Device, .int .i64 a1.Frames]), ((.loc 0 2), [.int .i64 0, .int .i64 0, .int .i64 0, .int .i64 0, .int .u64 0, .int .i64 0])] ∧ j20 () = some r) ∨ (T = St.of [(2, .ptr (.loc 0 0) 0), (3, .ptr (.loc 0 1) 0), (4, .ptr (.loc 0 2) 0), (45, .bool (decide ((w64 (a0.Frames + a1.Frames)) > (1099511627776 : Int))))] [((.loc 0 0), [.int .i64 a0.Kind, .int .i64 a0.At, .int .i64 a0.Quanta, .int .i64 a0.Stream, .int .u64 a0.Device, .int .i64 a0.Frames]), ((.loc 0 1), [.int .i64 a1.Kind, .int .i64 a1.At, .int .i64 a1.Quanta, .int .i64 a1.Stream, .int .u64 a1.Device, .int .i64 a1.Frames]), ((.loc 0 2), [.int .i64 0, .int .i64 0, .int .i64 0, .int .i64 0, .int .u64 0, .int .i64 0])] ∧ j21 () = some r)) ?_ ?_
  · refine .region ?_
    refine .val (v := .agg [.int .i64 a0.Kind, .int .i64 a0.At, .int .i64 a0.Quanta, .int .i64 a0.Stream, .int .u64 a0.Device, .int .i64 a0.Frames]) ?_
    obtain ⟨y22, hy22, h⟩ := bindE h
    refine .cP (g101 hy22) ?_
    refine .val ?_
    refine .move ?_
    refine .caseG (fun hc23 => ?_) (fun hc23 => ?_)
    · replace h := (if_pos hc23).symm.trans h
      refine .skip ?_
      refine .skip ?_
      refine .skip ?_
      refine .brT ?_
      refine .move ?_
      refine .skip ?_
      refine .skip ?_
      refine .skip ?_
      refine .skip ?_
      refine .brT ?_
      refine .move ?_
      refine .skip ?_
      refine .skip ?_
      refine .skip ?_
      refine .skip ?_
      refine .skip ?_
      refine .skip ?_
      refine .skip ?_
      refine .skip ?_
      refine .brT ?_
      refine .move ?_
      refine .skip ?_
      refine .skip ?_
      refine .skip ?_
      refine .skip ?_
      refine .skip ?_
      refine .skip ?_
      refine .brT ?_
      refine .move ?_
      refine .skip ?_
      refine .skip ?_
      refine .skip ?_
      refine .skip ?_
      refine .skip ?_
      refine .skip ?_
      refine .brT ?_
      refine .nil ?_
      exact ⟨_, (.inl ⟨rfl, h⟩), (imp_of (.cons rfl (.cons rfl (.cons rfl (.cons rfl (.nil))))) (.cons rfl (.cons rfl (.cons rfl (.nil)))))⟩
    · replace h := (if_neg (nt hc23)).symm.trans h
      refine .val (v := .agg [.int .i64 a1.Kind, .int .i64 a1.At, .int .i64 a1.Quanta, .int .i64 a1.Stream, .int .u64 a1.Device, .int .i64 a1.Frames]) ?_
      obtain ⟨y24, hy24, h⟩ := bindE h
      refine .cP (g101 hy24) ?_
      refine .val ?_
      refine .brF ?_
      refine .move ?_
      refine .caseG (fun hc25 => ?_) (fun hc25 => ?_)
      · replace h := (if_pos hc25).symm.trans h
        refine .skip ?_
        refine .skip ?_
        refine .skip ?_
        refine .skip ?_
        refine .brT ?_
        refine .move ?_
        refine .skip ?_
        refine .skip ?_
        refine .skip ?_
        refine .skip ?_
        refine .skip ?_
        refine .skip ?_
        refine .skip ?_
        refine .skip ?_
        refine .brT ?_
        refine .move ?_
        refine .skip ?_
        refine .skip ?_
        refine .skip ?_
        refine .skip ?_
        refine .skip ?_
        refine .skip ?_
        refine .brT ?_
        refine .move ?_
        refine .skip ?_
        refine .skip ?_
        refine .skip ?_
        refine .skip ?_
        refine .skip ?_
        refine .skip ?_
        refine .brT ?_
        refine .nil ?_
        exact ⟨_, (.inl ⟨rfl, h⟩), (imp_of (.cons rfl (.cons rfl (.cons rfl (.cons rfl (.nil))))) (.cons rfl (.cons rfl (.cons rfl (.nil)))))⟩
      · replace h := (if_neg (nt hc25)).symm.trans h
        refine .val (v := .agg [.int .i64 a0.Kind, .int .i64 a0.At, .int .i64 a0.Quanta, .int .i64 a0.Stream, .int .u64 a0.Device, .int .i64 a0.Frames]) ?_
        refine .val (v := .agg [.int .i64 a1.Kind, .int .i64 a1.At, .int .i64 a1.Quanta, .int .i64 a1.Stream, .int .u64 a1.Device, .int .i64 a1.Frames]) ?_
        obtain ⟨y26, hy26, h⟩ := bindE h
        refine .cP (g121 hy26) ?_
        refine .val ?_
        refine .brF ?_
        refine .move ?_
        refine .caseG (fun hc27 => ?_) (fun hc27 => ?_)
        · replace h := (if_pos hc27).symm.trans h
          refine .skip ?_
          refine .skip ?_
          refine .skip ?_
          refine .skip ?_
          refine .skip ?_
          refine .skip ?_
          refine .skip ?_
          refine .skip ?_
          refine .brT ?_
          refine .move ?_
          refine .skip ?_
          refine .skip ?_
          refine .skip ?_
          refine .skip ?_
          refine .skip ?_
          refine .skip ?_
          refine .brT ?_
          refine .move ?_
          refine .skip ?_
          refine .skip ?_
          refine .skip ?_
          refine .skip ?_
          refine .skip ?_
          refine .skip ?_
          refine .brT ?_
          refine .nil ?_
          exact ⟨_, (.inl ⟨rfl, h⟩), (imp_of (.cons rfl (.cons rfl (.cons rfl (.cons rfl (.nil))))) (.cons rfl (.cons rfl (.cons rfl (.nil)))))⟩
        · replace h := (if_neg (nt hc27)).symm.trans h
          refine .val ?_
          refine .val ?_
          refine .val ?_
          refine .val ?_
          refine .val ?_
          refine .val ?_
          refine .val ?_
          refine .val ?_
          refine .brF ?_
          refine .move ?_
          refine .caseG (fun hc28 => ?_) (fun hc28 => ?_)
          · replace h := (if_pos hc28).symm.trans h
            refine .skip ?_
            refine .skip ?_
            refine .skip ?_
            refine .skip ?_
            refine .skip ?_
            refine .skip ?_
            refine .brT ?_
            refine .move ?_
            refine .skip ?_
            refine .skip ?_
            refine .skip ?_
            refine .skip ?_
            refine .skip ?_
            refine .skip ?_
            refine .brT ?_
            refine .nil ?_
            exact ⟨_, (.inl ⟨rfl, h⟩), (imp_of (.cons rfl (.cons rfl (.cons rfl (.cons rfl (.nil))))) (.cons rfl (.cons rfl (.cons rfl (.nil)))))⟩
          · replace h := (if_neg (nt hc28)).symm.trans h
            refine .val ?_
            refine .val ?_
            refine .val ?_
            refine .val ?_
            refine .val ?_
            refine .val ?_
            refine .brF ?_
            refine .move ?_
            refine .caseG (fun hc29 => ?_) (fun hc29 => ?_)
            · replace h := (if_pos hc29).symm.trans h
              refine .skip ?_
              refine .skip ?_
              refine .skip ?_
              refine .skip ?_
              refine .skip ?_
              refine .skip ?_
              refine .brT ?_
              refine .nil ?_
              exact ⟨_, (.inl ⟨rfl, h⟩), (imp_of (.cons rfl (.cons rfl (.cons rfl (.cons rfl (.nil))))) (.cons rfl (.cons rfl (.cons rfl (.nil)))))⟩
            · replace h := (if_neg (nt hc29)).symm.trans h
              refine .val ?_
              refine .val ?_
              refine .val ?_
              refine .val ?_
              refine .val ?_
              refine .val ?_
              refine .brF ?_
              refine .nil ?_
              exact ⟨_, (.inr (⟨rfl, h⟩)), (imp_of (.cons rfl (.cons rfl (.cons rfl (.cons rfl (.nil))))) (.cons rfl (.cons rfl (.cons rfl (.nil)))))⟩
  · rintro T (⟨rfl, h⟩ | ⟨rfl, h⟩)
    · subst hj20
      refine .condT ?_
      refine .seq ?_
      refine .region ?_
      refine .buildL (cs := [.int .i64 0, .int .i64 0, .int .i64 0, .int .i64 0, .int .u64 0, .int .i64 0]) ?_
      refine .wrL (cs := [.int .i64 0, .int .i64 0, .int .i64 0, .int .i64 0, .int .u64 0, .int .i64 0]) ?_
      refine .assign ?_
      refine .nil ?_
      cases h
      exact .ret (fin_gen0 none)
    · subst hj21
      refine .cond (fun hc30 => ?_) (fun hc30 => ?_)
      · replace h := (if_pos hc30).symm.trans h
        refine .seq ?_
        refine .region ?_
        refine .buildL (cs := [.int .i64 0, .int .i64 0, .int .i64 0, .int .i64 0, .int .u64 0, .int .i64 0]) ?_
        refine .wrL (cs := [.int .i64 0, .int .i64 0, .int .i64 0, .int .i64 0, .int .u64 0, .int .i64 0]) ?_
        refine .assign ?_
        refine .nil ?_
        cases h
        exact .ret (fin_gen0 none)
      · replace h := (if_neg (nt hc30)).symm.trans h
        refine .skip ?_
        refine .seq ?_
        refine .draw [11, 13] [[], [], [], [], [], [], [], [], [], [], [], [], [11], [11]] [[11, 13], [11, 13], [11, 13], [11, 13], [11, 13], [11, 13], [11, 13], [13], [13], [13], [11, 13], [13], [13], []] [[], [11], [11, 13]]
          [(0, 0), (1, 0), (2, 0), (3, 0), (4, 0), (5, 0), (6, 0), (7, 0), (7, 1), (8, 0), (8, 1), (9, 0), (9, 1), (10, 0), (12, 1)] [(0, 11, 1), (1, 13, 2)] 2
          [⟨[(47, .ptr (.loc 0 0) 2), (48, .int .i64 a0.Quanta), (49, .ptr (.loc 0 1) 2), (50, .int .i64 a1.Quanta), (51, .int .i64 (w64 (a0.Quanta + a1.Quanta))), (52, .ptr (.loc 0 0) 5), (53, .int .i64 a0.Frames), (54, .ptr (.loc 0 1) 5), (55, .int .i64 a1.Frames), (56, .int .i64 (w64 (a0.Frames + a1.Frames))), (57, .ptr (.loc 0 0) 2), (2, .ptr (.loc 0 0) 0), (3, .ptr (.loc 0 1) 0), (4, .ptr (.loc 0 2) 0)], [], [((.loc 0 0), [.int .i64 a0.Kind, .int .i64 a0.At, .int .i64 a0.Quanta, .int .i64 a0.Stream, .int .u64 a0.Device, .int .i64 a0.Frames]), ((.loc 0 1), [.int .i64 a1.Kind, .int .i64 a1.At, .int .i64 a1.Quanta, .int .i64 a1.Stream, .int .u64 a1.Device, .int .i64 a1.Frames]), ((.loc 0 2), [.int .i64 0, .int .i64 0, .int .i64 0, .int .i64 0, .int .u64 0, .int .i64 0])]⟩,
          ⟨[(47, .ptr (.loc 0 0) 2), (48, .int .i64 a0.Quanta), (49, .ptr (.loc 0 1) 2), (50, .int .i64 a1.Quanta), (51, .int .i64 (w64 (a0.Quanta + a1.Quanta))), (52, .ptr (.loc 0 0) 5), (53, .int .i64 a0.Frames), (54, .ptr (.loc 0 1) 5), (55, .int .i64 a1.Frames), (56, .int .i64 (w64 (a0.Frames + a1.Frames))), (57, .ptr (.loc 0 0) 2), (58, .ptr (.loc 0 0) 5), (2, .ptr (.loc 0 0) 0), (3, .ptr (.loc 0 1) 0), (4, .ptr (.loc 0 2) 0)], [], [((.loc 0 0), [.int .i64 a0.Kind, .int .i64 a0.At, .int .i64 (w64 (a0.Quanta + a1.Quanta)), .int .i64 a0.Stream, .int .u64 a0.Device, .int .i64 a0.Frames]), ((.loc 0 1), [.int .i64 a1.Kind, .int .i64 a1.At, .int .i64 a1.Quanta, .int .i64 a1.Stream, .int .u64 a1.Device, .int .i64 a1.Frames]), ((.loc 0 2), [.int .i64 0, .int .i64 0, .int .i64 0, .int .i64 0, .int .u64 0, .int .i64 0])]⟩,
          ⟨[(47, .ptr (.loc 0 0) 2), (48, .int .i64 a0.Quanta), (49, .ptr (.loc 0 1) 2), (50, .int .i64 a1.Quanta), (51, .int .i64 (w64 (a0.Quanta + a1.Quanta))), (52, .ptr (.loc 0 0) 5), (53, .int .i64 a0.Frames), (54, .ptr (.loc 0 1) 5), (55, .int .i64 a1.Frames), (56, .int .i64 (w64 (a0.Frames + a1.Frames))), (57, .ptr (.loc 0 0) 2), (58, .ptr (.loc 0 0) 5), (2, .ptr (.loc 0 0) 0), (3, .ptr (.loc 0 1) 0), (4, .ptr (.loc 0 2) 0)], [], [((.loc 0 0), [.int .i64 a0.Kind, .int .i64 a0.At, .int .i64 (w64 (a0.Quanta + a1.Quanta)), .int .i64 a0.Stream, .int .u64 a0.Device, .int .i64 (w64 (a0.Frames + a1.Frames))]), ((.loc 0 1), [.int .i64 a1.Kind, .int .i64 a1.At, .int .i64 a1.Quanta, .int .i64 a1.Stream, .int .u64 a1.Device, .int .i64 a1.Frames]), ((.loc 0 2), [.int .i64 0, .int .i64 0, .int .i64 0, .int .i64 0, .int .u64 0, .int .i64 0])]⟩]
          [(2, .ptr (.loc 0 0) 0), (3, .ptr (.loc 0 1) 0), (4, .ptr (.loc 0 2) 0)]
          (.cons [2] [] (fun _ _ h => .val (h _)) rfl rfl <|
          .cons [47] [] (fun _ _ h => .val (h _)) rfl rfl <|
          .cons [3] [] (fun _ _ h => .val (h _)) rfl rfl <|
          .cons [49] [] (fun _ _ h => .val (h _)) rfl rfl <|
          .cons [48, 50] [] (fun _ _ h => .val (h _)) rfl rfl <|
          .cons [2] [] (fun _ _ h => .val (h _)) rfl rfl <|
          .cons [52] [] (fun _ _ h => .val (h _)) rfl rfl <|
          .cons [3] [] (fun _ _ h => .val (h _)) rfl rfl <|
          .cons [3] [] (fun _ _ h => .val (h _)) rfl rfl <|
          .cons [54] [] (fun _ _ h => .val (h _)) rfl rfl <|
          .cons [54] [] (fun _ _ h => .val (h _)) rfl rfl <|
          .cons [53, 55] [] (fun _ _ h => .val (h _)) rfl rfl <|
          .cons [53, 55] [] (fun _ _ h => .val (h _)) rfl rfl <|
          .cons [2] [] (fun _ _ h => .val (h _)) rfl rfl <|
          .cons [2] [] (fun _ _ h => .val (h _)) rfl rfl <|
          .nil)
          (.cons (fun x => x) [57, 51] [] (fun _ _ h => .wrL (cs := [.int .i64 a0.Kind, .int .i64 a0.At, .int .i64 (w64 (a0.Quanta + a1.Quanta)), .int .i64 a0.Stream, .int .u64 a0.Device, .int .i64 a0.Frames]) (h _ _ (.cons rfl (.cons rfl (.cons rfl (.nil)))))) rfl (.old rfl (.old rfl (.old rfl (.old rfl (.old rfl (.old rfl (.old rfl (.old rfl (.old rfl (.old rfl (.old rfl (.new rfl (.old rfl (.old rfl (.old rfl (.nil)))))))))))))))) rfl rfl <|
          .cons (fun x => x) [58, 56] [] (fun _ _ h => .wrL (cs := [.int .i64 a0.Kind, .int .i64 a0.At, .int .i64 (w64 (a0.Quanta + a1.Quanta)), .int .i64 a0.Stream, .int .u64 a0.Device, .int .i64 (w64 (a0.Frames + a1.Frames))]) (h _ _ (.cons rfl (.cons rfl (.cons rfl (.nil)))))) rfl (.old rfl (.old rfl (.old rfl (.old rfl (.old rfl (.old rfl (.old rfl (.old rfl (.old rfl (.old rfl (.old rfl (.old rfl (.old rfl (.old rfl (.old rfl (.nil)))))))))))))))) rfl rfl <|
          .nil)
          (by kernel_rfl) rfl (.cons rfl (.cons rfl (.cons rfl (.nil)))) (.nil) (.cons rfl (.cons rfl (.cons rfl (.nil)))) ?_
        refine .imp (T := St.of [(2, .ptr (.loc 0 0) 0), (4, .ptr (.loc 0 2) 0)] [((.loc 0 0), [.int .i64 a0.Kind, .int .i64 a0.At, .int .i64 (w64 (a0.Quanta + a1.Quanta)), .int .i64 a0.Stream, .int .u64 a0.Device, .int .i64 (w64 (a0.Frames + a1.Frames))]), ((.loc 0 2), [.int .i64 0, .int .i64 0, .int .i64 0, .int .i64 0, .int .u64 0, .int .i64 0])]) (imp_of (.cons rfl (.cons rfl (.nil))) (.cons rfl (.cons rfl (.nil)))) ?_
        refine .seq ?_
        refine .region ?_
        refine .val (v := .agg [.int .i64 a0.Kind, .int .i64 a0.At, .int .i64 (w64 (a0.Quanta + a1.Quanta)), .int .i64 a0.Stream, .int .u64 a0.Device, .int .i64 (w64 (a0.Frames + a1.Frames))]) ?_
        refine .wrL (cs := [.int .i64 a0.Kind, .int .i64 a0.At, .int .i64 (w64 (a0.Quanta + a1.Quanta)), .int .i64 a0.Stream, .int .u64 a0.Device, .int .i64 (w64 (a0.Frames + a1.Frames))]) ?_
        refine .assign ?_
        refine .nil ?_
        cases h
        exact .ret (fin_gen0 none)

/- soundservice/soundserviceref38.Note -/
def f64 (n : Nat) (a0 : Recorder) (a1 : Glitch) : Option (Recorder × Int) :=
  (f61 n (⟨a0.Limit, a0.Last, a0.Counts, a0.Frames, a0.Buckets⟩ : Recorder)).bind fun y3 =>
  if !y3 then (
  some ((⟨0, ([] : List Glitch), aZ, 0, aZ⟩ : Recorder), 1))
  else (
  (f101 n (⟨a1.Kind, a1.At, a1.Quanta, a1.Stream, a1.Device, a1.Frames⟩ : Glitch)).bind fun y7 =>
  if !y7 then (
  some ((⟨0, ([] : List Glitch), aZ, 0, aZ⟩ : Recorder), 2))
  else (
  (lApp ([] : List Glitch) a0.Last).bind fun x10 =>
  joinK (fun (v16 : (List Glitch)) =>
  (lPart v16 (iMax (0 : Int) (w64 ((v16.length : Int) - a0.Limit))) (v16.length : Int)).bind fun x25 =>
  (aIdx 5 a1.Kind).bind fun x26 =>
  (aIdx 5 a1.Kind).bind fun x27 =>
  some ((⟨a0.Limit, x25, (aUp a0.Counts x27 (iMin (w64 ((a0.Counts x26) + (1 : Int))) (1099511627776 : Int))), iMin (w64 (a0.Frames + a1.Frames)) (1099511627776 : Int), a0.Buckets⟩ : Recorder), 0)) fun j18 =>
  joinK (fun (_ : Unit) =>
  (lApp x10 ([(⟨a1.Kind, a1.At, a1.Quanta, a1.Stream, a1.Device, a1.Frames⟩ : Glitch)] : List Glitch)).bind fun x29 =>
  (lPart x29 (iMax (0 : Int) (w64 ((x29.length : Int) - a0.Limit))) (x29.length : Int)).bind fun x30 =>
  (aIdx 5 a1.Kind).bind fun x31 =>
  (aIdx 5 a1.Kind).bind fun x32 =>
  some ((⟨a0.Limit, x30, (aUp a0.Counts x32 (iMin (w64 ((a0.Counts x31) + (1 : Int))) (1099511627776 : Int))), iMin (w64 (a0.Frames + a1.Frames)) (1099511627776 : Int), a0.Buckets⟩ : Recorder), 0)) fun j19 =>
  if decide ((x10.length : Int) > (0 : Int)) then (
  (lAt x10 (w64 ((x10.length : Int) - (1 : Int)))).bind fun x21 =>
  (f103 n x21 (⟨a1.Kind, a1.At, a1.Quanta, a1.Stream, a1.Device, a1.Frames⟩ : Glitch)).bind fun y22 =>
  if y22.2 then (
  (lAt x10 (w64 ((x10.length : Int) - (1 : Int)))).bind fun x24 =>
  j18 (x10.set (w64 ((x10.length : Int) - (1 : Int)) : Int).toNat (⟨y22.1.Kind, y22.1.At, y22.1.Quanta, y22.1.Stream, y22.1.Device, y22.1.Frames⟩ : Glitch)))
  else (
  j19 ()))
  else (
  j19 ())))
set_option maxHeartbeats 4000000 in
set_option maxRecDepth 100000 in
theorem g64 {n : Nat} {a0 : Recorder} {a1 : Glitch} {r : (Recorder × Int)} (h : f64 n a0 a1 = some r) :
    Ab.Can Try.prog 64 [.agg [.int .i64 a0.Limit, .sl 97 .ro (a0.Last.map pv97), .int .i64 (a0.Counts 0), .int .i64 (a0.Counts 1), .int .i64 (a0.Counts 2), .int .i64 (a0.Counts 3), .int .i64 (a0.Counts 4), .int .i64 a0.Frames, .int .i64 (a0.Buckets 0), .int .i64 (a0.Buckets 1), .int .i64 (a0.Buckets 2), .int .i64 (a0.Buckets 3), .int .i64 (a0.Buckets 4), .int .i64 (a0.Buckets 5), .int .i64 (a0.Buckets 6), .int .i64 (a0.Buckets 7), .int .i64 (a0.Buckets 8), .int .i64 (a0.Buckets 9), .int .i64 (a0.Buckets 10), .int .i64 (a0.Buckets 11), .int .i64 (a0.Buckets 12), .int .i64 (a0.Buckets 13), .int .i64 (a0.Buckets 14), .int .i64 (a0.Buckets 15), .int .i64 (a0.Buckets 16), .int .i64 (a0.Buckets 17), .int .i64 (a0.Buckets 18), .int .i64 (a0.Buckets 19), .int .i64 (a0.Buckets 20), .int .i64 (a0.Buckets 21), .int .i64 (a0.Buckets 22), .int .i64 (a0.Buckets 23)], .agg [.int .i64 a1.Kind, .int .i64 a1.At, .int .i64 a1.Quanta, .int .i64 a1.Stream, .int .u64 a1.Device, .int .i64 a1.Frames]] H0 (.tup [.agg [.int .i64 r.1.Limit, .sl 97 .ro (r.1.Last.map pv97), .int .i64 (r.1.Counts 0), .int .i64 (r.1.Counts 1), .int .i64 (r.1.Counts 2), .int .i64 (r.1.Counts 3), .int .i64 (r.1.Counts 4), .int .i64 r.1.Frames, .int .i64 (r.1.Buckets 0), .int .i64 (r.1.Buckets 1), .int .i64 (r.1.Buckets 2), .int .i64 (r.1.Buckets 3), .int .i64 (r.1.Buckets 4), .int .i64 (r.1.Buckets 5), .int .i64 (r.1.Buckets 6), .int .i64 (r.1.Buckets 7), .int .i64 (r.1.Buckets 8), .int .i64 (r.1.Buckets 9), .int .i64 (r.1.Buckets 10), .int .i64 (r.1.Buckets 11), .int .i64 (r.1.Buckets 12), .int .i64 (r.1.Buckets 13), .int .i64 (r.1.Buckets 14), .int .i64 (r.1.Buckets 15), .int .i64 (r.1.Buckets 16), .int .i64 (r.1.Buckets 17), .int .i64 (r.1.Buckets 18), .int .i64 (r.1.Buckets 19), .int .i64 (r.1.Buckets 20), .int .i64 (r.1.Buckets 21), .int .i64 (r.1.Buckets 22), .int .i64 (r.1.Buckets 23)], .int .i64 r.2]) H0 := by
  refine can_of tabOK mix Try.call64 Try.func64 rfl (by kernel_rfl) (by show _ ≤ 77; simp) fun _ => ?_
  rw [f64] at h
  refine .seq ?_
  refine .region ?_
  refine .boxL (cs := [.int .i64 a0.Limit, .sl 97 .ro (a0.Last.map pv97), .int .i64 (a0.Counts 0), .int .i64 (a0.Counts 1), .int .i64 (a0.Counts 2), .int .i64 (a0.Counts 3), .int .i64 (a0.Counts 4), .int .i64 a0.Frames, .int .i64 (a0.Buckets 0), .int .i64 (a0.Buckets 1), .int .i64 (a0.Buckets 2), .int .i64 (a0.Buckets 3), .int .i64 (a0.Buckets 4), .int .i64 (a0.Buckets 5), .int .i64 (a0.Buckets 6), .int .i64 (a0.Buckets 7), .int .i64 (a0.Buckets 8), .int .i64 (a0.Buckets 9), .int .i64 (a0.Buckets 10), .int .i64 (a0.Buckets 11), .int .i64 (a0.Buckets 12), .int .i64 (a0.Buckets 13), .int .i64 (a0.Buckets 14), .int .i64 (a0.Buckets 15), .int .i64 (a0.Buckets 16), .int .i64 (a0.Buckets 17), .int .i64 (a0.Buckets 18), .int .i64 (a0.Buckets 19), .int .i64 (a0.Buckets 20), .int .i64 (a0.Buckets 21), .int .i64 (a0.Buckets 22), .int .i64 (a0.Buckets 23)]) ?_
  refine .boxL (cs := [.int .i64 a1.Kind, .int .i64 a1.At, .int .i64 a1.Quanta, .int .i64 a1.Stream, .int .u64 a1.Device, .int .i64 a1.Frames]) ?_
  refine .allocL (cs := [.int .i64 0, .sl 97 .full [], .int .i64 (aZ 0), .int .i64 (aZ 1), .int .i64 (aZ 2), .int .i64 (aZ 3), .int .i64 (aZ 4), .int .i64 0, .int .i64 (aZ 0), .int .i64 (aZ 1), .int .i64 (aZ 2), .int .i64 (aZ 3), .int .i64 (aZ 4), .int .i64 (aZ 5), .int .i64 (aZ 6), .int .i64 (aZ 7), .int .i64 (aZ 8), .int .i64 (aZ 9), .int .i64 (aZ 10), .int .i64 (aZ 11), .int .i64 (aZ 12), .int .i64 (aZ 13), .int .i64 (aZ 14), .int .i64 (aZ 15), .int .i64 (aZ 16), .int .i64 (aZ 17), .int .i64 (aZ 18), .int .i64 (aZ 19), .int .i64 (aZ 20), .int .i64 (aZ 21), .int .i64 (aZ 22), .int .i64 (aZ 23)]) ?_
  refine .assign ?_
  refine .nil ?_
  refine .seq ?_
  refine .seq ?_
  refine .region ?_
  refine .val (v := .agg [.int .i64 a0.Limit, .sl 97 .ro (a0.Last.map pv97), .int .i64 (a0.Counts 0), .int .i64 (a0.Counts 1), .int .i64 (a0.Counts 2), .int .i64 (a0.Counts 3), .int .i64 (a0.Counts 4), .int .i64 a0.Frames, .int .i64 (a0.Buckets 0), .int .i64 (a0.Buckets 1), .int .i64 (a0.Buckets 2), .int .i64 (a0.Buckets 3), .int .i64 (a0.Buckets 4), .int .i64 (a0.Buckets 5), .int .i64 (a0.Buckets 6), .int .i64 (a0.Buckets 7), .int .i64 (a0.Buckets 8), .int .i64 (a0.Buckets 9), .int .i64 (a0.Buckets 10), .int .i64 (a0.Buckets 11), .int .i64 (a0.Buckets 12), .int .i64 (a0.Buckets 13), .int .i64 (a0.Buckets 14), .int .i64 (a0.Buckets 15), .int .i64 (a0.Buckets 16), .int .i64 (a0.Buckets 17), .int .i64 (a0.Buckets 18), .int .i64 (a0.Buckets 19), .int .i64 (a0.Buckets 20), .int .i64 (a0.Buckets 21), .int .i64 (a0.Buckets 22), .int .i64 (a0.Buckets 23)]) ?_
  obtain ⟨y3, hy3, h⟩ := bindE h
  refine .cP (g61 hy3) ?_
  refine .val ?_
  refine .nil ?_
  refine .cond (fun hc4 => ?_) (fun hc4 => ?_)
  · replace h := (if_pos hc4).symm.trans h
    refine .seq ?_
    refine .region ?_
    refine .buildL (cs := [.int .i64 0, .sl 97 .full [], .int .i64 (aZ 0), .int .i64 (aZ 1), .int .i64 (aZ 2), .int .i64 (aZ 3), .int .i64 (aZ 4), .int .i64 0, .int .i64 (aZ 0), .int .i64 (aZ 1), .int .i64 (aZ 2), .int .i64 (aZ 3), .int .i64 (aZ 4), .int .i64 (aZ 5), .int .i64 (aZ 6), .int .i64 (aZ 7), .int .i64 (aZ 8), .int .i64 (aZ 9), .int .i64 (aZ 10), .int .i64 (aZ 11), .int .i64 (aZ 12), .int .i64 (aZ 13), .int .i64 (aZ 14), .int .i64 (aZ 15), .int .i64 (aZ 16), .int .i64 (aZ 17), .int .i64 (aZ 18), .int .i64 (aZ 19), .int .i64 (aZ 20), .int .i64 (aZ 21), .int .i64 (aZ 22), .int .i64 (aZ 23)]) ?_
    refine .wrL (cs := [.int .i64 0, .sl 97 .full [], .int .i64 (aZ 0), .int .i64 (aZ 1), .int .i64 (aZ 2), .int .i64 (aZ 3), .int .i64 (aZ 4), .int .i64 0, .int .i64 (aZ 0), .int .i64 (aZ 1), .int .i64 (aZ 2), .int .i64 (aZ 3), .int .i64 (aZ 4), .int .i64 (aZ 5), .int .i64 (aZ 6), .int .i64 (aZ 7), .int .i64 (aZ 8), .int .i64 (aZ 9), .int .i64 (aZ 10), .int .i64 (aZ 11), .int .i64 (aZ 12), .int .i64 (aZ 13), .int .i64 (aZ 14), .int .i64 (aZ 15), .int .i64 (aZ 16), .int .i64 (aZ 17), .int .i64 (aZ 18), .int .i64 (aZ 19), .int .i64 (aZ 20), .int .i64 (aZ 21), .int .i64 (aZ 22), .int .i64 (aZ 23)]) ?_
    refine .assign ?_
    refine .nil ?_
    cases h
    refine .imp (Imp.cell (.loc 0 2) (ds := [.int .i64 0, .sl 97 .ro (([] : List Glitch).map pv97), .int .i64 (aZ 0), .int .i64 (aZ 1), .int .i64 (aZ 2), .int .i64 (aZ 3), .int .i64 (aZ 4), .int .i64 0, .int .i64 (aZ 0), .int .i64 (aZ 1), .int .i64 (aZ 2), .int .i64 (aZ 3), .int .i64 (aZ 4), .int .i64 (aZ 5), .int .i64 (aZ 6), .int .i64 (aZ 7), .int .i64 (aZ 8), .int .i64 (aZ 9), .int .i64 (aZ 10), .int .i64 (aZ 11), .int .i64 (aZ 12), .int .i64 (aZ 13), .int .i64 (aZ 14), .int .i64 (aZ 15), .int .i64 (aZ 16), .int .i64 (aZ 17), .int .i64 (aZ 18), .int .i64 (aZ 19), .int .i64 (aZ 20), .int .i64 (aZ 21), .int .i64 (aZ 22), .int .i64 (aZ 23)]) (.cons (.refl _) rfl (.cons (.ro _ _) rfl (.cons (.refl _) rfl (.cons (.refl _) rfl (.cons (.refl _) rfl (.cons (.refl _) rfl (.cons (.refl _) rfl (.cons (.refl _) rfl (.cons (.refl _) rfl (.cons (.refl _) rfl (.cons (.refl _) rfl (.cons (.refl _) rfl (.cons (.refl _) rfl (.cons (.refl _) rfl (.cons (.refl _) rfl (.cons (.refl _) rfl (.cons (.refl _) rfl (.cons (.refl _) rfl (.cons (.refl _) rfl (.cons (.refl _) rfl (.cons (.refl _) rfl (.cons (.refl _) rfl (.cons (.refl _) rfl (.cons (.refl _) rfl (.cons (.refl _) rfl (.cons (.refl _) rfl (.cons (.refl _) rfl (.cons (.refl _) rfl (.cons (.refl _) rfl (.cons (.refl _) rfl (.cons (.refl _) rfl (.cons (.refl _) rfl (.nil))))))))))))))))))))))))))))))))) rfl) ?_
    exact .ret (fin_gen0 none)
  · replace h := (if_neg (nt hc4)).symm.trans h
    refine .skip ?_
    refine .seq ?_
    refine .seq ?_
    refine .region ?_
    refine .val (v := .agg [.int .i64 a1.Kind, .int .i64 a1.At, .int .i64 a1.Quanta, .int .i64 a1.Stream, .int .u64 a1.Device, .int .i64 a1.Frames]) ?_
    obtain ⟨y7, hy7, h⟩ := bindE h
    refine .cP (g101 hy7) ?_
    refine .val ?_
    refine .nil ?_
    refine .cond (fun hc8 => ?_) (fun hc8 => ?_)
    · replace h := (if_pos hc8).symm.trans h
      refine .seq ?_
      refine .region ?_
      refine .buildL (cs := [.int .i64 0, .sl 97 .full [], .int .i64 (aZ 0), .int .i64 (aZ 1), .int .i64 (aZ 2), .int .i64 (aZ 3), .int .i64 (aZ 4), .int .i64 0, .int .i64 (aZ 0), .int .i64 (aZ 1), .int .i64 (aZ 2), .int .i64 (aZ 3), .int .i64 (aZ 4), .int .i64 (aZ 5), .int .i64 (aZ 6), .int .i64 (aZ 7), .int .i64 (aZ 8), .int .i64 (aZ 9), .int .i64 (aZ 10), .int .i64 (aZ 11), .int .i64 (aZ 12), .int .i64 (aZ 13), .int .i64 (aZ 14), .int .i64 (aZ 15), .int .i64 (aZ 16), .int .i64 (aZ 17), .int .i64 (aZ 18), .int .i64 (aZ 19), .int .i64 (aZ 20), .int .i64 (aZ 21), .int .i64 (aZ 22), .int .i64 (aZ 23)]) ?_
      refine .wrL (cs := [.int .i64 0, .sl 97 .full [], .int .i64 (aZ 0), .int .i64 (aZ 1), .int .i64 (aZ 2), .int .i64 (aZ 3), .int .i64 (aZ 4), .int .i64 0, .int .i64 (aZ 0), .int .i64 (aZ 1), .int .i64 (aZ 2), .int .i64 (aZ 3), .int .i64 (aZ 4), .int .i64 (aZ 5), .int .i64 (aZ 6), .int .i64 (aZ 7), .int .i64 (aZ 8), .int .i64 (aZ 9), .int .i64 (aZ 10), .int .i64 (aZ 11), .int .i64 (aZ 12), .int .i64 (aZ 13), .int .i64 (aZ 14), .int .i64 (aZ 15), .int .i64 (aZ 16), .int .i64 (aZ 17), .int .i64 (aZ 18), .int .i64 (aZ 19), .int .i64 (aZ 20), .int .i64 (aZ 21), .int .i64 (aZ 22), .int .i64 (aZ 23)]) ?_
      refine .assign ?_
      refine .nil ?_
      cases h
      refine .imp (Imp.cell (.loc 0 2) (ds := [.int .i64 0, .sl 97 .ro (([] : List Glitch).map pv97), .int .i64 (aZ 0), .int .i64 (aZ 1), .int .i64 (aZ 2), .int .i64 (aZ 3), .int .i64 (aZ 4), .int .i64 0, .int .i64 (aZ 0), .int .i64 (aZ 1), .int .i64 (aZ 2), .int .i64 (aZ 3), .int .i64 (aZ 4), .int .i64 (aZ 5), .int .i64 (aZ 6), .int .i64 (aZ 7), .int .i64 (aZ 8), .int .i64 (aZ 9), .int .i64 (aZ 10), .int .i64 (aZ 11), .int .i64 (aZ 12), .int .i64 (aZ 13), .int .i64 (aZ 14), .int .i64 (aZ 15), .int .i64 (aZ 16), .int .i64 (aZ 17), .int .i64 (aZ 18), .int .i64 (aZ 19), .int .i64 (aZ 20), .int .i64 (aZ 21), .int .i64 (aZ 22), .int .i64 (aZ 23)]) (.cons (.refl _) rfl (.cons (.ro _ _) rfl (.cons (.refl _) rfl (.cons (.refl _) rfl (.cons (.refl _) rfl (.cons (.refl _) rfl (.cons (.refl _) rfl (.cons (.refl _) rfl (.cons (.refl _) rfl (.cons (.refl _) rfl (.cons (.refl _) rfl (.cons (.refl _) rfl (.cons (.refl _) rfl (.cons (.refl _) rfl (.cons (.refl _) rfl (.cons (.refl _) rfl (.cons (.refl _) rfl (.cons (.refl _) rfl (.cons (.refl _) rfl (.cons (.refl _) rfl (.cons (.refl _) rfl (.cons (.refl _) rfl (.cons (.refl _) rfl (.cons (.refl _) rfl (.cons (.refl _) rfl (.cons (.refl _) rfl (.cons (.refl _) rfl (.cons (.refl _) rfl (.cons (.refl _) rfl (.cons (.refl _) rfl (.cons (.refl _) rfl (.cons (.refl _) rfl (.nil))))))))))))))))))))))))))))))))) rfl) ?_
      exact .ret (fin_gen0 none)
    · replace h := (if_neg (nt hc8)).symm.trans h
      refine .skip ?_
      refine .seq ?_
      refine .region ?_
      refine .litE (.row 8009 0) ?_
      refine .val ?_
      refine .val ?_
      obtain ⟨x10, hx10, h⟩ := bindE h
      refine .appL (f := pv97) hx10 ?_
      refine .assign ?_
      refine .nil ?_
      refine .imp (T := St.of [(2, .ptr (.loc 0 0) 0), (3, .ptr (.loc 0 1) 0), (4, .ptr (.loc 0 2) 0), (6, .sl 97 (.own (.row 5 3)) (x10.map pv97))] [((.loc 0 0), [.int .i64 a0.Limit, .sl 97 .ro (a0.Last.map pv97), .int .i64 (a0.Counts 0), .int .i64 (a0.Counts 1), .int .i64 (a0.Counts 2), .int .i64 (a0.Counts 3), .int .i64 (a0.Counts 4), .int .i64 a0.Frames, .int .i64 (a0.Buckets 0), .int .i64 (a0.Buckets 1), .int .i64 (a0.Buckets 2), .int .i64 (a0.Buckets 3), .int .i64 (a0.Buckets 4), .int .i64 (a0.Buckets 5), .int .i64 (a0.Buckets 6), .int .i64 (a0.Buckets 7), .int .i64 (a0.Buckets 8), .int .i64 (a0.Buckets 9), .int .i64 (a0.Buckets 10), .int .i64 (a0.Buckets 11), .int .i64 (a0.Buckets 12), .int .i64 (a0.Buckets 13), .int .i64 (a0.Buckets 14), .int .i64 (a0.Buckets 15), .int .i64 (a0.Buckets 16), .int .i64 (a0.Buckets 17), .int .i64 (a0.Buckets 18), .int .i64 (a0.Buckets 19), .int .i64 (a0.Buckets 20), .int .i64 (a0.Buckets 21), .int .i64 (a0.Buckets 22), .int .i64 (a0.Buckets 23)]), ((.loc 0 1), [.int .i64 a1.Kind, .int .i64 a1.At, .int .i64 a1.Quanta, .int .i64 a1.Stream, .int .u64 a1.Device, .int .i64 a1.Frames]), ((.loc 0 2), [.int .i64 0, .sl 97 .full [], .int .i64 (aZ 0), .int .i64 (aZ 1), .int .i64 (aZ 2), .int .i64 (aZ 3), .int .i64 (aZ 4), .int .i64 0, .int .i64 (aZ 0), .int .i64 (aZ 1), .int .i64 (aZ 2), .int .i64 (aZ 3), .int .i64 (aZ 4), .int .i64 (aZ 5), .int .i64 (aZ 6), .int .i64 (aZ 7), .int .i64 (aZ 8), .int .i64 (aZ 9), .int .i64 (aZ 10), .int .i64 (aZ 11), .int .i64 (aZ 12), .int .i64 (aZ 13), .int .i64 (aZ 14), .int .i64 (aZ 15), .int .i64 (aZ 16), .int .i64 (aZ 17), .int .i64 (aZ 18), .int .i64 (aZ 19), .int .i64 (aZ 20), .int .i64 (aZ 21), .int .i64 (aZ 22), .int .i64 (aZ 23)])]) (imp_of (.cons rfl (.cons rfl (.cons rfl (.cons rfl (.nil))))) (.cons rfl (.cons rfl (.cons rfl (.nil))))) ?_
      refine .seq ?_
      refine .region ?_
      refine .assign ?_
      refine .nil ?_
      obtain ⟨j18, hj18, h⟩ := joinE h
      obtain ⟨j19, hj19, h⟩ := joinE h
      refine .cutI (fun T => (∃ (v16 : (List Glitch)), T = St.of [(2, .ptr (.loc 0 0) 0), (3, .ptr (.loc 0 1) 0), (4, .ptr (.loc 0 2) 0), (6, .sl 97 (.own (.row 9017 0)) (v16.map pv97)), (7, .bool true)] [((.loc 0 0), [.int .i64 a0.Limit, .sl 97 .ro (a0.Last.map pv97), .int .i64 (a0.Counts 0), .int .i64 (a0.Counts 1), .int .i64 (a0.Counts 2), .int .i64 (a0.Counts 3), .int .i64 (a0.Counts 4), .int .i64 a0.Frames, .int .i64 (a0.Buckets 0), .int .i64 (a0.Buckets 1), .int .i64 (a0.Buckets 2), .int .i64 (a0.Buckets 3), .int .i64 (a0.Buckets 4), .int .i64 (a0.Buckets 5), .int .i64 (a0.Buckets 6), .int .i64 (a0.Buckets 7), .int .i64 (a0.Buckets 8), .int .i64 (a0.Buckets 9), .int .i64 (a0.Buckets 10), .int .i64 (a0.Buckets 11), .int .i64 (a0.Buckets 12), .int .i64 (a0.Buckets 13), .int .i64 (a0.Buckets 14), .int .i64 (a0.Buckets 15), .int .i64 (a0.Buckets 16), .int .i64 (a0.Buckets 17), .int .i64 (a0.Buckets 18), .int .i64 (a0.Buckets 19), .int .i64 (a0.Buckets 20), .int .i64 (a0.Buckets 21), .int .i64 (a0.Buckets 22), .int .i64 (a0.Buckets 23)]), ((.loc 0 1), [.int .i64 a1.Kind, .int .i64 a1.At, .int .i64 a1.Quanta, .int .i64 a1.Stream, .int .u64 a1.Device, .int .i64 a1.Frames]), ((.loc 0 2), [.int .i64 0, .sl 97 .full [], .int .i64 (aZ 0), .int .i64 (aZ 1), .int .i64 (aZ 2), .int .i64 (aZ 3), .int .i64 (aZ 4), .int .i64 0, .int .i64 (aZ 0), .int .i64 (aZ 1), .int .i64 (aZ 2), .int .i64 (aZ 3), .int .i64 (aZ 4), .int .i64 (aZ 5), .int .i64 (aZ 6), .int .i64 (aZ 7), .int .i64 (aZ 8), .int .i64 (aZ 9), .int .i64 (aZ 10), .int .i64 (aZ 11), .int .i64 (aZ 12), .int .i64 (aZ 13), .int .i64 (aZ 14), .int .i64 (aZ 15), .int .i64 (aZ 16), .int .i64 (aZ 17), .int .i64 (aZ 18), .int .i64 (aZ 19), .int .i64 (aZ 20), .int .i64 (aZ 21), .int .i64 (aZ 22), .int .i64 (aZ 23)])] ∧ j18 v16 = some r) ∨ (T = St.of [(2, .ptr (.loc 0 0) 0), (3, .ptr (.loc 0 1) 0), (4, .ptr (.loc 0 2) 0), (6, .sl 97 (.own (.row 5 3)) (x10.map pv97)), (7, .bool false)] [((.loc 0 0), [.int .i64 a0.Limit, .sl 97 .ro (a0.Last.map pv97), .int .i64 (a0.Counts 0), .int .i64 (a0.Counts 1), .int .i64 (a0.Counts 2), .int .i64 (a0.Counts 3), .int .i64 (a0.Counts 4), .int .i64 a0.Frames, .int .i64 (a0.Buckets 0), .int .i64 (a0.Buckets 1), .int .i64 (a0.Buckets 2), .int .i64 (a0.Buckets 3), .int .i64 (a0.Buckets 4), .int .i64 (a0.Buckets 5), .int .i64 (a0.Buckets 6), .int .i64 (a0.Buckets 7), .int .i64 (a0.Buckets 8), .int .i64 (a0.Buckets 9), .int .i64 (a0.Buckets 10), .int .i64 (a0.Buckets 11), .int .i64 (a0.Buckets 12), .int .i64 (a0.Buckets 13), .int .i64 (a0.Buckets 14), .int .i64 (a0.Buckets 15), .int .i64 (a0.Buckets 16), .int .i64 (a0.Buckets 17), .int .i64 (a0.Buckets 18), .int .i64 (a0.Buckets 19), .int .i64 (a0.Buckets 20), .int .i64 (a0.Buckets 21), .int .i64 (a0.Buckets 22), .int .i64 (a0.Buckets 23)]), ((.loc 0 1), [.int .i64 a1.Kind, .int .i64 a1.At, .int .i64 a1.Quanta, .int .i64 a1.Stream, .int .u64 a1.Device, .int .i64 a1.Frames]), ((.loc 0 2), [.int .i64 0, .sl 97 .full [], .int .i64 (aZ 0), .int .i64 (aZ 1), .int .i64 (aZ 2), .int .i64 (aZ 3), .int .i64 (aZ 4), .int .i64 0, .int .i64 (aZ 0), .int .i64 (aZ 1), .int .i64 (aZ 2), .int .i64 (aZ 3), .int .i64 (aZ 4), .int .i64 (aZ 5), .int .i64 (aZ 6), .int .i64 (aZ 7), .int .i64 (aZ 8), .int .i64 (aZ 9), .int .i64 (aZ 10), .int .i64 (aZ 11), .int .i64 (aZ 12), .int .i64 (aZ 13), .int .i64 (aZ 14), .int .i64 (aZ 15), .int .i64 (aZ 16), .int .i64 (aZ 17), .int .i64 (aZ 18), .int .i64 (aZ 19), .int .i64 (aZ 20), .int .i64 (aZ 21), .int .i64 (aZ 22), .int .i64 (aZ 23)])] ∧ j19 () = some r)) ?_ ?_
      · refine .seq ?_
        refine .region ?_
        refine .move ?_
        refine .lenL (f := pv97) ?_
        refine .assign ?_
        refine .nil ?_
        refine .seq ?_
        refine .region ?_
        refine .move ?_
        refine .val ?_
        refine .nil ?_
        refine .cond (fun hc20 => ?_) (fun hc20 => ?_)
        · replace h := (if_pos hc20).symm.trans h
          refine .seq ?_
          obtain ⟨x21, hx21, h⟩ := bindE h
          obtain ⟨y22, hy22, h⟩ := bindE h
          refine .draw [10, 11] [[], [], [], [], [], [], [], [], [], [], [], [10], [10, 11]] [[11], [11], [11], [11], [11], [11], [11], [11], [11], [], [11], [], []] [[], [10], [10, 11]]
            [(0, 0), (0, 1), (1, 0), (1, 1), (2, 0), (2, 1), (3, 0), (3, 1), (4, 0), (4, 1), (5, 0), (5, 1), (6, 0), (6, 1), (7, 0), (7, 1), (8, 0), (8, 1), (9, 0), (9, 1), (9, 2), (12, 2)] [(0, 10, 1), (1, 11, 2)] 2
            [⟨[(28, .sl 97 (.own (.row 5 3)) (x10.map pv97)), (29, .int .i64 (x10.length : Int)), (30, .int .i64 (w64 ((x10.length : Int) - (1 : Int)))), (31, .ep 97 (.own (.row 5 3)) (x10.map pv97) (w64 ((x10.length : Int) - (1 : Int)) : Int).toNat 0), (32, .agg [.int .i64 x21.Kind, .int .i64 x21.At, .int .i64 x21.Quanta, .int .i64 x21.Stream, .int .u64 x21.Device, .int .i64 x21.Frames]), (33, .agg [.int .i64 a1.Kind, .int .i64 a1.At, .int .i64 a1.Quanta, .int .i64 a1.Stream, .int .u64 a1.Device, .int .i64 a1.Frames]), (34, .tup [.agg [.int .i64 y22.1.Kind, .int .i64 y22.1.At, .int .i64 y22.1.Quanta, .int .i64 y22.1.Stream, .int .u64 y22.1.Device, .int .i64 y22.1.Frames], .bool y22.2]), (27, .tup [.agg [.int .i64 y22.1.Kind, .int .i64 y22.1.At, .int .i64 y22.1.Quanta, .int .i64 y22.1.Stream, .int .u64 y22.1.Device, .int .i64 y22.1.Frames], .bool y22.2]), (35, .agg [.int .i64 y22.1.Kind, .int .i64 y22.1.At, .int .i64 y22.1.Quanta, .int .i64 y22.1.Stream, .int .u64 y22.1.Device, .int .i64 y22.1.Frames]), (36, .bool y22.2), (2, .ptr (.loc 0 0) 0), (3, .ptr (.loc 0 1) 0), (4, .ptr (.loc 0 2) 0), (6, .sl 97 (.own (.row 5 3)) (x10.map pv97)), (7, .bool false), (8, .int .i64 (x10.length : Int))], [], [((.loc 0 0), [.int .i64 a0.Limit, .sl 97 .ro (a0.Last.map pv97), .int .i64 (a0.Counts 0), .int .i64 (a0.Counts 1), .int .i64 (a0.Counts 2), .int .i64 (a0.Counts 3), .int .i64 (a0.Counts 4), .int .i64 a0.Frames, .int .i64 (a0.Buckets 0), .int .i64 (a0.Buckets 1), .int .i64 (a0.Buckets 2), .int .i64 (a0.Buckets 3), .int .i64 (a0.Buckets 4), .int .i64 (a0.Buckets 5), .int .i64 (a0.Buckets 6), .int .i64 (a0.Buckets 7), .int .i64 (a0.Buckets 8), .int .i64 (a0.Buckets 9), .int .i64 (a0.Buckets 10), .int .i64 (a0.Buckets 11), .int .i64 (a0.Buckets 12), .int .i64 (a0.Buckets 13), .int .i64 (a0.Buckets 14), .int .i64 (a0.Buckets 15), .int .i64 (a0.Buckets 16), .int .i64 (a0.Buckets 17), .int .i64 (a0.Buckets 18), .int .i64 (a0.Buckets 19), .int .i64 (a0.Buckets 20), .int .i64 (a0.Buckets 21), .int .i64 (a0.Buckets 22), .int .i64 (a0.Buckets 23)]), ((.loc 0 1), [.int .i64 a1.Kind, .int .i64 a1.At, .int .i64 a1.Quanta, .int .i64 a1.Stream, .int .u64 a1.Device, .int .i64 a1.Frames]), ((.loc 0 2), [.int .i64 0, .sl 97 .full [], .int .i64 (aZ 0), .int .i64 (aZ 1), .int .i64 (aZ 2), .int .i64 (aZ 3), .int .i64 (aZ 4), .int .i64 0, .int .i64 (aZ 0), .int .i64 (aZ 1), .int .i64 (aZ 2), .int .i64 (aZ 3), .int .i64 (aZ 4), .int .i64 (aZ 5), .int .i64 (aZ 6), .int .i64 (aZ 7), .int .i64 (aZ 8), .int .i64 (aZ 9), .int .i64 (aZ 10), .int .i64 (aZ 11), .int .i64 (aZ 12), .int .i64 (aZ 13), .int .i64 (aZ 14), .int .i64 (aZ 15), .int .i64 (aZ 16), .int .i64 (aZ 17), .int .i64 (aZ 18), .int .i64 (aZ 19), .int .i64 (aZ 20), .int .i64 (aZ 21), .int .i64 (aZ 22), .int .i64 (aZ 23)])]⟩,
            ⟨[(28, .sl 97 (.own (.row 5 3)) (x10.map pv97)), (29, .int .i64 (x10.length : Int)), (30, .int .i64 (w64 ((x10.length : Int) - (1 : Int)))), (31, .ep 97 (.own (.row 5 3)) (x10.map pv97) (w64 ((x10.length : Int) - (1 : Int)) : Int).toNat 0), (32, .agg [.int .i64 x21.Kind, .int .i64 x21.At, .int .i64 x21.Quanta, .int .i64 x21.Stream, .int .u64 x21.Device, .int .i64 x21.Frames]), (33, .agg [.int .i64 a1.Kind, .int .i64 a1.At, .int .i64 a1.Quanta, .int .i64 a1.Stream, .int .u64 a1.Device, .int .i64 a1.Frames]), (34, .tup [.agg [.int .i64 y22.1.Kind, .int .i64 y22.1.At, .int .i64 y22.1.Quanta, .int .i64 y22.1.Stream, .int .u64 y22.1.Device, .int .i64 y22.1.Frames], .bool y22.2]), (27, .tup [.agg [.int .i64 y22.1.Kind, .int .i64 y22.1.At, .int .i64 y22.1.Quanta, .int .i64 y22.1.Stream, .int .u64 y22.1.Device, .int .i64 y22.1.Frames], .bool y22.2]), (35, .agg [.int .i64 y22.1.Kind, .int .i64 y22.1.At, .int .i64 y22.1.Quanta, .int .i64 y22.1.Stream, .int .u64 y22.1.Device, .int .i64 y22.1.Frames]), (36, .bool y22.2), (9, .ptr (.loc 9 10) 0), (2, .ptr (.loc 0 0) 0), (3, .ptr (.loc 0 1) 0), (4, .ptr (.loc 0 2) 0), (6, .sl 97 (.own (.row 5 3)) (x10.map pv97)), (7, .bool false), (8, .int .i64 (x10.length : Int))], [], [((.loc 0 0), [.int .i64 a0.Limit, .sl 97 .ro (a0.Last.map pv97), .int .i64 (a0.Counts 0), .int .i64 (a0.Counts 1), .int .i64 (a0.Counts 2), .int .i64 (a0.Counts 3), .int .i64 (a0.Counts 4), .int .i64 a0.Frames, .int .i64 (a0.Buckets 0), .int .i64 (a0.Buckets 1), .int .i64 (a0.Buckets 2), .int .i64 (a0.Buckets 3), .int .i64 (a0.Buckets 4), .int .i64 (a0.Buckets 5), .int .i64 (a0.Buckets 6), .int .i64 (a0.Buckets 7), .int .i64 (a0.Buckets 8), .int .i64 (a0.Buckets 9), .int .i64 (a0.Buckets 10), .int .i64 (a0.Buckets 11), .int .i64 (a0.Buckets 12), .int .i64 (a0.Buckets 13), .int .i64 (a0.Buckets 14), .int .i64 (a0.Buckets 15), .int .i64 (a0.Buckets 16), .int .i64 (a0.Buckets 17), .int .i64 (a0.Buckets 18), .int .i64 (a0.Buckets 19), .int .i64 (a0.Buckets 20), .int .i64 (a0.Buckets 21), .int .i64 (a0.Buckets 22), .int .i64 (a0.Buckets 23)]), ((.loc 0 1), [.int .i64 a1.Kind, .int .i64 a1.At, .int .i64 a1.Quanta, .int .i64 a1.Stream, .int .u64 a1.Device, .int .i64 a1.Frames]), ((.loc 0 2), [.int .i64 0, .sl 97 .full [], .int .i64 (aZ 0), .int .i64 (aZ 1), .int .i64 (aZ 2), .int .i64 (aZ 3), .int .i64 (aZ 4), .int .i64 0, .int .i64 (aZ 0), .int .i64 (aZ 1), .int .i64 (aZ 2), .int .i64 (aZ 3), .int .i64 (aZ 4), .int .i64 (aZ 5), .int .i64 (aZ 6), .int .i64 (aZ 7), .int .i64 (aZ 8), .int .i64 (aZ 9), .int .i64 (aZ 10), .int .i64 (aZ 11), .int .i64 (aZ 12), .int .i64 (aZ 13), .int .i64 (aZ 14), .int .i64 (aZ 15), .int .i64 (aZ 16), .int .i64 (aZ 17), .int .i64 (aZ 18), .int .i64 (aZ 19), .int .i64 (aZ 20), .int .i64 (aZ 21), .int .i64 (aZ 22), .int .i64 (aZ 23)]), ((.loc 9 10), [.int .i64 0, .int .i64 0, .int .i64 0, .int .i64 0, .int .u64 0, .int .i64 0])]⟩,
            ⟨[(28, .sl 97 (.own (.row 5 3)) (x10.map pv97)), (29, .int .i64 (x10.length : Int)), (30, .int .i64 (w64 ((x10.length : Int) - (1 : Int)))), (31, .ep 97 (.own (.row 5 3)) (x10.map pv97) (w64 ((x10.length : Int) - (1 : Int)) : Int).toNat 0), (32, .agg [.int .i64 x21.Kind, .int .i64 x21.At, .int .i64 x21.Quanta, .int .i64 x21.Stream, .int .u64 x21.Device, .int .i64 x21.Frames]), (33, .agg [.int .i64 a1.Kind, .int .i64 a1.At, .int .i64 a1.Quanta, .int .i64 a1.Stream, .int .u64 a1.Device, .int .i64 a1.Frames]), (34, .tup [.agg [.int .i64 y22.1.Kind, .int .i64 y22.1.At, .int .i64 y22.1.Quanta, .int .i64 y22.1.Stream, .int .u64 y22.1.Device, .int .i64 y22.1.Frames], .bool y22.2]), (27, .tup [.agg [.int .i64 y22.1.Kind, .int .i64 y22.1.At, .int .i64 y22.1.Quanta, .int .i64 y22.1.Stream, .int .u64 y22.1.Device, .int .i64 y22.1.Frames], .bool y22.2]), (35, .agg [.int .i64 y22.1.Kind, .int .i64 y22.1.At, .int .i64 y22.1.Quanta, .int .i64 y22.1.Stream, .int .u64 y22.1.Device, .int .i64 y22.1.Frames]), (36, .bool y22.2), (9, .ptr (.loc 9 10) 0), (10, .bool y22.2), (2, .ptr (.loc 0 0) 0), (3, .ptr (.loc 0 1) 0), (4, .ptr (.loc 0 2) 0), (6, .sl 97 (.own (.row 5 3)) (x10.map pv97)), (7, .bool false), (8, .int .i64 (x10.length : Int))], [], [((.loc 0 0), [.int .i64 a0.Limit, .sl 97 .ro (a0.Last.map pv97), .int .i64 (a0.Counts 0), .int .i64 (a0.Counts 1), .int .i64 (a0.Counts 2), .int .i64 (a0.Counts 3), .int .i64 (a0.Counts 4), .int .i64 a0.Frames, .int .i64 (a0.Buckets 0), .int .i64 (a0.Buckets 1), .int .i64 (a0.Buckets 2), .int .i64 (a0.Buckets 3), .int .i64 (a0.Buckets 4), .int .i64 (a0.Buckets 5), .int .i64 (a0.Buckets 6), .int .i64 (a0.Buckets 7), .int .i64 (a0.Buckets 8), .int .i64 (a0.Buckets 9), .int .i64 (a0.Buckets 10), .int .i64 (a0.Buckets 11), .int .i64 (a0.Buckets 12), .int .i64 (a0.Buckets 13), .int .i64 (a0.Buckets 14), .int .i64 (a0.Buckets 15), .int .i64 (a0.Buckets 16), .int .i64 (a0.Buckets 17), .int .i64 (a0.Buckets 18), .int .i64 (a0.Buckets 19), .int .i64 (a0.Buckets 20), .int .i64 (a0.Buckets 21), .int .i64 (a0.Buckets 22), .int .i64 (a0.Buckets 23)]), ((.loc 0 1), [.int .i64 a1.Kind, .int .i64 a1.At, .int .i64 a1.Quanta, .int .i64 a1.Stream, .int .u64 a1.Device, .int .i64 a1.Frames]), ((.loc 0 2), [.int .i64 0, .sl 97 .full [], .int .i64 (aZ 0), .int .i64 (aZ 1), .int .i64 (aZ 2), .int .i64 (aZ 3), .int .i64 (aZ 4), .int .i64 0, .int .i64 (aZ 0), .int .i64 (aZ 1), .int .i64 (aZ 2), .int .i64 (aZ 3), .int .i64 (aZ 4), .int .i64 (aZ 5), .int .i64 (aZ 6), .int .i64 (aZ 7), .int .i64 (aZ 8), .int .i64 (aZ 9), .int .i64 (aZ 10), .int .i64 (aZ 11), .int .i64 (aZ 12), .int .i64 (aZ 13), .int .i64 (aZ 14), .int .i64 (aZ 15), .int .i64 (aZ 16), .int .i64 (aZ 17), .int .i64 (aZ 18), .int .i64 (aZ 19), .int .i64 (aZ 20), .int .i64 (aZ 21), .int .i64 (aZ 22), .int .i64 (aZ 23)]), ((.loc 9 10), [.int .i64 y22.1.Kind, .int .i64 y22.1.At, .int .i64 y22.1.Quanta, .int .i64 y22.1.Stream, .int .u64 y22.1.Device, .int .i64 y22.1.Frames])]⟩]
            [(2, .ptr (.loc 0 0) 0), (3, .ptr (.loc 0 1) 0), (4, .ptr (.loc 0 2) 0), (6, .sl 97 (.own (.row 5 3)) (x10.map pv97)), (7, .bool false), (8, .int .i64 (x10.length : Int))]
            (.cons [6] [] (fun _ _ h => .move (h _)) rfl rfl <|
            .cons [6] [] (fun _ _ h => .move (h _)) rfl rfl <|
            .cons [8] [] (fun _ _ h => .move (h _)) rfl rfl <|
            .cons [8] [] (fun _ _ h => .move (h _)) rfl rfl <|
            .cons [29] [] (fun _ _ h => .val (h _)) rfl rfl <|
            .cons [29] [] (fun _ _ h => .val (h _)) rfl rfl <|
            .cons [28, 30] [] (fun _ _ h => .idxL (f := pv97) hx21 (h _)) rfl rfl <|
            .cons [28, 30] [] (fun _ _ h => .idxL (f := pv97) hx21 (h _)) rfl rfl <|
            .cons [31] [] (fun _ _ h => .ldL hx21 (h _)) rfl rfl <|
            .cons [31] [] (fun _ _ h => .ldL hx21 (h _)) rfl rfl <|
            .cons [3] [] (fun _ _ h => .val (h _)) rfl rfl <|
            .cons [3] [] (fun _ _ h => .val (h _)) rfl rfl <|
            .cons [32, 33] [] (fun _ _ h => .cP (g103 hy22) (h _)) rfl rfl <|
            .cons [32, 33] [] (fun _ _ h => .cP (g103 hy22) (h _)) rfl rfl <|
            .cons [34] [] (fun _ _ h => .move (h _)) rfl rfl <|
            .cons [34] [] (fun _ _ h => .move (h _)) rfl rfl <|
            .cons [27] [] (fun _ _ h => .val (h _)) rfl rfl <|
            .cons [27] [] (fun _ _ h => .val (h _)) rfl rfl <|
            .cons [27] [] (fun _ _ h => .val (h _)) rfl rfl <|
            .cons [27] [] (fun _ _ h => .val (h _)) rfl rfl <|
            .cons [27] [] (fun _ _ h => .val (h _)) rfl rfl <|
            .cons [36] [] (fun _ _ h => .assign (h _)) rfl rfl <|
            .nil)
            (.cons (PV.sub (oneSub (.loc 9 10) .kill)) [] [] (fun _ _ h => .allocL (cs := [.int .i64 0, .int .i64 0, .int .i64 0, .int .i64 0, .int .u64 0, .int .i64 0]) (h _ _ (.cons rfl (.cons rfl (.cons rfl (.cons rfl (.nil))))))) rfl (.old rfl (.old rfl (.old rfl (.old rfl (.old rfl (.old rfl (.old rfl (.old rfl (.old rfl (.old rfl (.new rfl (.old rfl (.old rfl (.old rfl (.old rfl (.old rfl (.old rfl (.nil)))))))))))))))))) rfl rfl <|
            .cons (fun x => x) [9, 35] [] (fun _ _ h => .wrL (cs := [.int .i64 y22.1.Kind, .int .i64 y22.1.At, .int .i64 y22.1.Quanta, .int .i64 y22.1.Stream, .int .u64 y22.1.Device, .int .i64 y22.1.Frames]) (h _ _ (.cons rfl (.cons rfl (.cons rfl (.cons rfl (.nil))))))) rfl (.old rfl (.old rfl (.old rfl (.old rfl (.old rfl (.old rfl (.old rfl (.old rfl (.old rfl (.old rfl (.old rfl (.new rfl (.old rfl (.old rfl (.old rfl (.old rfl (.old rfl (.old rfl (.nil))))))))))))))))))) rfl rfl <|
            .nil)
            (by kernel_rfl) rfl (.cons rfl (.cons rfl (.cons rfl (.cons rfl (.cons rfl (.cons rfl (.nil))))))) (.nil) (.cons rfl (.cons rfl (.cons rfl (.nil)))) ?_
          refine .imp (T := St.of [(2, .ptr (.loc 0 0) 0), (3, .ptr (.loc 0 1) 0), (4, .ptr (.loc 0 2) 0), (6, .sl 97 (.own (.row 5 3)) (x10.map pv97)), (7, .bool false), (8, .int .i64 (x10.length : Int)), (9, .ptr (.loc 9 10) 0), (10, .bool y22.2)] [((.loc 0 0), [.int .i64 a0.Limit, .sl 97 .ro (a0.Last.map pv97), .int .i64 (a0.Counts 0), .int .i64 (a0.Counts 1), .int .i64 (a0.Counts 2), .int .i64 (a0.Counts 3), .int .i64 (a0.Counts 4), .int .i64 a0.Frames, .int .i64 (a0.Buckets 0), .int .i64 (a0.Buckets 1), .int .i64 (a0.Buckets 2), .int .i64 (a0.Buckets 3), .int .i64 (a0.Buckets 4), .int .i64 (a0.Buckets 5), .int .i64 (a0.Buckets 6), .int .i64 (a0.Buckets 7), .int .i64 (a0.Buckets 8), .int .i64 (a0.Buckets 9), .int .i64 (a0.Buckets 10), .int .i64 (a0.Buckets 11), .int .i64 (a0.Buckets 12), .int .i64 (a0.Buckets 13), .int .i64 (a0.Buckets 14), .int .i64 (a0.Buckets 15), .int .i64 (a0.Buckets 16), .int .i64 (a0.Buckets 17), .int .i64 (a0.Buckets 18), .int .i64 (a0.Buckets 19), .int .i64 (a0.Buckets 20), .int .i64 (a0.Buckets 21), .int .i64 (a0.Buckets 22), .int .i64 (a0.Buckets 23)]), ((.loc 0 1), [.int .i64 a1.Kind, .int .i64 a1.At, .int .i64 a1.Quanta, .int .i64 a1.Stream, .int .u64 a1.Device, .int .i64 a1.Frames]), ((.loc 0 2), [.int .i64 0, .sl 97 .full [], .int .i64 (aZ 0), .int .i64 (aZ 1), .int .i64 (aZ 2), .int .i64 (aZ 3), .int .i64 (aZ 4), .int .i64 0, .int .i64 (aZ 0), .int .i64 (aZ 1), .int .i64 (aZ 2), .int .i64 (aZ 3), .int .i64 (aZ 4), .int .i64 (aZ 5), .int .i64 (aZ 6), .int .i64 (aZ 7), .int .i64 (aZ 8), .int .i64 (aZ 9), .int .i64 (aZ 10), .int .i64 (aZ 11), .int .i64 (aZ 12), .int .i64 (aZ 13), .int .i64 (aZ 14), .int .i64 (aZ 15), .int .i64 (aZ 16), .int .i64 (aZ 17), .int .i64 (aZ 18), .int .i64 (aZ 19), .int .i64 (aZ 20), .int .i64 (aZ 21), .int .i64 (aZ 22), .int .i64 (aZ 23)]), ((.loc 9 10), [.int .i64 y22.1.Kind, .int .i64 y22.1.At, .int .i64 y22.1.Quanta, .int .i64 y22.1.Stream, .int .u64 y22.1.Device, .int .i64 y22.1.Frames])]) (imp_of (.cons rfl (.cons rfl (.cons rfl (.cons rfl (.cons rfl (.cons rfl (.cons rfl (.cons rfl (.nil))))))))) (.cons rfl (.cons rfl (.cons rfl (.cons rfl (.nil)))))) ?_
          refine .seq ?_
          refine .region ?_
          refine .move ?_
          refine .nil ?_
          refine .cond (fun hc23 => ?_) (fun hc23 => ?_)
          · replace h := (if_pos hc23).symm.trans h
            refine .region ?_
            refine .move ?_
            refine .move ?_
            refine .val ?_
            refine .val (v := .agg [.int .i64 y22.1.Kind, .int .i64 y22.1.At, .int .i64 y22.1.Quanta, .int .i64 y22.1.Stream, .int .u64 y22.1.Device, .int .i64 y22.1.Frames]) ?_
            obtain ⟨x24, hx24, h⟩ := bindE h
            refine .idxL (f := pv97) hx24 ?_
            refine .stL hx24 (z' := (⟨y22.1.Kind, y22.1.At, y22.1.Quanta, y22.1.Stream, y22.1.Device, y22.1.Frames⟩ : Glitch)) ?_
            refine .now 6 (congrArg (PV.sl 97 (.own (.row 5 3))) (List.map_set (f := pv97)).symm) ?_
            refine .now 38 (congrArg (PV.sl 97 (.own (.row 5 3))) (List.map_set (f := pv97)).symm) ?_
            refine .assign ?_
            refine .nil ?_
            exact ⟨_, (.inl ⟨_, rfl, h⟩), (Imp.trans (Imp.swap (.row 5 3) (.row 9017 0) rfl rfl rfl) (imp_of (.cons rfl (.cons rfl (.cons rfl (.cons rfl (.cons rfl (.nil)))))) (.cons rfl (.cons rfl (.cons rfl (.nil))))))⟩
          · replace h := (if_neg (nt hc23)).symm.trans h
            refine .skip ?_
            exact ⟨_, (.inr (⟨rfl, h⟩)), (imp_of (.cons rfl (.cons rfl (.cons rfl (.cons rfl (.cons rfl (.nil)))))) (.cons rfl (.cons rfl (.cons rfl (.nil)))))⟩
        · replace h := (if_neg (nt hc20)).symm.trans h
          refine .skip ?_
          exact ⟨_, (.inr (⟨rfl, h⟩)), (imp_of (.cons rfl (.cons rfl (.cons rfl (.cons rfl (.cons rfl (.nil)))))) (.cons rfl (.cons rfl (.cons rfl (.nil)))))⟩
      · rintro T (⟨v16, rfl, h⟩ | ⟨rfl, h⟩)
        · subst hj18
          refine .seq ?_
          refine .seq ?_
          refine .region ?_
          refine .move ?_
          refine .val ?_
          refine .nil ?_
          refine .condF ?_
          refine .skip ?_
          refine .seq ?_
          refine .region ?_
          refine .move ?_
          refine .move ?_
          refine .lenL (f := pv97) ?_
          refine .val ?_
          refine .val ?_
          refine .val ?_
          refine .maxL ?_
          obtain ⟨x25, hx25, h⟩ := bindE h
          refine .freeze (.row 9017 0) ?_
          refine .partE (f := pv97) hx25 ?_
          refine .val ?_
          refine .wrL (cs := [.int .i64 a0.Limit, .sl 97 .ro (x25.map pv97), .int .i64 (a0.Counts 0), .int .i64 (a0.Counts 1), .int .i64 (a0.Counts 2), .int .i64 (a0.Counts 3), .int .i64 (a0.Counts 4), .int .i64 a0.Frames, .int .i64 (a0.Buckets 0), .int .i64 (a0.Buckets 1), .int .i64 (a0.Buckets 2), .int .i64 (a0.Buckets 3), .int .i64 (a0.Buckets 4), .int .i64 (a0.Buckets 5), .int .i64 (a0.Buckets 6), .int .i64 (a0.Buckets 7), .int .i64 (a0.Buckets 8), .int .i64 (a0.Buckets 9), .int .i64 (a0.Buckets 10), .int .i64 (a0.Buckets 11), .int .i64 (a0.Buckets 12), .int .i64 (a0.Buckets 13), .int .i64 (a0.Buckets 14), .int .i64 (a0.Buckets 15), .int .i64 (a0.Buckets 16), .int .i64 (a0.Buckets 17), .int .i64 (a0.Buckets 18), .int .i64 (a0.Buckets 19), .int .i64 (a0.Buckets 20), .int .i64 (a0.Buckets 21), .int .i64 (a0.Buckets 22), .int .i64 (a0.Buckets 23)]) ?_
          refine .nil ?_
          refine .seq ?_
          obtain ⟨x26, hx26, h⟩ := bindE h
          obtain ⟨x27, hx27, h⟩ := bindE h
          refine .draw [11] [[], [], [], [], [], [], [], [], [], [], [], []] [[11], [11], [11], [11], [11], [11], [11], [11], [11], [11], [11], []] [[], [11]]
            [(0, 0), (1, 0), (2, 0), (3, 0), (4, 0), (5, 0), (6, 0), (7, 0), (8, 0), (9, 0), (10, 0)] [(0, 11, 1)] 1
            [⟨[(58, .ptr (.loc 0 1) 0), (59, .int .i64 a1.Kind), (60, .ptr (.loc 0 1) 0), (61, .int .i64 a1.Kind), (62, .ptr (.loc 0 0) 2), (63, .ptr (.loc 0 0) (2 + x26)), (64, .int .i64 (a0.Counts x26)), (65, .int .i64 (w64 ((a0.Counts x26) + (1 : Int)))), (66, .int .i64 (iMin (w64 ((a0.Counts x26) + (1 : Int))) (1099511627776 : Int))), (67, .ptr (.loc 0 0) 2), (68, .ptr (.loc 0 0) (2 + x27)), (2, .ptr (.loc 0 0) 0), (3, .ptr (.loc 0 1) 0), (4, .ptr (.loc 0 2) 0)], [], [((.loc 0 0), [.int .i64 a0.Limit, .sl 97 .ro (x25.map pv97), .int .i64 (a0.Counts 0), .int .i64 (a0.Counts 1), .int .i64 (a0.Counts 2), .int .i64 (a0.Counts 3), .int .i64 (a0.Counts 4), .int .i64 a0.Frames, .int .i64 (a0.Buckets 0), .int .i64 (a0.Buckets 1), .int .i64 (a0.Buckets 2), .int .i64 (a0.Buckets 3), .int .i64 (a0.Buckets 4), .int .i64 (a0.Buckets 5), .int .i64 (a0.Buckets 6), .int .i64 (a0.Buckets 7), .int .i64 (a0.Buckets 8), .int .i64 (a0.Buckets 9), .int .i64 (a0.Buckets 10), .int .i64 (a0.Buckets 11), .int .i64 (a0.Buckets 12), .int .i64 (a0.Buckets 13), .int .i64 (a0.Buckets 14), .int .i64 (a0.Buckets 15), .int .i64 (a0.Buckets 16), .int .i64 (a0.Buckets 17), .int .i64 (a0.Buckets 18), .int .i64 (a0.Buckets 19), .int .i64 (a0.Buckets 20), .int .i64 (a0.Buckets 21), .int .i64 (a0.Buckets 22), .int .i64 (a0.Buckets 23)]), ((.loc 0 1), [.int .i64 a1.Kind, .int .i64 a1.At, .int .i64 a1.Quanta, .int .i64 a1.Stream, .int .u64 a1.Device, .int .i64 a1.Frames]), ((.loc 0 2), [.int .i64 0, .sl 97 .full [], .int .i64 (aZ 0), .int .i64 (aZ 1), .int .i64 (aZ 2), .int .i64 (aZ 3), .int .i64 (aZ 4), .int .i64 0, .int .i64 (aZ 0), .int .i64 (aZ 1), .int .i64 (aZ 2), .int .i64 (aZ 3), .int .i64 (aZ 4), .int .i64 (aZ 5), .int .i64 (aZ 6), .int .i64 (aZ 7), .int .i64 (aZ 8), .int .i64 (aZ 9), .int .i64 (aZ 10), .int .i64 (aZ 11), .int .i64 (aZ 12), .int .i64 (aZ 13), .int .i64 (aZ 14), .int .i64 (aZ 15), .int .i64 (aZ 16), .int .i64 (aZ 17), .int .i64 (aZ 18), .int .i64 (aZ 19), .int .i64 (aZ 20), .int .i64 (aZ 21), .int .i64 (aZ 22), .int .i64 (aZ 23)])]⟩,
            ⟨[(58, .ptr (.loc 0 1) 0), (59, .int .i64 a1.Kind), (60, .ptr (.loc 0 1) 0), (61, .int .i64 a1.Kind), (62, .ptr (.loc 0 0) 2), (63, .ptr (.loc 0 0) (2 + x26)), (64, .int .i64 (a0.Counts x26)), (65, .int .i64 (w64 ((a0.Counts x26) + (1 : Int)))), (66, .int .i64 (iMin (w64 ((a0.Counts x26) + (1 : Int))) (1099511627776 : Int))), (67, .ptr (.loc 0 0) 2), (68, .ptr (.loc 0 0) (2 + x27)), (2, .ptr (.loc 0 0) 0), (3, .ptr (.loc 0 1) 0), (4, .ptr (.loc 0 2) 0)], [], [((.loc 0 0), [.int .i64 a0.Limit, .sl 97 .ro (x25.map pv97), .int .i64 ((aUp a0.Counts x27 (iMin (w64 ((a0.Counts x26) + (1 : Int))) (1099511627776 : Int))) 0), .int .i64 ((aUp a0.Counts x27 (iMin (w64 ((a0.Counts x26) + (1 : Int))) (1099511627776 : Int))) 1), .int .i64 ((aUp a0.Counts x27 (iMin (w64 ((a0.Counts x26) + (1 : Int))) (1099511627776 : Int))) 2), .int .i64 ((aUp a0.Counts x27 (iMin (w64 ((a0.Counts x26) + (1 : Int))) (1099511627776 : Int))) 3), .int .i64 ((aUp a0.Counts x27 (iMin (w64 ((a0.Counts x26) + (1 : Int))) (1099511627776 : Int))) 4), .int .i64 a0.Frames, .int .i64 (a0.Buckets 0), .int .i64 (a0.Buckets 1), .int .i64 (a0.Buckets 2), .int .i64 (a0.Buckets 3), .int .i64 (a0.Buckets 4), .int .i64 (a0.Buckets 5), .int .i64 (a0.Buckets 6), .int .i64 (a0.Buckets 7), .int .i64 (a0.Buckets 8), .int .i64 (a0.Buckets 9), .int .i64 (a0.Buckets 10), .int .i64 (a0.Buckets 11), .int .i64 (a0.Buckets 12), .int .i64 (a0.Buckets 13), .int .i64 (a0.Buckets 14), .int .i64 (a0.Buckets 15), .int .i64 (a0.Buckets 16), .int .i64 (a0.Buckets 17), .int .i64 (a0.Buckets 18), .int .i64 (a0.Buckets 19), .int .i64 (a0.Buckets 20), .int .i64 (a0.Buckets 21), .int .i64 (a0.Buckets 22), .int .i64 (a0.Buckets 23)]), ((.loc 0 1), [.int .i64 a1.Kind, .int .i64 a1.At, .int .i64 a1.Quanta, .int .i64 a1.Stream, .int .u64 a1.Device, .int .i64 a1.Frames]), ((.loc 0 2), [.int .i64 0, .sl 97 .full [], .int .i64 (aZ 0), .int .i64 (aZ 1), .int .i64 (aZ 2), .int .i64 (aZ 3), .int .i64 (aZ 4), .int .i64 0, .int .i64 (aZ 0), .int .i64 (aZ 1), .int .i64 (aZ 2), .int .i64 (aZ 3), .int .i64 (aZ 4), .int .i64 (aZ 5), .int .i64 (aZ 6), .int .i64 (aZ 7), .int .i64 (aZ 8), .int .i64 (aZ 9), .int .i64 (aZ 10), .int .i64 (aZ 11), .int .i64 (aZ 12), .int .i64 (aZ 13), .int .i64 (aZ 14), .int .i64 (aZ 15), .int .i64 (aZ 16), .int .i64 (aZ 17), .int .i64 (aZ 18), .int .i64 (aZ 19), .int .i64 (aZ 20), .int .i64 (aZ 21), .int .i64 (aZ 22), .int .i64 (aZ 23)])]⟩]
            [(2, .ptr (.loc 0 0) 0), (3, .ptr (.loc 0 1) 0), (4, .ptr (.loc 0 2) 0)]
            (.cons [3] [] (fun _ _ h => .val (h _)) rfl rfl <|
            .cons [58] [] (fun _ _ h => .val (h _)) rfl rfl <|
            .cons [3] [] (fun _ _ h => .val (h _)) rfl rfl <|
            .cons [60] [] (fun _ _ h => .val (h _)) rfl rfl <|
            .cons [2] [] (fun _ _ h => .val (h _)) rfl rfl <|
            .cons [62, 61] [] (fun _ _ h => .idxA hx26 (h _)) rfl rfl <|
            .cons [63] [] (fun _ _ h => .ldA hx26 (A := a0.Counts) (h _)) rfl rfl <|
            .cons [64] [] (fun _ _ h => .val (h _)) rfl rfl <|
            .cons [65] [] (fun _ _ h => .minL (h _)) rfl rfl <|
            .cons [2] [] (fun _ _ h => .val (h _)) rfl rfl <|
            .cons [67, 59] [] (fun _ _ h => .idxA hx27 (h _)) rfl rfl <|
            .nil)
            (.cons (fun x => x) [68, 66] [] (fun _ _ h => .stA hx27 (A := a0.Counts) (cs' := [.int .i64 a0.Limit, .sl 97 .ro (x25.map pv97), .int .i64 ((aUp a0.Counts x27 (iMin (w64 ((a0.Counts x26) + (1 : Int))) (1099511627776 : Int))) 0), .int .i64 ((aUp a0.Counts x27 (iMin (w64 ((a0.Counts x26) + (1 : Int))) (1099511627776 : Int))) 1), .int .i64 ((aUp a0.Counts x27 (iMin (w64 ((a0.Counts x26) + (1 : Int))) (1099511627776 : Int))) 2), .int .i64 ((aUp a0.Counts x27 (iMin (w64 ((a0.Counts x26) + (1 : Int))) (1099511627776 : Int))) 3), .int .i64 ((aUp a0.Counts x27 (iMin (w64 ((a0.Counts x26) + (1 : Int))) (1099511627776 : Int))) 4), .int .i64 a0.Frames, .int .i64 (a0.Buckets 0), .int .i64 (a0.Buckets 1), .int .i64 (a0.Buckets 2), .int .i64 (a0.Buckets 3), .int .i64 (a0.Buckets 4), .int .i64 (a0.Buckets 5), .int .i64 (a0.Buckets 6), .int .i64 (a0.Buckets 7), .int .i64 (a0.Buckets 8), .int .i64 (a0.Buckets 9), .int .i64 (a0.Buckets 10), .int .i64 (a0.Buckets 11), .int .i64 (a0.Buckets 12), .int .i64 (a0.Buckets 13), .int .i64 (a0.Buckets 14), .int .i64 (a0.Buckets 15), .int .i64 (a0.Buckets 16), .int .i64 (a0.Buckets 17), .int .i64 (a0.Buckets 18), .int .i64 (a0.Buckets 19), .int .i64 (a0.Buckets 20), .int .i64 (a0.Buckets 21), .int .i64 (a0.Buckets 22), .int .i64 (a0.Buckets 23)]) (h _ _ (.cons rfl (.cons rfl (.cons rfl (.nil)))))) rfl (.old rfl (.old rfl (.old rfl (.old rfl (.old rfl (.old rfl (.old rfl (.old rfl (.old rfl (.old rfl (.old rfl (.old rfl (.old rfl (.old rfl (.nil))))))))))))))) rfl rfl <|
            .nil)
            (by kernel_rfl) rfl (.cons rfl (.cons rfl (.cons rfl (.nil)))) (.nil) (.cons rfl (.cons rfl (.cons rfl (.nil)))) ?_
          refine .imp (T := St.of [(2, .ptr (.loc 0 0) 0), (3, .ptr (.loc 0 1) 0), (4, .ptr (.loc 0 2) 0)] [((.loc 0 0), [.int .i64 a0.Limit, .sl 97 .ro (x25.map pv97), .int .i64 ((aUp a0.Counts x27 (iMin (w64 ((a0.Counts x26) + (1 : Int))) (1099511627776 : Int))) 0), .int .i64 ((aUp a0.Counts x27 (iMin (w64 ((a0.Counts x26) + (1 : Int))) (1099511627776 : Int))) 1), .int .i64 ((aUp a0.Counts x27 (iMin (w64 ((a0.Counts x26) + (1 : Int))) (1099511627776 : Int))) 2), .int .i64 ((aUp a0.Counts x27 (iMin (w64 ((a0.Counts x26) + (1 : Int))) (1099511627776 : Int))) 3), .int .i64 ((aUp a0.Counts x27 (iMin (w64 ((a0.Counts x26) + (1 : Int))) (1099511627776 : Int))) 4), .int .i64 a0.Frames, .int .i64 (a0.Buckets 0), .int .i64 (a0.Buckets 1), .int .i64 (a0.Buckets 2), .int .i64 (a0.Buckets 3), .int .i64 (a0.Buckets 4), .int .i64 (a0.Buckets 5), .int .i64 (a0.Buckets 6), .int .i64 (a0.Buckets 7), .int .i64 (a0.Buckets 8), .int .i64 (a0.Buckets 9), .int .i64 (a0.Buckets 10), .int .i64 (a0.Buckets 11), .int .i64 (a0.Buckets 12), .int .i64 (a0.Buckets 13), .int .i64 (a0.Buckets 14), .int .i64 (a0.Buckets 15), .int .i64 (a0.Buckets 16), .int .i64 (a0.Buckets 17), .int .i64 (a0.Buckets 18), .int .i64 (a0.Buckets 19), .int .i64 (a0.Buckets 20), .int .i64 (a0.Buckets 21), .int .i64 (a0.Buckets 22), .int .i64 (a0.Buckets 23)]), ((.loc 0 1), [.int .i64 a1.Kind, .int .i64 a1.At, .int .i64 a1.Quanta, .int .i64 a1.Stream, .int .u64 a1.Device, .int .i64 a1.Frames]), ((.loc 0 2), [.int .i64 0, .sl 97 .full [], .int .i64 (aZ 0), .int .i64 (aZ 1), .int .i64 (aZ 2), .int .i64 (aZ 3), .int .i64 (aZ 4), .int .i64 0, .int .i64 (aZ 0), .int .i64 (aZ 1), .int .i64 (aZ 2), .int .i64 (aZ 3), .int .i64 (aZ 4), .int .i64 (aZ 5), .int .i64 (aZ 6), .int .i64 (aZ 7), .int .i64 (aZ 8), .int .i64 (aZ 9), .int .i64 (aZ 10), .int .i64 (aZ 11), .int .i64 (aZ 12), .int .i64 (aZ 13), .int .i64 (aZ 14), .int .i64 (aZ 15), .int .i64 (aZ 16), .int .i64 (aZ 17), .int .i64 (aZ 18), .int .i64 (aZ 19), .int .i64 (aZ 20), .int .i64 (aZ 21), .int .i64 (aZ 22), .int .i64 (aZ 23)])]) (imp_of (.cons rfl (.cons rfl (.cons rfl (.nil)))) (.cons rfl (.cons rfl (.cons rfl (.nil))))) ?_
          refine .seq ?_
          refine .region ?_
          refine .val ?_
          refine .val ?_
          refine .val ?_
          refine .val ?_
          refine .val ?_
          refine .minL ?_
          refine .val ?_
          refine .wrL (cs := [.int .i64 a0.Limit, .sl 97 .ro (x25.map pv97), .int .i64 ((aUp a0.Counts x27 (iMin (w64 ((a0.Counts x26) + (1 : Int))) (1099511627776 : Int))) 0), .int .i64 ((aUp a0.Counts x27 (iMin (w64 ((a0.Counts x26) + (1 : Int))) (1099511627776 : Int))) 1), .int .i64 ((aUp a0.Counts x27 (iMin (w64 ((a0.Counts x26) + (1 : Int))) (1099511627776 : Int))) 2), .int .i64 ((aUp a0.Counts x27 (iMin (w64 ((a0.Counts x26) + (1 : Int))) (1099511627776 : Int))) 3), .int .i64 ((aUp a0.Counts x27 (iMin (w64 ((a0.Counts x26) + (1 : Int))) (1099511627776 : Int))) 4), .int .i64 (iMin (w64 (a0.Frames + a1.Frames)) (1099511627776 : Int)), .int .i64 (a0.Buckets 0), .int .i64 (a0.Buckets 1), .int .i64 (a0.Buckets 2), .int .i64 (a0.Buckets 3), .int .i64 (a0.Buckets 4), .int .i64 (a0.Buckets 5), .int .i64 (a0.Buckets 6), .int .i64 (a0.Buckets 7), .int .i64 (a0.Buckets 8), .int .i64 (a0.Buckets 9), .int .i64 (a0.Buckets 10), .int .i64 (a0.Buckets 11), .int .i64 (a0.Buckets 12), .int .i64 (a0.Buckets 13), .int .i64 (a0.Buckets 14), .int .i64 (a0.Buckets 15), .int .i64 (a0.Buckets 16), .int .i64 (a0.Buckets 17), .int .i64 (a0.Buckets 18), .int .i64 (a0.Buckets 19), .int .i64 (a0.Buckets 20), .int .i64 (a0.Buckets 21), .int .i64 (a0.Buckets 22), .int .i64 (a0.Buckets 23)]) ?_
          refine .nil ?_
          refine .seq ?_
          refine .region ?_
          refine .val (v := .agg [.int .i64 a0.Limit, .sl 97 .ro (x25.map pv97), .int .i64 ((aUp a0.Counts x27 (iMin (w64 ((a0.Counts x26) + (1 : Int))) (1099511627776 : Int))) 0), .int .i64 ((aUp a0.Counts x27 (iMin (w64 ((a0.Counts x26) + (1 : Int))) (1099511627776 : Int))) 1), .int .i64 ((aUp a0.Counts x27 (iMin (w64 ((a0.Counts x26) + (1 : Int))) (1099511627776 : Int))) 2), .int .i64 ((aUp a0.Counts x27 (iMin (w64 ((a0.Counts x26) + (1 : Int))) (1099511627776 : Int))) 3), .int .i64 ((aUp a0.Counts x27 (iMin (w64 ((a0.Counts x26) + (1 : Int))) (1099511627776 : Int))) 4), .int .i64 (iMin (w64 (a0.Frames + a1.Frames)) (1099511627776 : Int)), .int .i64 (a0.Buckets 0), .int .i64 (a0.Buckets 1), .int .i64 (a0.Buckets 2), .int .i64 (a0.Buckets 3), .int .i64 (a0.Buckets 4), .int .i64 (a0.Buckets 5), .int .i64 (a0.Buckets 6), .int .i64 (a0.Buckets 7), .int .i64 (a0.Buckets 8), .int .i64 (a0.Buckets 9), .int .i64 (a0.Buckets 10), .int .i64 (a0.Buckets 11), .int .i64 (a0.Buckets 12), .int .i64 (a0.Buckets 13), .int .i64 (a0.Buckets 14), .int .i64 (a0.Buckets 15), .int .i64 (a0.Buckets 16), .int .i64 (a0.Buckets 17), .int .i64 (a0.Buckets 18), .int .i64 (a0.Buckets 19), .int .i64 (a0.Buckets 20), .int .i64 (a0.Buckets 21), .int .i64 (a0.Buckets 22), .int .i64 (a0.Buckets 23)]) ?_
          refine .wrL (cs := [.int .i64 a0.Limit, .sl 97 .ro (x25.map pv97), .int .i64 ((aUp a0.Counts x27 (iMin (w64 ((a0.Counts x26) + (1 : Int))) (1099511627776 : Int))) 0), .int .i64 ((aUp a0.Counts x27 (iMin (w64 ((a0.Counts x26) + (1 : Int))) (1099511627776 : Int))) 1), .int .i64 ((aUp a0.Counts x27 (iMin (w64 ((a0.Counts x26) + (1 : Int))) (1099511627776 : Int))) 2), .int .i64 ((aUp a0.Counts x27 (iMin (w64 ((a0.Counts x26) + (1 : Int))) (1099511627776 : Int))) 3), .int .i64 ((aUp a0.Counts x27 (iMin (w64 ((a0.Counts x26) + (1 : Int))) (1099511627776 : Int))) 4), .int .i64 (iMin (w64 (a0.Frames + a1.Frames)) (1099511627776 : Int)), .int .i64 (a0.Buckets 0), .int .i64 (a0.Buckets 1), .int .i64 (a0.Buckets 2), .int .i64 (a0.Buckets 3), .int .i64 (a0.Buckets 4), .int .i64 (a0.Buckets 5), .int .i64 (a0.Buckets 6), .int .i64 (a0.Buckets 7), .int .i64 (a0.Buckets 8), .int .i64 (a0.Buckets 9), .int .i64 (a0.Buckets 10), .int .i64 (a0.Buckets 11), .int .i64 (a0.Buckets 12), .int .i64 (a0.Buckets 13), .int .i64 (a0.Buckets 14), .int .i64 (a0.Buckets 15), .int .i64 (a0.Buckets 16), .int .i64 (a0.Buckets 17), .int .i64 (a0.Buckets 18), .int .i64 (a0.Buckets 19), .int .i64 (a0.Buckets 20), .int .i64 (a0.Buckets 21), .int .i64 (a0.Buckets 22), .int .i64 (a0.Buckets 23)]) ?_
          refine .assign ?_
          refine .nil ?_
          cases h
          exact .ret (fin_gen0 none)
        · subst hj19
          refine .seq ?_
          refine .seq ?_
          refine .region ?_
          refine .move ?_
          refine .val ?_
          refine .nil ?_
          refine .condT ?_
          refine .region ?_
          refine .move ?_
          refine .val (v := .agg [.int .i64 a1.Kind, .int .i64 a1.At, .int .i64 a1.Quanta, .int .i64 a1.Stream, .int .u64 a1.Device, .int .i64 a1.Frames]) ?_
          refine .litR (f := pv97) ([(⟨a1.Kind, a1.At, a1.Quanta, a1.Stream, a1.Device, a1.Frames⟩ : Glitch)] : List Glitch) ?_
          obtain ⟨x29, hx29, h⟩ := bindE h
          refine .appL (f := pv97) hx29 ?_
          refine .assign ?_
          refine .nil ?_
          refine .seq ?_
          refine .region ?_
          refine .move ?_
          refine .move ?_
          refine .lenL (f := pv97) ?_
          refine .val ?_
          refine .val ?_
          refine .val ?_
          refine .maxL ?_
          obtain ⟨x30, hx30, h⟩ := bindE h
          refine .freeze (.row 13 3) ?_
          refine .partE (f := pv97) hx30 ?_
          refine .val ?_
          refine .wrL (cs := [.int .i64 a0.Limit, .sl 97 .ro (x30.map pv97), .int .i64 (a0.Counts 0), .int .i64 (a0.Counts 1), .int .i64 (a0.Counts 2), .int .i64 (a0.Counts 3), .int .i64 (a0.Counts 4), .int .i64 a0.Frames, .int .i64 (a0.Buckets 0), .int .i64 (a0.Buckets 1), .int .i64 (a0.Buckets 2), .int .i64 (a0.Buckets 3), .int .i64 (a0.Buckets 4), .int .i64 (a0.Buckets 5), .int .i64 (a0.Buckets 6), .int .i64 (a0.Buckets 7), .int .i64 (a0.Buckets 8), .int .i64 (a0.Buckets 9), .int .i64 (a0.Buckets 10), .int .i64 (a0.Buckets 11), .int .i64 (a0.Buckets 12), .int .i64 (a0.Buckets 13), .int .i64 (a0.Buckets 14), .int .i64 (a0.Buckets 15), .int .i64 (a0.Buckets 16), .int .i64 (a0.Buckets 17), .int .i64 (a0.Buckets 18), .int .i64 (a0.Buckets 19), .int .i64 (a0.Buckets 20), .int .i64 (a0.Buckets 21), .int .i64 (a0.Buckets 22), .int .i64 (a0.Buckets 23)]) ?_
          refine .nil ?_
          refine .imp (T := St.of [(2, .ptr (.loc 0 0) 0), (3, .ptr (.loc 0 1) 0), (4, .ptr (.loc 0 2) 0)] [((.loc 0 0), [.int .i64 a0.Limit, .sl 97 .ro (x30.map pv97), .int .i64 (a0.Counts 0), .int .i64 (a0.Counts 1), .int .i64 (a0.Counts 2), .int .i64 (a0.Counts 3), .int .i64 (a0.Counts 4), .int .i64 a0.Frames, .int .i64 (a0.Buckets 0), .int .i64 (a0.Buckets 1), .int .i64 (a0.Buckets 2), .int .i64 (a0.Buckets 3), .int .i64 (a0.Buckets 4), .int .i64 (a0.Buckets 5), .int .i64 (a0.Buckets 6), .int .i64 (a0.Buckets 7), .int .i64 (a0.Buckets 8), .int .i64 (a0.Buckets 9), .int .i64 (a0.Buckets 10), .int .i64 (a0.Buckets 11), .int .i64 (a0.Buckets 12), .int .i64 (a0.Buckets 13), .int .i64 (a0.Buckets 14), .int .i64 (a0.Buckets 15), .int .i64 (a0.Buckets 16), .int .i64 (a0.Buckets 17), .int .i64 (a0.Buckets 18), .int .i64 (a0.Buckets 19), .int .i64 (a0.Buckets 20), .int .i64 (a0.Buckets 21), .int .i64 (a0.Buckets 22), .int .i64 (a0.Buckets 23)]), ((.loc 0 1), [.int .i64 a1.Kind, .int .i64 a1.At, .int .i64 a1.Quanta, .int .i64 a1.Stream, .int .u64 a1.Device, .int .i64 a1.Frames]), ((.loc 0 2), [.int .i64 0, .sl 97 .full [], .int .i64 (aZ 0), .int .i64 (aZ 1), .int .i64 (aZ 2), .int .i64 (aZ 3), .int .i64 (aZ 4), .int .i64 0, .int .i64 (aZ 0), .int .i64 (aZ 1), .int .i64 (aZ 2), .int .i64 (aZ 3), .int .i64 (aZ 4), .int .i64 (aZ 5), .int .i64 (aZ 6), .int .i64 (aZ 7), .int .i64 (aZ 8), .int .i64 (aZ 9), .int .i64 (aZ 10), .int .i64 (aZ 11), .int .i64 (aZ 12), .int .i64 (aZ 13), .int .i64 (aZ 14), .int .i64 (aZ 15), .int .i64 (aZ 16), .int .i64 (aZ 17), .int .i64 (aZ 18), .int .i64 (aZ 19), .int .i64 (aZ 20), .int .i64 (aZ 21), .int .i64 (aZ 22), .int .i64 (aZ 23)])]) (imp_of (.cons rfl (.cons rfl (.cons rfl (.nil)))) (.cons rfl (.cons rfl (.cons rfl (.nil))))) ?_
          refine .seq ?_
          obtain ⟨x31, hx31, h⟩ := bindE h
          obtain ⟨x32, hx32, h⟩ := bindE h
          refine .draw [11] [[], [], [], [], [], [], [], [], [], [], [], []] [[11], [11], [11], [11], [11], [11], [11], [11], [11], [11], [11], []] [[], [11]]
            [(0, 0), (1, 0), (2, 0), (3, 0), (4, 0), (5, 0), (6, 0), (7, 0), (8, 0), (9, 0), (10, 0)] [(0, 11, 1)] 1
            [⟨[(58, .ptr (.loc 0 1) 0), (59, .int .i64 a1.Kind), (60, .ptr (.loc 0 1) 0), (61, .int .i64 a1.Kind), (62, .ptr (.loc 0 0) 2), (63, .ptr (.loc 0 0) (2 + x31)), (64, .int .i64 (a0.Counts x31)), (65, .int .i64 (w64 ((a0.Counts x31) + (1 : Int)))), (66, .int .i64 (iMin (w64 ((a0.Counts x31) + (1 : Int))) (1099511627776 : Int))), (67, .ptr (.loc 0 0) 2), (68, .ptr (.loc 0 0) (2 + x32)), (2, .ptr (.loc 0 0) 0), (3, .ptr (.loc 0 1) 0), (4, .ptr (.loc 0 2) 0)], [], [((.loc 0 0), [.int .i64 a0.Limit, .sl 97 .ro (x30.map pv97), .int .i64 (a0.Counts 0), .int .i64 (a0.Counts 1), .int .i64 (a0.Counts 2), .int .i64 (a0.Counts 3), .int .i64 (a0.Counts 4), .int .i64 a0.Frames, .int .i64 (a0.Buckets 0), .int .i64 (a0.Buckets 1), .int .i64 (a0.Buckets 2), .int .i64 (a0.Buckets 3), .int .i64 (a0.Buckets 4), .int .i64 (a0.Buckets 5), .int .i64 (a0.Buckets 6), .int .i64 (a0.Buckets 7), .int .i64 (a0.Buckets 8), .int .i64 (a0.Buckets 9), .int .i64 (a0.Buckets 10), .int .i64 (a0.Buckets 11), .int .i64 (a0.Buckets 12), .int .i64 (a0.Buckets 13), .int .i64 (a0.Buckets 14), .int .i64 (a0.Buckets 15), .int .i64 (a0.Buckets 16), .int .i64 (a0.Buckets 17), .int .i64 (a0.Buckets 18), .int .i64 (a0.Buckets 19), .int .i64 (a0.Buckets 20), .int .i64 (a0.Buckets 21), .int .i64 (a0.Buckets 22), .int .i64 (a0.Buckets 23)]), ((.loc 0 1), [.int .i64 a1.Kind, .int .i64 a1.At, .int .i64 a1.Quanta, .int .i64 a1.Stream, .int .u64 a1.Device, .int .i64 a1.Frames]), ((.loc 0 2), [.int .i64 0, .sl 97 .full [], .int .i64 (aZ 0), .int .i64 (aZ 1), .int .i64 (aZ 2), .int .i64 (aZ 3), .int .i64 (aZ 4), .int .i64 0, .int .i64 (aZ 0), .int .i64 (aZ 1), .int .i64 (aZ 2), .int .i64 (aZ 3), .int .i64 (aZ 4), .int .i64 (aZ 5), .int .i64 (aZ 6), .int .i64 (aZ 7), .int .i64 (aZ 8), .int .i64 (aZ 9), .int .i64 (aZ 10), .int .i64 (aZ 11), .int .i64 (aZ 12), .int .i64 (aZ 13), .int .i64 (aZ 14), .int .i64 (aZ 15), .int .i64 (aZ 16), .int .i64 (aZ 17), .int .i64 (aZ 18), .int .i64 (aZ 19), .int .i64 (aZ 20), .int .i64 (aZ 21), .int .i64 (aZ 22), .int .i64 (aZ 23)])]⟩,
            ⟨[(58, .ptr (.loc 0 1) 0), (59, .int .i64 a1.Kind), (60, .ptr (.loc 0 1) 0), (61, .int .i64 a1.Kind), (62, .ptr (.loc 0 0) 2), (63, .ptr (.loc 0 0) (2 + x31)), (64, .int .i64 (a0.Counts x31)), (65, .int .i64 (w64 ((a0.Counts x31) + (1 : Int)))), (66, .int .i64 (iMin (w64 ((a0.Counts x31) + (1 : Int))) (1099511627776 : Int))), (67, .ptr (.loc 0 0) 2), (68, .ptr (.loc 0 0) (2 + x32)), (2, .ptr (.loc 0 0) 0), (3, .ptr (.loc 0 1) 0), (4, .ptr (.loc 0 2) 0)], [], [((.loc 0 0), [.int .i64 a0.Limit, .sl 97 .ro (x30.map pv97), .int .i64 ((aUp a0.Counts x32 (iMin (w64 ((a0.Counts x31) + (1 : Int))) (1099511627776 : Int))) 0), .int .i64 ((aUp a0.Counts x32 (iMin (w64 ((a0.Counts x31) + (1 : Int))) (1099511627776 : Int))) 1), .int .i64 ((aUp a0.Counts x32 (iMin (w64 ((a0.Counts x31) + (1 : Int))) (1099511627776 : Int))) 2), .int .i64 ((aUp a0.Counts x32 (iMin (w64 ((a0.Counts x31) + (1 : Int))) (1099511627776 : Int))) 3), .int .i64 ((aUp a0.Counts x32 (iMin (w64 ((a0.Counts x31) + (1 : Int))) (1099511627776 : Int))) 4), .int .i64 a0.Frames, .int .i64 (a0.Buckets 0), .int .i64 (a0.Buckets 1), .int .i64 (a0.Buckets 2), .int .i64 (a0.Buckets 3), .int .i64 (a0.Buckets 4), .int .i64 (a0.Buckets 5), .int .i64 (a0.Buckets 6), .int .i64 (a0.Buckets 7), .int .i64 (a0.Buckets 8), .int .i64 (a0.Buckets 9), .int .i64 (a0.Buckets 10), .int .i64 (a0.Buckets 11), .int .i64 (a0.Buckets 12), .int .i64 (a0.Buckets 13), .int .i64 (a0.Buckets 14), .int .i64 (a0.Buckets 15), .int .i64 (a0.Buckets 16), .int .i64 (a0.Buckets 17), .int .i64 (a0.Buckets 18), .int .i64 (a0.Buckets 19), .int .i64 (a0.Buckets 20), .int .i64 (a0.Buckets 21), .int .i64 (a0.Buckets 22), .int .i64 (a0.Buckets 23)]), ((.loc 0 1), [.int .i64 a1.Kind, .int .i64 a1.At, .int .i64 a1.Quanta, .int .i64 a1.Stream, .int .u64 a1.Device, .int .i64 a1.Frames]), ((.loc 0 2), [.int .i64 0, .sl 97 .full [], .int .i64 (aZ 0), .int .i64 (aZ 1), .int .i64 (aZ 2), .int .i64 (aZ 3), .int .i64 (aZ 4), .int .i64 0, .int .i64 (aZ 0), .int .i64 (aZ 1), .int .i64 (aZ 2), .int .i64 (aZ 3), .int .i64 (aZ 4), .int .i64 (aZ 5), .int .i64 (aZ 6), .int .i64 (aZ 7), .int .i64 (aZ 8), .int .i64 (aZ 9), .int .i64 (aZ 10), .int .i64 (aZ 11), .int .i64 (aZ 12), .int .i64 (aZ 13), .int .i64 (aZ 14), .int .i64 (aZ 15), .int .i64 (aZ 16), .int .i64 (aZ 17), .int .i64 (aZ 18), .int .i64 (aZ 19), .int .i64 (aZ 20), .int .i64 (aZ 21), .int .i64 (aZ 22), .int .i64 (aZ 23)])]⟩]
            [(2, .ptr (.loc 0 0) 0), (3, .ptr (.loc 0 1) 0), (4, .ptr (.loc 0 2) 0)]
            (.cons [3] [] (fun _ _ h => .val (h _)) rfl rfl <|
            .cons [58] [] (fun _ _ h => .val (h _)) rfl rfl <|
            .cons [3] [] (fun _ _ h => .val (h _)) rfl rfl <|
            .cons [60] [] (fun _ _ h => .val (h _)) rfl rfl <|
            .cons [2] [] (fun _ _ h => .val (h _)) rfl rfl <|
            .cons [62, 61] [] (fun _ _ h => .idxA hx31 (h _)) rfl rfl <|
            .cons [63] [] (fun _ _ h => .ldA hx31 (A := a0.Counts) (h _)) rfl rfl <|
            .cons [64] [] (fun _ _ h => .val (h _)) rfl rfl <|
            .cons [65] [] (fun _ _ h => .minL (h _)) rfl rfl <|
            .cons [2] [] (fun _ _ h => .val (h _)) rfl rfl <|
            .cons [67, 59] [] (fun _ _ h => .idxA hx32 (h _)) rfl rfl <|
            .nil)
            (.cons (fun x => x) [68, 66] [] (fun _ _ h => .stA hx32 (A := a0.Counts) (cs' := [.int .i64 a0.Limit, .sl 97 .ro (x30.map pv97), .int .i64 ((aUp a0.Counts x32 (iMin (w64 ((a0.Counts x31) + (1 : Int))) (1099511627776 : Int))) 0), .int .i64 ((aUp a0.Counts x32 (iMin (w64 ((a0.Counts x31) + (1 : Int))) (1099511627776 : Int))) 1), .int .i64 ((aUp a0.Counts x32 (iMin (w64 ((a0.Counts x31) + (1 : Int))) (1099511627776 : Int))) 2), .int .i64 ((aUp a0.Counts x32 (iMin (w64 ((a0.Counts x31) + (1 : Int))) (1099511627776 : Int))) 3), .int .i64 ((aUp a0.Counts x32 (iMin (w64 ((a0.Counts x31) + (1 : Int))) (1099511627776 : Int))) 4), .int .i64 a0.Frames, .int .i64 (a0.Buckets 0), .int .i64 (a0.Buckets 1), .int .i64 (a0.Buckets 2), .int .i64 (a0.Buckets 3), .int .i64 (a0.Buckets 4), .int .i64 (a0.Buckets 5), .int .i64 (a0.Buckets 6), .int .i64 (a0.Buckets 7), .int .i64 (a0.Buckets 8), .int .i64 (a0.Buckets 9), .int .i64 (a0.Buckets 10), .int .i64 (a0.Buckets 11), .int .i64 (a0.Buckets 12), .int .i64 (a0.Buckets 13), .int .i64 (a0.Buckets 14), .int .i64 (a0.Buckets 15), .int .i64 (a0.Buckets 16), .int .i64 (a0.Buckets 17), .int .i64 (a0.Buckets 18), .int .i64 (a0.Buckets 19), .int .i64 (a0.Buckets 20), .int .i64 (a0.Buckets 21), .int .i64 (a0.Buckets 22), .int .i64 (a0.Buckets 23)]) (h _ _ (.cons rfl (.cons rfl (.cons rfl (.nil)))))) rfl (.old rfl (.old rfl (.old rfl (.old rfl (.old rfl (.old rfl (.old rfl (.old rfl (.old rfl (.old rfl (.old rfl (.old rfl (.old rfl (.old rfl (.nil))))))))))))))) rfl rfl <|
            .nil)
            (by kernel_rfl) rfl (.cons rfl (.cons rfl (.cons rfl (.nil)))) (.nil) (.cons rfl (.cons rfl (.cons rfl (.nil)))) ?_
          refine .imp (T := St.of [(2, .ptr (.loc 0 0) 0), (3, .ptr (.loc 0 1) 0), (4, .ptr (.loc 0 2) 0)] [((.loc 0 0), [.int .i64 a0.Limit, .sl 97 .ro (x30.map pv97), .int .i64 ((aUp a0.Counts x32 (iMin (w64 ((a0.Counts x31) + (1 : Int))) (1099511627776 : Int))) 0), .int .i64 ((aUp a0.Counts x32 (iMin (w64 ((a0.Counts x31) + (1 : Int))) (1099511627776 : Int))) 1), .int .i64 ((aUp a0.Counts x32 (iMin (w64 ((a0.Counts x31) + (1 : Int))) (1099511627776 : Int))) 2), .int .i64 ((aUp a0.Counts x32 (iMin (w64 ((a0.Counts x31) + (1 : Int))) (1099511627776 : Int))) 3), .int .i64 ((aUp a0.Counts x32 (iMin (w64 ((a0.Counts x31) + (1 : Int))) (1099511627776 : Int))) 4), .int .i64 a0.Frames, .int .i64 (a0.Buckets 0), .int .i64 (a0.Buckets 1), .int .i64 (a0.Buckets 2), .int .i64 (a0.Buckets 3), .int .i64 (a0.Buckets 4), .int .i64 (a0.Buckets 5), .int .i64 (a0.Buckets 6), .int .i64 (a0.Buckets 7), .int .i64 (a0.Buckets 8), .int .i64 (a0.Buckets 9), .int .i64 (a0.Buckets 10), .int .i64 (a0.Buckets 11), .int .i64 (a0.Buckets 12), .int .i64 (a0.Buckets 13), .int .i64 (a0.Buckets 14), .int .i64 (a0.Buckets 15), .int .i64 (a0.Buckets 16), .int .i64 (a0.Buckets 17), .int .i64 (a0.Buckets 18), .int .i64 (a0.Buckets 19), .int .i64 (a0.Buckets 20), .int .i64 (a0.Buckets 21), .int .i64 (a0.Buckets 22), .int .i64 (a0.Buckets 23)]), ((.loc 0 1), [.int .i64 a1.Kind, .int .i64 a1.At, .int .i64 a1.Quanta, .int .i64 a1.Stream, .int .u64 a1.Device, .int .i64 a1.Frames]), ((.loc 0 2), [.int .i64 0, .sl 97 .full [], .int .i64 (aZ 0), .int .i64 (aZ 1), .int .i64 (aZ 2), .int .i64 (aZ 3), .int .i64 (aZ 4), .int .i64 0, .int .i64 (aZ 0), .int .i64 (aZ 1), .int .i64 (aZ 2), .int .i64 (aZ 3), .int .i64 (aZ 4), .int .i64 (aZ 5), .int .i64 (aZ 6), .int .i64 (aZ 7), .int .i64 (aZ 8), .int .i64 (aZ 9), .int .i64 (aZ 10), .int .i64 (aZ 11), .int .i64 (aZ 12), .int .i64 (aZ 13), .int .i64 (aZ 14), .int .i64 (aZ 15), .int .i64 (aZ 16), .int .i64 (aZ 17), .int .i64 (aZ 18), .int .i64 (aZ 19), .int .i64 (aZ 20), .int .i64 (aZ 21), .int .i64 (aZ 22), .int .i64 (aZ 23)])]) (imp_of (.cons rfl (.cons rfl (.cons rfl (.nil)))) (.cons rfl (.cons rfl (.cons rfl (.nil))))) ?_
          refine .seq ?_
          refine .region ?_
          refine .val ?_
          refine .val ?_
          refine .val ?_
          refine .val ?_
          refine .val ?_
          refine .minL ?_
          refine .val ?_
          refine .wrL (cs := [.int .i64 a0.Limit, .sl 97 .ro (x30.map pv97), .int .i64 ((aUp a0.Counts x32 (iMin (w64 ((a0.Counts x31) + (1 : Int))) (1099511627776 : Int))) 0), .int .i64 ((aUp a0.Counts x32 (iMin (w64 ((a0.Counts x31) + (1 : Int))) (1099511627776 : Int))) 1), .int .i64 ((aUp a0.Counts x32 (iMin (w64 ((a0.Counts x31) + (1 : Int))) (1099511627776 : Int))) 2), .int .i64 ((aUp a0.Counts x32 (iMin (w64 ((a0.Counts x31) + (1 : Int))) (1099511627776 : Int))) 3), .int .i64 ((aUp a0.Counts x32 (iMin (w64 ((a0.Counts x31) + (1 : Int))) (1099511627776 : Int))) 4), .int .i64 (iMin (w64 (a0.Frames + a1.Frames)) (1099511627776 : Int)), .int .i64 (a0.Buckets 0), .int .i64 (a0.Buckets 1), .int .i64 (a0.Buckets 2), .int .i64 (a0.Buckets 3), .int .i64 (a0.Buckets 4), .int .i64 (a0.Buckets 5), .int .i64 (a0.Buckets 6), .int .i64 (a0.Buckets 7), .int .i64 (a0.Buckets 8), .int .i64 (a0.Buckets 9), .int .i64 (a0.Buckets 10), .int .i64 (a0.Buckets 11), .int .i64 (a0.Buckets 12), .int .i64 (a0.Buckets 13), .int .i64 (a0.Buckets 14), .int .i64 (a0.Buckets 15), .int .i64 (a0.Buckets 16), .int .i64 (a0.Buckets 17), .int .i64 (a0.Buckets 18), .int .i64 (a0.Buckets 19), .int .i64 (a0.Buckets 20), .int .i64 (a0.Buckets 21), .int .i64 (a0.Buckets 22), .int .i64 (a0.Buckets 23)]) ?_
          refine .nil ?_
          refine .seq ?_
          refine .region ?_
          refine .val (v := .agg [.int .i64 a0.Limit, .sl 97 .ro (x30.map pv97), .int .i64 ((aUp a0.Counts x32 (iMin (w64 ((a0.Counts x31) + (1 : Int))) (1099511627776 : Int))) 0), .int .i64 ((aUp a0.Counts x32 (iMin (w64 ((a0.Counts x31) + (1 : Int))) (1099511627776 : Int))) 1), .int .i64 ((aUp a0.Counts x32 (iMin (w64 ((a0.Counts x31) + (1 : Int))) (1099511627776 : Int))) 2), .int .i64 ((aUp a0.Counts x32 (iMin (w64 ((a0.Counts x31) + (1 : Int))) (1099511627776 : Int))) 3), .int .i64 ((aUp a0.Counts x32 (iMin (w64 ((a0.Counts x31) + (1 : Int))) (1099511627776 : Int))) 4), .int .i64 (iMin (w64 (a0.Frames + a1.Frames)) (1099511627776 : Int)), .int .i64 (a0.Buckets 0), .int .i64 (a0.Buckets 1), .int .i64 (a0.Buckets 2), .int .i64 (a0.Buckets 3), .int .i64 (a0.Buckets 4), .int .i64 (a0.Buckets 5), .int .i64 (a0.Buckets 6), .int .i64 (a0.Buckets 7), .int .i64 (a0.Buckets 8), .int .i64 (a0.Buckets 9), .int .i64 (a0.Buckets 10), .int .i64 (a0.Buckets 11), .int .i64 (a0.Buckets 12), .int .i64 (a0.Buckets 13), .int .i64 (a0.Buckets 14), .int .i64 (a0.Buckets 15), .int .i64 (a0.Buckets 16), .int .i64 (a0.Buckets 17), .int .i64 (a0.Buckets 18), .int .i64 (a0.Buckets 19), .int .i64 (a0.Buckets 20), .int .i64 (a0.Buckets 21), .int .i64 (a0.Buckets 22), .int .i64 (a0.Buckets 23)]) ?_
          refine .wrL (cs := [.int .i64 a0.Limit, .sl 97 .ro (x30.map pv97), .int .i64 ((aUp a0.Counts x32 (iMin (w64 ((a0.Counts x31) + (1 : Int))) (1099511627776 : Int))) 0), .int .i64 ((aUp a0.Counts x32 (iMin (w64 ((a0.Counts x31) + (1 : Int))) (1099511627776 : Int))) 1), .int .i64 ((aUp a0.Counts x32 (iMin (w64 ((a0.Counts x31) + (1 : Int))) (1099511627776 : Int))) 2), .int .i64 ((aUp a0.Counts x32 (iMin (w64 ((a0.Counts x31) + (1 : Int))) (1099511627776 : Int))) 3), .int .i64 ((aUp a0.Counts x32 (iMin (w64 ((a0.Counts x31) + (1 : Int))) (1099511627776 : Int))) 4), .int .i64 (iMin (w64 (a0.Frames + a1.Frames)) (1099511627776 : Int)), .int .i64 (a0.Buckets 0), .int .i64 (a0.Buckets 1), .int .i64 (a0.Buckets 2), .int .i64 (a0.Buckets 3), .int .i64 (a0.Buckets 4), .int .i64 (a0.Buckets 5), .int .i64 (a0.Buckets 6), .int .i64 (a0.Buckets 7), .int .i64 (a0.Buckets 8), .int .i64 (a0.Buckets 9), .int .i64 (a0.Buckets 10), .int .i64 (a0.Buckets 11), .int .i64 (a0.Buckets 12), .int .i64 (a0.Buckets 13), .int .i64 (a0.Buckets 14), .int .i64 (a0.Buckets 15), .int .i64 (a0.Buckets 16), .int .i64 (a0.Buckets 17), .int .i64 (a0.Buckets 18), .int .i64 (a0.Buckets 19), .int .i64 (a0.Buckets 20), .int .i64 (a0.Buckets 21), .int .i64 (a0.Buckets 22), .int .i64 (a0.Buckets 23)]) ?_
          refine .assign ?_
          refine .nil ?_
          cases h
          exact .ret (fin_gen0 none)

/- soundservice/soundservicelaw38.made -/
def f51_l1 (n : Nat) (j71 : Int → (List Glitch) → (Nat → Int) → Int → (Nat → Int) → Option Recorder) : Nat → (List Int) → Int → Int → (List Glitch) → (Nat → Int) → Int → (Nat → Int) → Int → Option Recorder
  | 0, _, _, _, _, _, _, _, _ => none
  | m119 + 1, v88, v89, v90, v91, v92, v93, v94, v95 =>
    if decide (v95 > (0 : Int)) then (
    joinK (fun (v128 : (List Int)) (v129 : Int) (v130 : Int) (v131 : (List Glitch)) (v132 : (Nat → Int)) (v133 : Int) (v134 : (Nat → Int)) =>
    f51_l1 n j71 m119 v128 v129 v130 v131 v132 v133 v134 (w64 (v95 - (1 : Int)))) fun j135 =>
    (f79 n (⟨v88, v89⟩ : Deck) (3 : Int)).bind fun y136 =>
    if (y136.1 == (0 : Int)) then (
    (f79 n (⟨y136.2.L, y136.2.At⟩ : Deck) (5000 : Int)).bind fun y138 =>
    (f66 n (⟨v90, v91, v92, v93, v94⟩ : Recorder) y138.1).bind fun y139 =>
    j135 y138.2.L y138.2.At y139.1.Limit y139.1.Last y139.1.Counts y139.1.Frames y139.1.Buckets)
    else (
    (f62 n (⟨y136.2.L, y136.2.At⟩ : Deck)).bind fun y140 =>
    (f64 n (⟨v90, v91, v92, v93, v94⟩ : Recorder) y140.1).bind fun y141 =>
    j135 y140.2.L y140.2.At y141.1.Limit y141.1.Last y141.1.Counts y141.1.Frames y141.1.Buckets))
    else (
    j71 v90 v91 v92 v93 v94)
def f51 (n : Nat) (a0 : (List Int)) : Option Recorder :=
  (f42 n a0).bind fun y1 =>
  (f94 n (⟨y1.L, y1.At⟩ : Deck) (1 : Int) (5 : Int)).bind fun y2 =>
  (f67 n y2.1).bind fun y3 =>
  joinK (fun (v66 : Int) (v67 : (List Glitch)) (v68 : (Nat → Int)) (v69 : Int) (v70 : (Nat → Int)) =>
  some (⟨v66, v67, v68, v69, v70⟩ : Recorder)) fun j71 =>
  (f79 n (⟨y2.2.L, y2.2.At⟩ : Deck) (14 : Int)).bind fun y72 =>
  f51_l1 n j71 n y72.2.L y72.2.At y3.1.Limit y3.1.Last y3.1.Counts y3.1.Frames y3.1.Buckets y72.1
set_option maxHeartbeats 4000000 in
set_option maxRecDepth 100000 in
theorem g51 {n : Nat} {a0 : (List Int)} {r : Recorder} (h : f51 n a0 = some r) :
    Ab.Can Try.prog 51 [.sl 3 .ro (a0.map (PV.int .i64))] H0 (.agg [.int .i64 r.Limit, .sl 97 .ro (r.Last.map pv97), .int .i64 (r.Counts 0), .int .i64 (r.Counts 1), .int .i64 (r.Counts 2), .int .i64 (r.Counts 3), .int .i64 (r.Counts 4), .int .i64 r.Frames, .int .i64 (r.Buckets 0), .int .i64 (r.Buckets 1), .int .i64 (r.Buckets 2), .int .i64 (r.Buckets 3), .int .i64 (r.Buckets 4), .int .i64 (r.Buckets 5), .int .i64 (r.Buckets 6), .int .i64 (r.Buckets 7), .int .i64 (r.Buckets 8), .int .i64 (r.Buckets 9), .int .i64 (r.Buckets 10), .int .i64 (r.Buckets 11), .int .i64 (r.Buckets 12), .int .i64 (r.Buckets 13), .int .i64 (r.Buckets 14), .int .i64 (r.Buckets 15), .int .i64 (r.Buckets 16), .int .i64 (r.Buckets 17), .int .i64 (r.Buckets 18), .int .i64 (r.Buckets 19), .int .i64 (r.Buckets 20), .int .i64 (r.Buckets 21), .int .i64 (r.Buckets 22), .int .i64 (r.Buckets 23)]) H0 := by
  refine can_of tabOK mix Try.call51 Try.func51 rfl (by kernel_rfl) (by show _ ≤ 39; simp) fun _ => ?_
  rw [f51] at h
  refine .seq ?_
  refine .region ?_
  refine .allocL (cs := [.int .i64 0, .sl 97 .full [], .int .i64 (aZ 0), .int .i64 (aZ 1), .int .i64 (aZ 2), .int .i64 (aZ 3), .int .i64 (aZ 4), .int .i64 0, .int .i64 (aZ 0), .int .i64 (aZ 1), .int .i64 (aZ 2), .int .i64 (aZ 3), .int .i64 (aZ 4), .int .i64 (aZ 5), .int .i64 (aZ 6), .int .i64 (aZ 7), .int .i64 (aZ 8), .int .i64 (aZ 9), .int .i64 (aZ 10), .int .i64 (aZ 11), .int .i64 (aZ 12), .int .i64 (aZ 13), .int .i64 (aZ 14), .int .i64 (aZ 15), .int .i64 (aZ 16), .int .i64 (aZ 17), .int .i64 (aZ 18), .int .i64 (aZ 19), .int .i64 (aZ 20), .int .i64 (aZ 21), .int .i64 (aZ 22), .int .i64 (aZ 23)]) ?_
  refine .nil ?_
  refine .seq ?_
  refine .region ?_
  refine .move ?_
  obtain ⟨y1, hy1, h⟩ := bindE h
  refine .cB (.loc 1 1) (g42 hy1) ?_
  refine .assign ?_
  refine .nil ?_
  refine .seq ?_
  refine .region ?_
  refine .move ?_
  obtain ⟨y2, hy2, h⟩ := bindE h
  refine .cH (.loc 1 1) (g94 hy2) ?_
  obtain ⟨y3, hy3, h⟩ := bindE h
  refine .cP (g67 hy3) ?_
  refine .move ?_
  refine .val ?_
  refine .val ?_
  refine .allocL (cs := [.int .i64 0, .sl 97 .full [], .int .i64 (aZ 0), .int .i64 (aZ 1), .int .i64 (aZ 2), .int .i64 (aZ 3), .int .i64 (aZ 4), .int .i64 0, .int .i64 (aZ 0), .int .i64 (aZ 1), .int .i64 (aZ 2), .int .i64 (aZ 3), .int .i64 (aZ 4), .int .i64 (aZ 5), .int .i64 (aZ 6), .int .i64 (aZ 7), .int .i64 (aZ 8), .int .i64 (aZ 9), .int .i64 (aZ 10), .int .i64 (aZ 11), .int .i64 (aZ 12), .int .i64 (aZ 13), .int .i64 (aZ 14), .int .i64 (aZ 15), .int .i64 (aZ 16), .int .i64 (aZ 17), .int .i64 (aZ 18), .int .i64 (aZ 19), .int .i64 (aZ 20), .int .i64 (aZ 21), .int .i64 (aZ 22), .int .i64 (aZ 23)]) ?_
  refine .wrL (cs := [.int .i64 y3.1.Limit, .sl 97 .ro (y3.1.Last.map pv97), .int .i64 (y3.1.Counts 0), .int .i64 (y3.1.Counts 1), .int .i64 (y3.1.Counts 2), .int .i64 (y3.1.Counts 3), .int .i64 (y3.1.Counts 4), .int .i64 y3.1.Frames, .int .i64 (y3.1.Buckets 0), .int .i64 (y3.1.Buckets 1), .int .i64 (y3.1.Buckets 2), .int .i64 (y3.1.Buckets 3), .int .i64 (y3.1.Buckets 4), .int .i64 (y3.1.Buckets 5), .int .i64 (y3.1.Buckets 6), .int .i64 (y3.1.Buckets 7), .int .i64 (y3.1.Buckets 8), .int .i64 (y3.1.Buckets 9), .int .i64 (y3.1.Buckets 10), .int .i64 (y3.1.Buckets 11), .int .i64 (y3.1.Buckets 12), .int .i64 (y3.1.Buckets 13), .int .i64 (y3.1.Buckets 14), .int .i64 (y3.1.Buckets 15), .int .i64 (y3.1.Buckets 16), .int .i64 (y3.1.Buckets 17), .int .i64 (y3.1.Buckets 18), .int .i64 (y3.1.Buckets 19), .int .i64 (y3.1.Buckets 20), .int .i64 (y3.1.Buckets 21), .int .i64 (y3.1.Buckets 22), .int .i64 (y3.1.Buckets 23)]) ?_
  refine .assign ?_
  refine .nil ?_
  obtain ⟨j71, hj71, h⟩ := joinE h
  refine .cutI (fun T => (∃ (v66 : Int) (v67 : (List Glitch)) (v68 : (Nat → Int)) (v69 : Int) (v70 : (Nat → Int)), T = St.of [(2, .ptr (.loc 0 0) 0), (4, .ptr (.loc 2 6) 0)] [((.loc 0 0), [.int .i64 0, .sl 97 .full [], .int .i64 (aZ 0), .int .i64 (aZ 1), .int .i64 (aZ 2), .int .i64 (aZ 3), .int .i64 (aZ 4), .int .i64 0, .int .i64 (aZ 0), .int .i64 (aZ 1), .int .i64 (aZ 2), .int .i64 (aZ 3), .int .i64 (aZ 4), .int .i64 (aZ 5), .int .i64 (aZ 6), .int .i64 (aZ 7), .int .i64 (aZ 8), .int .i64 (aZ 9), .int .i64 (aZ 10), .int .i64 (aZ 11), .int .i64 (aZ 12), .int .i64 (aZ 13), .int .i64 (aZ 14), .int .i64 (aZ 15), .int .i64 (aZ 16), .int .i64 (aZ 17), .int .i64 (aZ 18), .int .i64 (aZ 19), .int .i64 (aZ 20), .int .i64 (aZ 21), .int .i64 (aZ 22), .int .i64 (aZ 23)]), ((.loc 2 6), [.int .i64 v66, .sl 97 .ro (v67.map pv97), .int .i64 (v68 0), .int .i64 (v68 1), .int .i64 (v68 2), .int .i64 (v68 3), .int .i64 (v68 4), .int .i64 v69, .int .i64 (v70 0), .int .i64 (v70 1), .int .i64 (v70 2), .int .i64 (v70 3), .int .i64 (v70 4), .int .i64 (v70 5), .int .i64 (v70 6), .int .i64 (v70 7), .int .i64 (v70 8), .int .i64 (v70 9), .int .i64 (v70 10), .int .i64 (v70 11), .int .i64 (v70 12), .int .i64 (v70 13), .int .i64 (v70 14), .int .i64 (v70 15), .int .i64 (v70 16), .int .i64 (v70 17), .int .i64 (v70 18), .int .i64 (v70 19), .int .i64 (v70 20), .int .i64 (v70 21), .int .i64 (v70 22), .int .i64 (v70 23)])] ∧ j71 v66 v67 v68 v69 v70 = some r)) ?_ ?_
  · refine .seq ?_
    refine .region ?_
    refine .move ?_
    obtain ⟨y72, hy72, h⟩ := bindE h
    refine .cH (.loc 1 1) (g79 hy72) ?_
    refine .assign ?_
    refine .nil ?_
    refine .block ?_
    refine .loopI (fun m T => ∃ (v88 : (List Int)) (v89 : Int) (v90 : Int) (v91 : (List Glitch)) (v92 : (Nat → Int)) (v93 : Int) (v94 : (Nat → Int)) (v95 : Int), T = St.of [(2, .ptr (.loc 0 0) 0), (3, .ptr (.loc 1 1) 0), (4, .ptr (.loc 2 6) 0), (6, .int .i64 v95)] [((.loc 0 0), [.int .i64 0, .sl 97 .full [], .int .i64 (aZ 0), .int .i64 (aZ 1), .int .i64 (aZ 2), .int .i64 (aZ 3), .int .i64 (aZ 4), .int .i64 0, .int .i64 (aZ 0), .int .i64 (aZ 1), .int .i64 (aZ 2), .int .i64 (aZ 3), .int .i64 (aZ 4), .int .i64 (aZ 5), .int .i64 (aZ 6), .int .i64 (aZ 7), .int .i64 (aZ 8), .int .i64 (aZ 9), .int .i64 (aZ 10), .int .i64 (aZ 11), .int .i64 (aZ 12), .int .i64 (aZ 13), .int .i64 (aZ 14), .int .i64 (aZ 15), .int .i64 (aZ 16), .int .i64 (aZ 17), .int .i64 (aZ 18), .int .i64 (aZ 19), .int .i64 (aZ 20), .int .i64 (aZ 21), .int .i64 (aZ 22), .int .i64 (aZ 23)]), ((.loc 1 1), [.sl 3 .ro (v88.map (PV.int .i64)), .int .i64 v89]), ((.loc 2 6), [.int .i64 v90, .sl 97 .ro (v91.map pv97), .int .i64 (v92 0), .int .i64 (v92 1), .int .i64 (v92 2), .int .i64 (v92 3), .int .i64 (v92 4), .int .i64 v93, .int .i64 (v94 0), .int .i64 (v94 1), .int .i64 (v94 2), .int .i64 (v94 3), .int .i64 (v94 4), .int .i64 (v94 5), .int .i64 (v94 6), .int .i64 (v94 7), .int .i64 (v94 8), .int .i64 (v94 9), .int .i64 (v94 10), .int .i64 (v94 11), .int .i64 (v94 12), .int .i64 (v94 13), .int .i64 (v94 14), .int .i64 (v94 15), .int .i64 (v94 16), .int .i64 (v94 17), .int .i64 (v94 18), .int .i64 (v94 19), .int .i64 (v94 20), .int .i64 (v94 21), .int .i64 (v94 22), .int .i64 (v94 23)])] ∧ f51_l1 n j71 m v88 v89 v90 v91 v92 v93 v94 v95 = some r) _ _ ⟨_, _, _, _, _, _, _, _, rfl, h⟩ (imp_of (.cons rfl (.cons rfl (.cons rfl (.cons rfl (.nil))))) (.cons rfl (.cons rfl (.cons rfl (.nil))))) ?_
    rintro m119 T ⟨v88, v89, v90, v91, v92, v93, v94, v95, rfl, h⟩
    obtain _ | m119 := m119
    · rw [f51_l1] at h; cases h
    rw [f51_l1] at h
    refine .seq ?_
    refine .seq ?_
    refine .region ?_
    refine .move ?_
    refine .val ?_
    refine .nil ?_
    refine .cond (fun hc121 => ?_) (fun hc121 => ?_)
    · replace h := (if_pos hc121).symm.trans h
      refine .skip ?_
      obtain ⟨j135, hj135, h⟩ := joinE h
      refine .cutI (fun T => (∃ (v128 : (List Int)) (v129 : Int) (v130 : Int) (v131 : (List Glitch)) (v132 : (Nat → Int)) (v133 : Int) (v134 : (Nat → Int)), T = St.of [(2, .ptr (.loc 0 0) 0), (3, .ptr (.loc 1 1) 0), (4, .ptr (.loc 2 6) 0), (6, .int .i64 v95)] [((.loc 0 0), [.int .i64 0, .sl 97 .full [], .int .i64 (aZ 0), .int .i64 (aZ 1), .int .i64 (aZ 2), .int .i64 (aZ 3), .int .i64 (aZ 4), .int .i64 0, .int .i64 (aZ 0), .int .i64 (aZ 1), .int .i64 (aZ 2), .int .i64 (aZ 3), .int .i64 (aZ 4), .int .i64 (aZ 5), .int .i64 (aZ 6), .int .i64 (aZ 7), .int .i64 (aZ 8), .int .i64 (aZ 9), .int .i64 (aZ 10), .int .i64 (aZ 11), .int .i64 (aZ 12), .int .i64 (aZ 13), .int .i64 (aZ 14), .int .i64 (aZ 15), .int .i64 (aZ 16), .int .i64 (aZ 17), .int .i64 (aZ 18), .int .i64 (aZ 19), .int .i64 (aZ 20), .int .i64 (aZ 21), .int .i64 (aZ 22), .int .i64 (aZ 23)]), ((.loc 1 1), [.sl 3 .ro (v128.map (PV.int .i64)), .int .i64 v129]), ((.loc 2 6), [.int .i64 v130, .sl 97 .ro (v131.map pv97), .int .i64 (v132 0), .int .i64 (v132 1), .int .i64 (v132 2), .int .i64 (v132 3), .int .i64 (v132 4), .int .i64 v133, .int .i64 (v134 0), .int .i64 (v134 1), .int .i64 (v134 2), .int .i64 (v134 3), .int .i64 (v134 4), .int .i64 (v134 5), .int .i64 (v134 6), .int .i64 (v134 7), .int .i64 (v134 8), .int .i64 (v134 9), .int .i64 (v134 10), .int .i64 (v134 11), .int .i64 (v134 12), .int .i64 (v134 13), .int .i64 (v134 14), .int .i64 (v134 15), .int .i64 (v134 16), .int .i64 (v134 17), .int .i64 (v134 18), .int .i64 (v134 19), .int .i64 (v134 20), .int .i64 (v134 21), .int .i64 (v134 22), .int .i64 (v134 23)])] ∧ j135 v128 v129 v130 v131 v132 v133 v134 = some r)) ?_ ?_
      · refine .block ?_
        refine .seq ?_
        refine .region ?_
        refine .move ?_
        obtain ⟨y136, hy136, h⟩ := bindE h
        refine .cH (.loc 1 1) (g79 hy136) ?_
        refine .val ?_
        refine .nil ?_
        refine .cond (fun hc137 => ?_) (fun hc137 => ?_)
        · replace h := (if_pos hc137).symm.trans h
          obtain ⟨y138, hy138, h⟩ := bindE h
          obtain ⟨y139, hy139, h⟩ := bindE h
          refine .draw [2, 7] [[], [], [], [2], [2], [2], [2], [2]] [[7], [2, 7], [7], [7], [7], [7], [], []] [[], [2], [2, 7]]
            [(0, 0), (0, 1), (1, 0), (3, 1), (4, 1), (5, 1), (6, 1), (6, 2)] [(0, 2, 1), (1, 7, 2)] 2
            [⟨[(25, .agg [.int .i64 v90, .sl 97 .ro (v91.map pv97), .int .i64 (v92 0), .int .i64 (v92 1), .int .i64 (v92 2), .int .i64 (v92 3), .int .i64 (v92 4), .int .i64 v93, .int .i64 (v94 0), .int .i64 (v94 1), .int .i64 (v94 2), .int .i64 (v94 3), .int .i64 (v94 4), .int .i64 (v94 5), .int .i64 (v94 6), .int .i64 (v94 7), .int .i64 (v94 8), .int .i64 (v94 9), .int .i64 (v94 10), .int .i64 (v94 11), .int .i64 (v94 12), .int .i64 (v94 13), .int .i64 (v94 14), .int .i64 (v94 15), .int .i64 (v94 16), .int .i64 (v94 17), .int .i64 (v94 18), .int .i64 (v94 19), .int .i64 (v94 20), .int .i64 (v94 21), .int .i64 (v94 22), .int .i64 (v94 23)]), (26, .ptr (.loc 1 1) 0), (2, .ptr (.loc 0 0) 0), (3, .ptr (.loc 1 1) 0), (4, .ptr (.loc 2 6) 0), (6, .int .i64 v95)], [], [((.loc 0 0), [.int .i64 0, .sl 97 .full [], .int .i64 (aZ 0), .int .i64 (aZ 1), .int .i64 (aZ 2), .int .i64 (aZ 3), .int .i64 (aZ 4), .int .i64 0, .int .i64 (aZ 0), .int .i64 (aZ 1), .int .i64 (aZ 2), .int .i64 (aZ 3), .int .i64 (aZ 4), .int .i64 (aZ 5), .int .i64 (aZ 6), .int .i64 (aZ 7), .int .i64 (aZ 8), .int .i64 (aZ 9), .int .i64 (aZ 10), .int .i64 (aZ 11), .int .i64 (aZ 12), .int .i64 (aZ 13), .int .i64 (aZ 14), .int .i64 (aZ 15), .int .i64 (aZ 16), .int .i64 (aZ 17), .int .i64 (aZ 18), .int .i64 (aZ 19), .int .i64 (aZ 20), .int .i64 (aZ 21), .int .i64 (aZ 22), .int .i64 (aZ 23)]), ((.loc 1 1), [.sl 3 .ro (y136.2.L.map (PV.int .i64)), .int .i64 y136.2.At]), ((.loc 2 6), [.int .i64 v90, .sl 97 .ro (v91.map pv97), .int .i64 (v92 0), .int .i64 (v92 1), .int .i64 (v92 2), .int .i64 (v92 3), .int .i64 (v92 4), .int .i64 v93, .int .i64 (v94 0), .int .i64 (v94 1), .int .i64 (v94 2), .int .i64 (v94 3), .int .i64 (v94 4), .int .i64 (v94 5), .int .i64 (v94 6), .int .i64 (v94 7), .int .i64 (v94 8), .int .i64 (v94 9), .int .i64 (v94 10), .int .i64 (v94 11), .int .i64 (v94 12), .int .i64 (v94 13), .int .i64 (v94 14), .int .i64 (v94 15), .int .i64 (v94 16), .int .i64 (v94 17), .int .i64 (v94 18), .int .i64 (v94 19), .int .i64 (v94 20), .int .i64 (v94 21), .int .i64 (v94 22), .int .i64 (v94 23)])]⟩,
            ⟨[(25, .agg [.int .i64 v90, .sl 97 .ro (v91.map pv97), .int .i64 (v92 0), .int .i64 (v92 1), .int .i64 (v92 2), .int .i64 (v92 3), .int .i64 (v92 4), .int .i64 v93, .int .i64 (v94 0), .int .i64 (v94 1), .int .i64 (v94 2), .int .i64 (v94 3), .int .i64 (v94 4), .int .i64 (v94 5), .int .i64 (v94 6), .int .i64 (v94 7), .int .i64 (v94 8), .int .i64 (v94 9), .int .i64 (v94 10), .int .i64 (v94 11), .int .i64 (v94 12), .int .i64 (v94 13), .int .i64 (v94 14), .int .i64 (v94 15), .int .i64 (v94 16), .int .i64 (v94 17), .int .i64 (v94 18), .int .i64 (v94 19), .int .i64 (v94 20), .int .i64 (v94 21), .int .i64 (v94 22), .int .i64 (v94 23)]), (26, .ptr (.loc 1 1) 0), (27, .int .i64 y138.1), (28, .tup [.agg [.int .i64 y139.1.Limit, .sl 97 .ro (y139.1.Last.map pv97), .int .i64 (y139.1.Counts 0), .int .i64 (y139.1.Counts 1), .int .i64 (y139.1.Counts 2), .int .i64 (y139.1.Counts 3), .int .i64 (y139.1.Counts 4), .int .i64 y139.1.Frames, .int .i64 (y139.1.Buckets 0), .int .i64 (y139.1.Buckets 1), .int .i64 (y139.1.Buckets 2), .int .i64 (y139.1.Buckets 3), .int .i64 (y139.1.Buckets 4), .int .i64 (y139.1.Buckets 5), .int .i64 (y139.1.Buckets 6), .int .i64 (y139.1.Buckets 7), .int .i64 (y139.1.Buckets 8), .int .i64 (y139.1.Buckets 9), .int .i64 (y139.1.Buckets 10), .int .i64 (y139.1.Buckets 11), .int .i64 (y139.1.Buckets 12), .int .i64 (y139.1.Buckets 13), .int .i64 (y139.1.Buckets 14), .int .i64 (y139.1.Buckets 15), .int .i64 (y139.1.Buckets 16), .int .i64 (y139.1.Buckets 17), .int .i64 (y139.1.Buckets 18), .int .i64 (y139.1.Buckets 19), .int .i64 (y139.1.Buckets 20), .int .i64 (y139.1.Buckets 21), .int .i64 (y139.1.Buckets 22), .int .i64 (y139.1.Buckets 23)], .int .i64 y139.2]), (24, .tup [.agg [.int .i64 y139.1.Limit, .sl 97 .ro (y139.1.Last.map pv97), .int .i64 (y139.1.Counts 0), .int .i64 (y139.1.Counts 1), .int .i64 (y139.1.Counts 2), .int .i64 (y139.1.Counts 3), .int .i64 (y139.1.Counts 4), .int .i64 y139.1.Frames, .int .i64 (y139.1.Buckets 0), .int .i64 (y139.1.Buckets 1), .int .i64 (y139.1.Buckets 2), .int .i64 (y139.1.Buckets 3), .int .i64 (y139.1.Buckets 4), .int .i64 (y139.1.Buckets 5), .int .i64 (y139.1.Buckets 6), .int .i64 (y139.1.Buckets 7), .int .i64 (y139.1.Buckets 8), .int .i64 (y139.1.Buckets 9), .int .i64 (y139.1.Buckets 10), .int .i64 (y139.1.Buckets 11), .int .i64 (y139.1.Buckets 12), .int .i64 (y139.1.Buckets 13), .int .i64 (y139.1.Buckets 14), .int .i64 (y139.1.Buckets 15), .int .i64 (y139.1.Buckets 16), .int .i64 (y139.1.Buckets 17), .int .i64 (y139.1.Buckets 18), .int .i64 (y139.1.Buckets 19), .int .i64 (y139.1.Buckets 20), .int .i64 (y139.1.Buckets 21), .int .i64 (y139.1.Buckets 22), .int .i64 (y139.1.Buckets 23)], .int .i64 y139.2]), (29, .agg [.int .i64 y139.1.Limit, .sl 97 .ro (y139.1.Last.map pv97), .int .i64 (y139.1.Counts 0), .int .i64 (y139.1.Counts 1), .int .i64 (y139.1.Counts 2), .int .i64 (y139.1.Counts 3), .int .i64 (y139.1.Counts 4), .int .i64 y139.1.Frames, .int .i64 (y139.1.Buckets 0), .int .i64 (y139.1.Buckets 1), .int .i64 (y139.1.Buckets 2), .int .i64 (y139.1.Buckets 3), .int .i64 (y139.1.Buckets 4), .int .i64 (y139.1.Buckets 5), .int .i64 (y139.1.Buckets 6), .int .i64 (y139.1.Buckets 7), .int .i64 (y139.1.Buckets 8), .int .i64 (y139.1.Buckets 9), .int .i64 (y139.1.Buckets 10), .int .i64 (y139.1.Buckets 11), .int .i64 (y139.1.Buckets 12), .int .i64 (y139.1.Buckets 13), .int .i64 (y139.1.Buckets 14), .int .i64 (y139.1.Buckets 15), .int .i64 (y139.1.Buckets 16), .int .i64 (y139.1.Buckets 17), .int .i64 (y139.1.Buckets 18), .int .i64 (y139.1.Buckets 19), .int .i64 (y139.1.Buckets 20), .int .i64 (y139.1.Buckets 21), .int .i64 (y139.1.Buckets 22), .int .i64 (y139.1.Buckets 23)]), (30, .int .i64 y139.2), (2, .ptr (.loc 0 0) 0), (3, .ptr (.loc 1 1) 0), (4, .ptr (.loc 2 6) 0), (6, .int .i64 v95)], [], [((.loc 0 0), [.int .i64 0, .sl 97 .full [], .int .i64 (aZ 0), .int .i64 (aZ 1), .int .i64 (aZ 2), .int .i64 (aZ 3), .int .i64 (aZ 4), .int .i64 0, .int .i64 (aZ 0), .int .i64 (aZ 1), .int .i64 (aZ 2), .int .i64 (aZ 3), .int .i64 (aZ 4), .int .i64 (aZ 5), .int .i64 (aZ 6), .int .i64 (aZ 7), .int .i64 (aZ 8), .int .i64 (aZ 9), .int .i64 (aZ 10), .int .i64 (aZ 11), .int .i64 (aZ 12), .int .i64 (aZ 13), .int .i64 (aZ 14), .int .i64 (aZ 15), .int .i64 (aZ 16), .int .i64 (aZ 17), .int .i64 (aZ 18), .int .i64 (aZ 19), .int .i64 (aZ 20), .int .i64 (aZ 21), .int .i64 (aZ 22), .int .i64 (aZ 23)]), ((.loc 1 1), [.sl 3 .ro (y138.2.L.map (PV.int .i64)), .int .i64 y138.2.At]), ((.loc 2 6), [.int .i64 v90, .sl 97 .ro (v91.map pv97), .int .i64 (v92 0), .int .i64 (v92 1), .int .i64 (v92 2), .int .i64 (v92 3), .int .i64 (v92 4), .int .i64 v93, .int .i64 (v94 0), .int .i64 (v94 1), .int .i64 (v94 2), .int .i64 (v94 3), .int .i64 (v94 4), .int .i64 (v94 5), .int .i64 (v94 6), .int .i64 (v94 7), .int .i64 (v94 8), .int .i64 (v94 9), .int .i64 (v94 10), .int .i64 (v94 11), .int .i64 (v94 12), .int .i64 (v94 13), .int .i64 (v94 14), .int .i64 (v94 15), .int .i64 (v94 16), .int .i64 (v94 17), .int .i64 (v94 18), .int .i64 (v94 19), .int .i64 (v94 20), .int .i64 (v94 21), .int .i64 (v94 22), .int .i64 (v94 23)])]⟩,
            ⟨[(25, .agg [.int .i64 v90, .sl 97 .ro (v91.map pv97), .int .i64 (v92 0), .int .i64 (v92 1), .int .i64 (v92 2), .int .i64 (v92 3), .int .i64 (v92 4), .int .i64 v93, .int .i64 (v94 0), .int .i64 (v94 1), .int .i64 (v94 2), .int .i64 (v94 3), .int .i64 (v94 4), .int .i64 (v94 5), .int .i64 (v94 6), .int .i64 (v94 7), .int .i64 (v94 8), .int .i64 (v94 9), .int .i64 (v94 10), .int .i64 (v94 11), .int .i64 (v94 12), .int .i64 (v94 13), .int .i64 (v94 14), .int .i64 (v94 15), .int .i64 (v94 16), .int .i64 (v94 17), .int .i64 (v94 18), .int .i64 (v94 19), .int .i64 (v94 20), .int .i64 (v94 21), .int .i64 (v94 22), .int .i64 (v94 23)]), (26, .ptr (.loc 1 1) 0), (27, .int .i64 y138.1), (28, .tup [.agg [.int .i64 y139.1.Limit, .sl 97 .ro (y139.1.Last.map pv97), .int .i64 (y139.1.Counts 0), .int .i64 (y139.1.Counts 1), .int .i64 (y139.1.Counts 2), .int .i64 (y139.1.Counts 3), .int .i64 (y139.1.Counts 4), .int .i64 y139.1.Frames, .int .i64 (y139.1.Buckets 0), .int .i64 (y139.1.Buckets 1), .int .i64 (y139.1.Buckets 2), .int .i64 (y139.1.Buckets 3), .int .i64 (y139.1.Buckets 4), .int .i64 (y139.1.Buckets 5), .int .i64 (y139.1.Buckets 6), .int .i64 (y139.1.Buckets 7), .int .i64 (y139.1.Buckets 8), .int .i64 (y139.1.Buckets 9), .int .i64 (y139.1.Buckets 10), .int .i64 (y139.1.Buckets 11), .int .i64 (y139.1.Buckets 12), .int .i64 (y139.1.Buckets 13), .int .i64 (y139.1.Buckets 14), .int .i64 (y139.1.Buckets 15), .int .i64 (y139.1.Buckets 16), .int .i64 (y139.1.Buckets 17), .int .i64 (y139.1.Buckets 18), .int .i64 (y139.1.Buckets 19), .int .i64 (y139.1.Buckets 20), .int .i64 (y139.1.Buckets 21), .int .i64 (y139.1.Buckets 22), .int .i64 (y139.1.Buckets 23)], .int .i64 y139.2]), (24, .tup [.agg [.int .i64 y139.1.Limit, .sl 97 .ro (y139.1.Last.map pv97), .int .i64 (y139.1.Counts 0), .int .i64 (y139.1.Counts 1), .int .i64 (y139.1.Counts 2), .int .i64 (y139.1.Counts 3), .int .i64 (y139.1.Counts 4), .int .i64 y139.1.Frames, .int .i64 (y139.1.Buckets 0), .int .i64 (y139.1.Buckets 1), .int .i64 (y139.1.Buckets 2), .int .i64 (y139.1.Buckets 3), .int .i64 (y139.1.Buckets 4), .int .i64 (y139.1.Buckets 5), .int .i64 (y139.1.Buckets 6), .int .i64 (y139.1.Buckets 7), .int .i64 (y139.1.Buckets 8), .int .i64 (y139.1.Buckets 9), .int .i64 (y139.1.Buckets 10), .int .i64 (y139.1.Buckets 11), .int .i64 (y139.1.Buckets 12), .int .i64 (y139.1.Buckets 13), .int .i64 (y139.1.Buckets 14), .int .i64 (y139.1.Buckets 15), .int .i64 (y139.1.Buckets 16), .int .i64 (y139.1.Buckets 17), .int .i64 (y139.1.Buckets 18), .int .i64 (y139.1.Buckets 19), .int .i64 (y139.1.Buckets 20), .int .i64 (y139.1.Buckets 21), .int .i64 (y139.1.Buckets 22), .int .i64 (y139.1.Buckets 23)], .int .i64 y139.2]), (29, .agg [.int .i64 y139.1.Limit, .sl 97 .ro (y139.1.Last.map pv97), .int .i64 (y139.1.Counts 0), .int .i64 (y139.1.Counts 1), .int .i64 (y139.1.Counts 2), .int .i64 (y139.1.Counts 3), .int .i64 (y139.1.Counts 4), .int .i64 y139.1.Frames, .int .i64 (y139.1.Buckets 0), .int .i64 (y139.1.Buckets 1), .int .i64 (y139.1.Buckets 2), .int .i64 (y139.1.Buckets 3), .int .i64 (y139.1.Buckets 4), .int .i64 (y139.1.Buckets 5), .int .i64 (y139.1.Buckets 6), .int .i64 (y139.1.Buckets 7), .int .i64 (y139.1.Buckets 8), .int .i64 (y139.1.Buckets 9), .int .i64 (y139.1.Buckets 10), .int .i64 (y139.1.Buckets 11), .int .i64 (y139.1.Buckets 12), .int .i64 (y139.1.Buckets 13), .int .i64 (y139.1.Buckets 14), .int .i64 (y139.1.Buckets 15), .int .i64 (y139.1.Buckets 16), .int .i64 (y139.1.Buckets 17), .int .i64 (y139.1.Buckets 18), .int .i64 (y139.1.Buckets 19), .int .i64 (y139.1.Buckets 20), .int .i64 (y139.1.Buckets 21), .int .i64 (y139.1.Buckets 22), .int .i64 (y139.1.Buckets 23)]), (30, .int .i64 y139.2), (2, .ptr (.loc 0 0) 0), (3, .ptr (.loc 1 1) 0), (4, .ptr (.loc 2 6) 0), (6, .int .i64 v95)], [], [((.loc 0 0), [.int .i64 0, .sl 97 .full [], .int .i64 (aZ 0), .int .i64 (aZ 1), .int .i64 (aZ 2), .int .i64 (aZ 3), .int .i64 (aZ 4), .int .i64 0, .int .i64 (aZ 0), .int .i64 (aZ 1), .int .i64 (aZ 2), .int .i64 (aZ 3), .int .i64 (aZ 4), .int .i64 (aZ 5), .int .i64 (aZ 6), .int .i64 (aZ 7), .int .i64 (aZ 8), .int .i64 (aZ 9), .int .i64 (aZ 10), .int .i64 (aZ 11), .int .i64 (aZ 12), .int .i64 (aZ 13), .int .i64 (aZ 14), .int .i64 (aZ 15), .int .i64 (aZ 16), .int .i64 (aZ 17), .int .i64 (aZ 18), .int .i64 (aZ 19), .int .i64 (aZ 20), .int .i64 (aZ 21), .int .i64 (aZ 22), .int .i64 (aZ 23)]), ((.loc 1 1), [.sl 3 .ro (y138.2.L.map (PV.int .i64)), .int .i64 y138.2.At]), ((.loc 2 6), [.int .i64 y139.1.Limit, .sl 97 .ro (y139.1.Last.map pv97), .int .i64 (y139.1.Counts 0), .int .i64 (y139.1.Counts 1), .int .i64 (y139.1.Counts 2), .int .i64 (y139.1.Counts 3), .int .i64 (y139.1.Counts 4), .int .i64 y139.1.Frames, .int .i64 (y139.1.Buckets 0), .int .i64 (y139.1.Buckets 1), .int .i64 (y139.1.Buckets 2), .int .i64 (y139.1.Buckets 3), .int .i64 (y139.1.Buckets 4), .int .i64 (y139.1.Buckets 5), .int .i64 (y139.1.Buckets 6), .int .i64 (y139.1.Buckets 7), .int .i64 (y139.1.Buckets 8), .int .i64 (y139.1.Buckets 9), .int .i64 (y139.1.Buckets 10), .int .i64 (y139.1.Buckets 11), .int .i64 (y139.1.Buckets 12), .int .i64 (y139.1.Buckets 13), .int .i64 (y139.1.Buckets 14), .int .i64 (y139.1.Buckets 15), .int .i64 (y139.1.Buckets 16), .int .i64 (y139.1.Buckets 17), .int .i64 (y139.1.Buckets 18), .int .i64 (y139.1.Buckets 19), .int .i64 (y139.1.Buckets 20), .int .i64 (y139.1.Buckets 21), .int .i64 (y139.1.Buckets 22), .int .i64 (y139.1.Buckets 23)])]⟩]
            [(2, .ptr (.loc 0 0) 0), (3, .ptr (.loc 1 1) 0), (4, .ptr (.loc 2 6) 0), (6, .int .i64 v95)]
            (.cons [4] [] (fun _ _ h => .val (h _)) rfl rfl <|
            .cons [4] [] (fun _ _ h => .val (h _)) rfl rfl <|
            .cons [3] [] (fun _ _ h => .move (h _)) rfl rfl <|
            .cons [25, 27] [] (fun _ _ h => .cP (g66 hy139) (h _)) rfl rfl <|
            .cons [28] [] (fun _ _ h => .move (h _)) rfl rfl <|
            .cons [24] [] (fun _ _ h => .val (h _)) rfl rfl <|
            .cons [24] [] (fun _ _ h => .val (h _)) rfl rfl <|
            .cons [24] [] (fun _ _ h => .val (h _)) rfl rfl <|
            .nil)
            (.cons (fun x => x) [26] [] (fun _ _ h => .cH (.loc 1 1) (g79 hy138) (h _ _ (.cons rfl (.cons rfl (.cons rfl (.nil)))))) rfl (.old rfl (.old rfl (.new rfl (.new rfl (.new rfl (.new rfl (.new rfl (.old rfl (.old rfl (.old rfl (.old rfl (.nil)))))))))))) rfl rfl <|
            .cons (fun x => x) [4, 29] [] (fun _ _ h => .wrL (cs := [.int .i64 y139.1.Limit, .sl 97 .ro (y139.1.Last.map pv97), .int .i64 (y139.1.Counts 0), .int .i64 (y139.1.Counts 1), .int .i64 (y139.1.Counts 2), .int .i64 (y139.1.Counts 3), .int .i64 (y139.1.Counts 4), .int .i64 y139.1.Frames, .int .i64 (y139.1.Buckets 0), .int .i64 (y139.1.Buckets 1), .int .i64 (y139.1.Buckets 2), .int .i64 (y139.1.Buckets 3), .int .i64 (y139.1.Buckets 4), .int .i64 (y139.1.Buckets 5), .int .i64 (y139.1.Buckets 6), .int .i64 (y139.1.Buckets 7), .int .i64 (y139.1.Buckets 8), .int .i64 (y139.1.Buckets 9), .int .i64 (y139.1.Buckets 10), .int .i64 (y139.1.Buckets 11), .int .i64 (y139.1.Buckets 12), .int .i64 (y139.1.Buckets 13), .int .i64 (y139.1.Buckets 14), .int .i64 (y139.1.Buckets 15), .int .i64 (y139.1.Buckets 16), .int .i64 (y139.1.Buckets 17), .int .i64 (y139.1.Buckets 18), .int .i64 (y139.1.Buckets 19), .int .i64 (y139.1.Buckets 20), .int .i64 (y139.1.Buckets 21), .int .i64 (y139.1.Buckets 22), .int .i64 (y139.1.Buckets 23)]) (h _ _ (.cons rfl (.cons rfl (.cons rfl (.nil)))))) rfl (.old rfl (.old rfl (.old rfl (.old rfl (.old rfl (.old rfl (.old rfl (.old rfl (.old rfl (.old rfl (.old rfl (.nil)))))))))))) rfl rfl <|
            .nil)
            (by kernel_rfl) rfl (.cons rfl (.cons rfl (.cons rfl (.cons rfl (.nil))))) (.nil) (.cons rfl (.cons rfl (.cons rfl (.nil)))) ?_
          exact ⟨_, ⟨_, _, _, _, _, _, _, rfl, h⟩, (imp_of (.cons rfl (.cons rfl (.cons rfl (.cons rfl (.nil))))) (.cons rfl (.cons rfl (.cons rfl (.nil)))))⟩
        · replace h := (if_neg (nt hc137)).symm.trans h
          obtain ⟨y140, hy140, h⟩ := bindE h
          obtain ⟨y141, hy141, h⟩ := bindE h
          refine .draw [2, 7] [[], [], [], [2], [2], [2], [2], [2]] [[7], [2, 7], [7], [7], [7], [7], [], []] [[], [2], [2, 7]]
            [(0, 0), (0, 1), (1, 0), (3, 1), (4, 1), (5, 1), (6, 1), (6, 2)] [(0, 2, 1), (1, 7, 2)] 2
            [⟨[(32, .agg [.int .i64 v90, .sl 97 .ro (v91.map pv97), .int .i64 (v92 0), .int .i64 (v92 1), .int .i64 (v92 2), .int .i64 (v92 3), .int .i64 (v92 4), .int .i64 v93, .int .i64 (v94 0), .int .i64 (v94 1), .int .i64 (v94 2), .int .i64 (v94 3), .int .i64 (v94 4), .int .i64 (v94 5), .int .i64 (v94 6), .int .i64 (v94 7), .int .i64 (v94 8), .int .i64 (v94 9), .int .i64 (v94 10), .int .i64 (v94 11), .int .i64 (v94 12), .int .i64 (v94 13), .int .i64 (v94 14), .int .i64 (v94 15), .int .i64 (v94 16), .int .i64 (v94 17), .int .i64 (v94 18), .int .i64 (v94 19), .int .i64 (v94 20), .int .i64 (v94 21), .int .i64 (v94 22), .int .i64 (v94 23)]), (33, .ptr (.loc 1 1) 0), (2, .ptr (.loc 0 0) 0), (3, .ptr (.loc 1 1) 0), (4, .ptr (.loc 2 6) 0), (6, .int .i64 v95)], [], [((.loc 0 0), [.int .i64 0, .sl 97 .full [], .int .i64 (aZ 0), .int .i64 (aZ 1), .int .i64 (aZ 2), .int .i64 (aZ 3), .int .i64 (aZ 4), .int .i64 0, .int .i64 (aZ 0), .int .i64 (aZ 1), .int .i64 (aZ 2), .int .i64 (aZ 3), .int .i64 (aZ 4), .int .i64 (aZ 5), .int .i64 (aZ 6), .int .i64 (aZ 7), .int .i64 (aZ 8), .int .i64 (aZ 9), .int .i64 (aZ 10), .int .i64 (aZ 11), .int .i64 (aZ 12), .int .i64 (aZ 13), .int .i64 (aZ 14), .int .i64 (aZ 15), .int .i64 (aZ 16), .int .i64 (aZ 17), .int .i64 (aZ 18), .int .i64 (aZ 19), .int .i64 (aZ 20), .int .i64 (aZ 21), .int .i64 (aZ 22), .int .i64 (aZ 23)]), ((.loc 1 1), [.sl 3 .ro (y136.2.L.map (PV.int .i64)), .int .i64 y136.2.At]), ((.loc 2 6), [.int .i64 v90, .sl 97 .ro (v91.map pv97), .int .i64 (v92 0), .int .i64 (v92 1), .int .i64 (v92 2), .int .i64 (v92 3), .int .i64 (v92 4), .int .i64 v93, .int .i64 (v94 0), .int .i64 (v94 1), .int .i64 (v94 2), .int .i64 (v94 3), .int .i64 (v94 4), .int .i64 (v94 5), .int .i64 (v94 6), .int .i64 (v94 7), .int .i64 (v94 8), .int .i64 (v94 9), .int .i64 (v94 10), .int .i64 (v94 11), .int .i64 (v94 12), .int .i64 (v94 13), .int .i64 (v94 14), .int .i64 (v94 15), .int .i64 (v94 16), .int .i64 (v94 17), .int .i64 (v94 18), .int .i64 (v94 19), .int .i64 (v94 20), .int .i64 (v94 21), .int .i64 (v94 22), .int .i64 (v94 23)])]⟩,
            ⟨[(32, .agg [.int .i64 v90, .sl 97 .ro (v91.map pv97), .int .i64 (v92 0), .int .i64 (v92 1), .int .i64 (v92 2), .int .i64 (v92 3), .int .i64 (v92 4), .int .i64 v93, .int .i64 (v94 0), .int .i64 (v94 1), .int .i64 (v94 2), .int .i64 (v94 3), .int .i64 (v94 4), .int .i64 (v94 5), .int .i64 (v94 6), .int .i64 (v94 7), .int .i64 (v94 8), .int .i64 (v94 9), .int .i64 (v94 10), .int .i64 (v94 11), .int .i64 (v94 12), .int .i64 (v94 13), .int .i64 (v94 14), .int .i64 (v94 15), .int .i64 (v94 16), .int .i64 (v94 17), .int .i64 (v94 18), .int .i64 (v94 19), .int .i64 (v94 20), .int .i64 (v94 21), .int .i64 (v94 22), .int .i64 (v94 23)]), (33, .ptr (.loc 1 1) 0), (34, .agg [.int .i64 y140.1.Kind, .int .i64 y140.1.At, .int .i64 y140.1.Quanta, .int .i64 y140.1.Stream, .int .u64 y140.1.Device, .int .i64 y140.1.Frames]), (35, .tup [.agg [.int .i64 y141.1.Limit, .sl 97 .ro (y141.1.Last.map pv97), .int .i64 (y141.1.Counts 0), .int .i64 (y141.1.Counts 1), .int .i64 (y141.1.Counts 2), .int .i64 (y141.1.Counts 3), .int .i64 (y141.1.Counts 4), .int .i64 y141.1.Frames, .int .i64 (y141.1.Buckets 0), .int .i64 (y141.1.Buckets 1), .int .i64 (y141.1.Buckets 2), .int .i64 (y141.1.Buckets 3), .int .i64 (y141.1.Buckets 4), .int .i64 (y141.1.Buckets 5), .int .i64 (y141.1.Buckets 6), .int .i64 (y141.1.Buckets 7), .int .i64 (y141.1.Buckets 8), .int .i64 (y141.1.Buckets 9), .int .i64 (y141.1.Buckets 10), .int .i64 (y141.1.Buckets 11), .int .i64 (y141.1.Buckets 12), .int .i64 (y141.1.Buckets 13), .int .i64 (y141.1.Buckets 14), .int .i64 (y141.1.Buckets 15), .int .i64 (y141.1.Buckets 16), .int .i64 (y141.1.Buckets 17), .int .i64 (y141.1.Buckets 18), .int .i64 (y141.1.Buckets 19), .int .i64 (y141.1.Buckets 20), .int .i64 (y141.1.Buckets 21), .int .i64 (y141.1.Buckets 22), .int .i64 (y141.1.Buckets 23)], .int .i64 y141.2]), (31, .tup [.agg [.int .i64 y141.1.Limit, .sl 97 .ro (y141.1.Last.map pv97), .int .i64 (y141.1.Counts 0), .int .i64 (y141.1.Counts 1), .int .i64 (y141.1.Counts 2), .int .i64 (y141.1.Counts 3), .int .i64 (y141.1.Counts 4), .int .i64 y141.1.Frames, .int .i64 (y141.1.Buckets 0), .int .i64 (y141.1.Buckets 1), .int .i64 (y141.1.Buckets 2), .int .i64 (y141.1.Buckets 3), .int .i64 (y141.1.Buckets 4), .int .i64 (y141.1.Buckets 5), .int .i64 (y141.1.Buckets 6), .int .i64 (y141.1.Buckets 7), .int .i64 (y141.1.Buckets 8), .int .i64 (y141.1.Buckets 9), .int .i64 (y141.1.Buckets 10), .int .i64 (y141.1.Buckets 11), .int .i64 (y141.1.Buckets 12), .int .i64 (y141.1.Buckets 13), .int .i64 (y141.1.Buckets 14), .int .i64 (y141.1.Buckets 15), .int .i64 (y141.1.Buckets 16), .int .i64 (y141.1.Buckets 17), .int .i64 (y141.1.Buckets 18), .int .i64 (y141.1.Buckets 19), .int .i64 (y141.1.Buckets 20), .int .i64 (y141.1.Buckets 21), .int .i64 (y141.1.Buckets 22), .int .i64 (y141.1.Buckets 23)], .int .i64 y141.2]), (36, .agg [.int .i64 y141.1.Limit, .sl 97 .ro (y141.1.Last.map pv97), .int .i64 (y141.1.Counts 0), .int .i64 (y141.1.Counts 1), .int .i64 (y141.1.Counts 2), .int .i64 (y141.1.Counts 3), .int .i64 (y141.1.Counts 4), .int .i64 y141.1.Frames, .int .i64 (y141.1.Buckets 0), .int .i64 (y141.1.Buckets 1), .int .i64 (y141.1.Buckets 2), .int .i64 (y141.1.Buckets 3), .int .i64 (y141.1.Buckets 4), .int .i64 (y141.1.Buckets 5), .int .i64 (y141.1.Buckets 6), .int .i64 (y141.1.Buckets 7), .int .i64 (y141.1.Buckets 8), .int .i64 (y141.1.Buckets 9), .int .i64 (y141.1.Buckets 10), .int .i64 (y141.1.Buckets 11), .int .i64 (y141.1.Buckets 12), .int .i64 (y141.1.Buckets 13), .int .i64 (y141.1.Buckets 14), .int .i64 (y141.1.Buckets 15), .int .i64 (y141.1.Buckets 16), .int .i64 (y141.1.Buckets 17), .int .i64 (y141.1.Buckets 18), .int .i64 (y141.1.Buckets 19), .int .i64 (y141.1.Buckets 20), .int .i64 (y141.1.Buckets 21), .int .i64 (y141.1.Buckets 22), .int .i64 (y141.1.Buckets 23)]), (37, .int .i64 y141.2), (2, .ptr (.loc 0 0) 0), (3, .ptr (.loc 1 1) 0), (4, .ptr (.loc 2 6) 0), (6, .int .i64 v95)], [], [((.loc 0 0), [.int .i64 0, .sl 97 .full [], .int .i64 (aZ 0), .int .i64 (aZ 1), .int .i64 (aZ 2), .int .i64 (aZ 3), .int .i64 (aZ 4), .int .i64 0, .int .i64 (aZ 0), .int .i64 (aZ 1), .int .i64 (aZ 2), .int .i64 (aZ 3), .int .i64 (aZ 4), .int .i64 (aZ 5), .int .i64 (aZ 6), .int .i64 (aZ 7), .int .i64 (aZ 8), .int .i64 (aZ 9), .int .i64 (aZ 10), .int .i64 (aZ 11), .int .i64 (aZ 12), .int .i64 (aZ 13), .int .i64 (aZ 14), .int .i64 (aZ 15), .int .i64 (aZ 16), .int .i64 (aZ 17), .int .i64 (aZ 18), .int .i64 (aZ 19), .int .i64 (aZ 20), .int .i64 (aZ 21), .int .i64 (aZ 22), .int .i64 (aZ 23)]), ((.loc 1 1), [.sl 3 .ro (y140.2.L.map (PV.int .i64)), .int .i64 y140.2.At]), ((.loc 2 6), [.int .i64 v90, .sl 97 .ro (v91.map pv97), .int .i64 (v92 0), .int .i64 (v92 1), .int .i64 (v92 2), .int .i64 (v92 3), .int .i64 (v92 4), .int .i64 v93, .int .i64 (v94 0), .int .i64 (v94 1), .int .i64 (v94 2), .int .i64 (v94 3), .int .i64 (v94 4), .int .i64 (v94 5), .int .i64 (v94 6), .int .i64 (v94 7), .int .i64 (v94 8), .int .i64 (v94 9), .int .i64 (v94 10), .int .i64 (v94 11), .int .i64 (v94 12), .int .i64 (v94 13), .int .i64 (v94 14), .int .i64 (v94 15), .int .i64 (v94 16), .int .i64 (v94 17), .int .i64 (v94 18), .int .i64 (v94 19), .int .i64 (v94 20), .int .i64 (v94 21), .int .i64 (v94 22), .int .i64 (v94 23)])]⟩,
            ⟨[(32, .agg [.int .i64 v90, .sl 97 .ro (v91.map pv97), .int .i64 (v92 0), .int .i64 (v92 1), .int .i64 (v92 2), .int .i64 (v92 3), .int .i64 (v92 4), .int .i64 v93, .int .i64 (v94 0), .int .i64 (v94 1), .int .i64 (v94 2), .int .i64 (v94 3), .int .i64 (v94 4), .int .i64 (v94 5), .int .i64 (v94 6), .int .i64 (v94 7), .int .i64 (v94 8), .int .i64 (v94 9), .int .i64 (v94 10), .int .i64 (v94 11), .int .i64 (v94 12), .int .i64 (v94 13), .int .i64 (v94 14), .int .i64 (v94 15), .int .i64 (v94 16), .int .i64 (v94 17), .int .i64 (v94 18), .int .i64 (v94 19), .int .i64 (v94 20), .int .i64 (v94 21), .int .i64 (v94 22), .int .i64 (v94 23)]), (33, .ptr (.loc 1 1) 0), (34, .agg [.int .i64 y140.1.Kind, .int .i64 y140.1.At, .int .i64 y140.1.Quanta, .int .i64 y140.1.Stream, .int .u64 y140.1.Device, .int .i64 y140.1.Frames]), (35, .tup [.agg [.int .i64 y141.1.Limit, .sl 97 .ro (y141.1.Last.map pv97), .int .i64 (y141.1.Counts 0), .int .i64 (y141.1.Counts 1), .int .i64 (y141.1.Counts 2), .int .i64 (y141.1.Counts 3), .int .i64 (y141.1.Counts 4), .int .i64 y141.1.Frames, .int .i64 (y141.1.Buckets 0), .int .i64 (y141.1.Buckets 1), .int .i64 (y141.1.Buckets 2), .int .i64 (y141.1.Buckets 3), .int .i64 (y141.1.Buckets 4), .int .i64 (y141.1.Buckets 5), .int .i64 (y141.1.Buckets 6), .int .i64 (y141.1.Buckets 7), .int .i64 (y141.1.Buckets 8), .int .i64 (y141.1.Buckets 9), .int .i64 (y141.1.Buckets 10), .int .i64 (y141.1.Buckets 11), .int .i64 (y141.1.Buckets 12), .int .i64 (y141.1.Buckets 13), .int .i64 (y141.1.Buckets 14), .int .i64 (y141.1.Buckets 15), .int .i64 (y141.1.Buckets 16), .int .i64 (y141.1.Buckets 17), .int .i64 (y141.1.Buckets 18), .int .i64 (y141.1.Buckets 19), .int .i64 (y141.1.Buckets 20), .int .i64 (y141.1.Buckets 21), .int .i64 (y141.1.Buckets 22), .int .i64 (y141.1.Buckets 23)], .int .i64 y141.2]), (31, .tup [.agg [.int .i64 y141.1.Limit, .sl 97 .ro (y141.1.Last.map pv97), .int .i64 (y141.1.Counts 0), .int .i64 (y141.1.Counts 1), .int .i64 (y141.1.Counts 2), .int .i64 (y141.1.Counts 3), .int .i64 (y141.1.Counts 4), .int .i64 y141.1.Frames, .int .i64 (y141.1.Buckets 0), .int .i64 (y141.1.Buckets 1), .int .i64 (y141.1.Buckets 2), .int .i64 (y141.1.Buckets 3), .int .i64 (y141.1.Buckets 4), .int .i64 (y141.1.Buckets 5), .int .i64 (y141.1.Buckets 6), .int .i64 (y141.1.Buckets 7), .int .i64 (y141.1.Buckets 8), .int .i64 (y141.1.Buckets 9), .int .i64 (y141.1.Buckets 10), .int .i64 (y141.1.Buckets 11), .int .i64 (y141.1.Buckets 12), .int .i64 (y141.1.Buckets 13), .int .i64 (y141.1.Buckets 14), .int .i64 (y141.1.Buckets 15), .int .i64 (y141.1.Buckets 16), .int .i64 (y141.1.Buckets 17), .int .i64 (y141.1.Buckets 18), .int .i64 (y141.1.Buckets 19), .int .i64 (y141.1.Buckets 20), .int .i64 (y141.1.Buckets 21), .int .i64 (y141.1.Buckets 22), .int .i64 (y141.1.Buckets 23)], .int .i64 y141.2]), (36, .agg [.int .i64 y141.1.Limit, .sl 97 .ro (y141.1.Last.map pv97), .int .i64 (y141.1.Counts 0), .int .i64 (y141.1.Counts 1), .int .i64 (y141.1.Counts 2), .int .i64 (y141.1.Counts 3), .int .i64 (y141.1.Counts 4), .int .i64 y141.1.Frames, .int .i64 (y141.1.Buckets 0), .int .i64 (y141.1.Buckets 1), .int .i64 (y141.1.Buckets 2), .int .i64 (y141.1.Buckets 3), .int .i64 (y141.1.Buckets 4), .int .i64 (y141.1.Buckets 5), .int .i64 (y141.1.Buckets 6), .int .i64 (y141.1.Buckets 7), .int .i64 (y141.1.Buckets 8), .int .i64 (y141.1.Buckets 9), .int .i64 (y141.1.Buckets 10), .int .i64 (y141.1.Buckets 11), .int .i64 (y141.1.Buckets 12), .int .i64 (y141.1.Buckets 13), .int .i64 (y141.1.Buckets 14), .int .i64 (y141.1.Buckets 15), .int .i64 (y141.1.Buckets 16), .int .i64 (y141.1.Buckets 17), .int .i64 (y141.1.Buckets 18), .int .i64 (y141.1.Buckets 19), .int .i64 (y141.1.Buckets 20), .int .i64 (y141.1.Buckets 21), .int .i64 (y141.1.Buckets 22), .int .i64 (y141.1.Buckets 23)]), (37, .int .i64 y141.2), (2, .ptr (.loc 0 0) 0), (3, .ptr (.loc 1 1) 0), (4, .ptr (.loc 2 6) 0), (6, .int .i64 v95)], [], [((.loc 0 0), [.int .i64 0, .sl 97 .full [], .int .i64 (aZ 0), .int .i64 (aZ 1), .int .i64 (aZ 2), .int .i64 (aZ 3), .int .i64 (aZ 4), .int .i64 0, .int .i64 (aZ 0), .int .i64 (aZ 1), .int .i64 (aZ 2), .int .i64 (aZ 3), .int .i64 (aZ 4), .int .i64 (aZ 5), .int .i64 (aZ 6), .int .i64 (aZ 7), .int .i64 (aZ 8), .int .i64 (aZ 9), .int .i64 (aZ 10), .int .i64 (aZ 11), .int .i64 (aZ 12), .int .i64 (aZ 13), .int .i64 (aZ 14), .int .i64 (aZ 15), .int .i64 (aZ 16), .int .i64 (aZ 17), .int .i64 (aZ 18), .int .i64 (aZ 19), .int .i64 (aZ 20), .int .i64 (aZ 21), .int .i64 (aZ 22), .int .i64 (aZ 23)]), ((.loc 1 1), [.sl 3 .ro (y140.2.L.map (PV.int .i64)), .int .i64 y140.2.At]), ((.loc 2 6), [.int .i64 y141.1.Limit, .sl 97 .ro (y141.1.Last.map pv97), .int .i64 (y141.1.Counts 0), .int .i64 (y141.1.Counts 1), .int .i64 (y141.1.Counts 2), .int .i64 (y141.1.Counts 3), .int .i64 (y141.1.Counts 4), .int .i64 y141.1.Frames, .int .i64 (y141.1.Buckets 0), .int .i64 (y141.1.Buckets 1), .int .i64 (y141.1.Buckets 2), .int .i64 (y141.1.Buckets 3), .int .i64 (y141.1.Buckets 4), .int .i64 (y141.1.Buckets 5), .int .i64 (y141.1.Buckets 6), .int .i64 (y141.1.Buckets 7), .int .i64 (y141.1.Buckets 8), .int .i64 (y141.1.Buckets 9), .int .i64 (y141.1.Buckets 10), .int .i64 (y141.1.Buckets 11), .int .i64 (y141.1.Buckets 12), .int .i64 (y141.1.Buckets 13), .int .i64 (y141.1.Buckets 14), .int .i64 (y141.1.Buckets 15), .int .i64 (y141.1.Buckets 16), .int .i64 (y141.1.Buckets 17), .int .i64 (y141.1.Buckets 18), .int .i64 (y141.1.Buckets 19), .int .i64 (y141.1.Buckets 20), .int .i64 (y141.1.Buckets 21), .int .i64 (y141.1.Buckets 22), .int .i64 (y141.1.Buckets 23)])]⟩]
            [(2, .ptr (.loc 0 0) 0), (3, .ptr (.loc 1 1) 0), (4, .ptr (.loc 2 6) 0), (6, .int .i64 v95)]
            (.cons [4] [] (fun _ _ h => .val (h _)) rfl rfl <|
            .cons [4] [] (fun _ _ h => .val (h _)) rfl rfl <|
            .cons [3] [] (fun _ _ h => .move (h _)) rfl rfl <|
            .cons [32, 34] [] (fun _ _ h => .cP (g64 hy141) (h _)) rfl rfl <|
            .cons [35] [] (fun _ _ h => .move (h _)) rfl rfl <|
            .cons [31] [] (fun _ _ h => .val (h _)) rfl rfl <|
            .cons [31] [] (fun _ _ h => .val (h _)) rfl rfl <|
            .cons [31] [] (fun _ _ h => .val (h _)) rfl rfl <|
            .nil)
            (.cons (fun x => x) [33] [] (fun _ _ h => .cH (.loc 1 1) (g62 hy140) (h _ _ (.cons rfl (.cons rfl (.cons rfl (.nil)))))) rfl (.old rfl (.old rfl (.new rfl (.new rfl (.new rfl (.new rfl (.new rfl (.old rfl (.old rfl (.old rfl (.old rfl (.nil)))))))))))) rfl rfl <|
            .cons (fun x => x) [4, 36] [] (fun _ _ h => .wrL (cs := [.int .i64 y141.1.Limit, .sl 97 .ro (y141.1.Last.map pv97), .int .i64 (y141.1.Counts 0), .int .i64 (y141.1.Counts 1), .int .i64 (y141.1.Counts 2), .int .i64 (y141.1.Counts 3), .int .i64 (y141.1.Counts 4), .int .i64 y141.1.Frames, .int .i64 (y141.1.Buckets 0), .int .i64 (y141.1.Buckets 1), .int .i64 (y141.1.Buckets 2), .int .i64 (y141.1.Buckets 3), .int .i64 (y141.1.Buckets 4), .int .i64 (y141.1.Buckets 5), .int .i64 (y141.1.Buckets 6), .int .i64 (y141.1.Buckets 7), .int .i64 (y141.1.Buckets 8), .int .i64 (y141.1.Buckets 9), .int .i64 (y141.1.Buckets 10), .int .i64 (y141.1.Buckets 11), .int .i64 (y141.1.Buckets 12), .int .i64 (y141.1.Buckets 13), .int .i64 (y141.1.Buckets 14), .int .i64 (y141.1.Buckets 15), .int .i64 (y141.1.Buckets 16), .int .i64 (y141.1.Buckets 17), .int .i64 (y141.1.Buckets 18), .int .i64 (y141.1.Buckets 19), .int .i64 (y141.1.Buckets 20), .int .i64 (y141.1.Buckets 21), .int .i64 (y141.1.Buckets 22), .int .i64 (y141.1.Buckets 23)]) (h _ _ (.cons rfl (.cons rfl (.cons rfl (.nil)))))) rfl (.old rfl (.old rfl (.old rfl (.old rfl (.old rfl (.old rfl (.old rfl (.old rfl (.old rfl (.old rfl (.old rfl (.nil)))))))))))) rfl rfl <|
            .nil)
            (by kernel_rfl) rfl (.cons rfl (.cons rfl (.cons rfl (.cons rfl (.nil))))) (.nil) (.cons rfl (.cons rfl (.cons rfl (.nil)))) ?_
          exact ⟨_, ⟨_, _, _, _, _, _, _, rfl, h⟩, (imp_of (.cons rfl (.cons rfl (.cons rfl (.cons rfl (.nil))))) (.cons rfl (.cons rfl (.cons rfl (.nil)))))⟩
      · rintro T ⟨v128, v129, v130, v131, v132, v133, v134, rfl, h⟩
        subst hj135
        refine .region ?_
        refine .move ?_
        refine .val ?_
        refine .assign ?_
        refine .nil ?_
        exact ⟨m119, _, Nat.lt_succ_self m119, ⟨_, _, _, _, _, _, _, _, rfl, h⟩, (imp_of (.cons rfl (.cons rfl (.cons rfl (.cons rfl (.nil))))) (.cons rfl (.cons rfl (.cons rfl (.nil)))))⟩
    · replace h := (if_neg (nt hc121)).symm.trans h
      refine .exit (.hit ?_)
      exact ⟨_, ⟨_, _, _, _, _, rfl, h⟩, (imp_of (.cons rfl (.cons rfl (.nil))) (.cons rfl (.cons rfl (.nil))))⟩
  · rintro T ⟨v66, v67, v68, v69, v70, rfl, h⟩
    subst hj71
    refine .seq ?_
    refine .region ?_
    refine .val (v := .agg [.int .i64 v66, .sl 97 .ro (v67.map pv97), .int .i64 (v68 0), .int .i64 (v68 1), .int .i64 (v68 2), .int .i64 (v68 3), .int .i64 (v68 4), .int .i64 v69, .int .i64 (v70 0), .int .i64 (v70 1), .int .i64 (v70 2), .int .i64 (v70 3), .int .i64 (v70 4), .int .i64 (v70 5), .int .i64 (v70 6), .int .i64 (v70 7), .int .i64 (v70 8), .int .i64 (v70 9), .int .i64 (v70 10), .int .i64 (v70 11), .int .i64 (v70 12), .int .i64 (v70 13), .int .i64 (v70 14), .int .i64 (v70 15), .int .i64 (v70 16), .int .i64 (v70 17), .int .i64 (v70 18), .int .i64 (v70 19), .int .i64 (v70 20), .int .i64 (v70 21), .int .i64 (v70 22), .int .i64 (v70 23)]) ?_
    refine .wrL (cs := [.int .i64 v66, .sl 97 .ro (v67.map pv97), .int .i64 (v68 0), .int .i64 (v68 1), .int .i64 (v68 2), .int .i64 (v68 3), .int .i64 (v68 4), .int .i64 v69, .int .i64 (v70 0), .int .i64 (v70 1), .int .i64 (v70 2), .int .i64 (v70 3), .int .i64 (v70 4), .int .i64 (v70 5), .int .i64 (v70 6), .int .i64 (v70 7), .int .i64 (v70 8), .int .i64 (v70 9), .int .i64 (v70 10), .int .i64 (v70 11), .int .i64 (v70 12), .int .i64 (v70 13), .int .i64 (v70 14), .int .i64 (v70 15), .int .i64 (v70 16), .int .i64 (v70 17), .int .i64 (v70 18), .int .i64 (v70 19), .int .i64 (v70 20), .int .i64 (v70 21), .int .i64 (v70 22), .int .i64 (v70 23)]) ?_
    refine .nil ?_
    cases h
    exact .ret (fin_gen0 none)

/- soundservice/soundserviceref38.Between -/
def f54_l1 (n : Nat) (a0 : Recorder) (a1 : Int) (a2 : Int) (j45 : (List Glitch) → Option (List Glitch)) : Nat → (List Glitch) → Int → Option (List Glitch)
  | 0, _, _ => none
  | m74 + 1, v58, v60 =>
    if decide (v60 < (a0.Last.length : Int)) then (
    joinK (fun (v83 : (List Glitch)) =>
    f54_l1 n a0 a1 a2 j45 m74 v83 (w64 (v60 + (1 : Int)))) fun j85 =>
    (lAt a0.Last v60).bind fun x86 =>
    joinK (fun (_ : Unit) =>
    if decide ((w64 ((w64 (x86.At + x86.Quanta)) - (1 : Int))) ≥ a1) then (
    (lApp v58 ([(⟨x86.Kind, x86.At, x86.Quanta, x86.Stream, x86.Device, x86.Frames⟩ : Glitch)] : List Glitch)).bind fun x92 =>
    j85 x92)
    else (
    j85 v58)) fun j88 =>
    joinK (fun (_ : Unit) =>
    j85 v58) fun j89 =>
    if decide (x86.At ≤ a2) then (
    j88 ())
    else (
    j89 ()))
    else (
    j45 v58)
def f54 (n : Nat) (a0 : Recorder) (a1 : Int) (a2 : Int) : Option (List Glitch) :=
  (f61 n (⟨a0.Limit, a0.Last, a0.Counts, a0.Frames, a0.Buckets⟩ : Recorder)).bind fun y3 =>
  if !y3 then (
  some ([] : List Glitch))
  else (
  joinK (fun (v43 : (List Glitch)) =>
  some v43) fun j45 =>
  f54_l1 n a0 a1 a2 j45 n ([] : List Glitch) 0)
set_option maxHeartbeats 4000000 in
set_option maxRecDepth 100000 in
theorem g54 {n : Nat} {a0 : Recorder} {a1 : Int} {a2 : Int} {r : (List Glitch)} (h : f54 n a0 a1 a2 = some r) :
    Ab.Can Try.prog 54 [.agg [.int .i64 a0.Limit, .sl 97 .ro (a0.Last.map pv97), .int .i64 (a0.Counts 0), .int .i64 (a0.Counts 1), .int .i64 (a0.Counts 2), .int .i64 (a0.Counts 3), .int .i64 (a0.Counts 4), .int .i64 a0.Frames, .int .i64 (a0.Buckets 0), .int .i64 (a0.Buckets 1), .int .i64 (a0.Buckets 2), .int .i64 (a0.Buckets 3), .int .i64 (a0.Buckets 4), .int .i64 (a0.Buckets 5), .int .i64 (a0.Buckets 6), .int .i64 (a0.Buckets 7), .int .i64 (a0.Buckets 8), .int .i64 (a0.Buckets 9), .int .i64 (a0.Buckets 10), .int .i64 (a0.Buckets 11), .int .i64 (a0.Buckets 12), .int .i64 (a0.Buckets 13), .int .i64 (a0.Buckets 14), .int .i64 (a0.Buckets 15), .int .i64 (a0.Buckets 16), .int .i64 (a0.Buckets 17), .int .i64 (a0.Buckets 18), .int .i64 (a0.Buckets 19), .int .i64 (a0.Buckets 20), .int .i64 (a0.Buckets 21), .int .i64 (a0.Buckets 22), .int .i64 (a0.Buckets 23)], .int .i64 a1, .int .i64 a2] H0 (.sl 97 (.own (.rrow 0)) (r.map pv97)) H0 := by
  refine can_of tabOK mix Try.call54 Try.func54 rfl (by kernel_rfl) (by show _ ≤ 44; simp) fun _ => ?_
  rw [f54] at h
  refine .seq ?_
  refine .region ?_
  refine .boxL (cs := [.int .i64 a0.Limit, .sl 97 .ro (a0.Last.map pv97), .int .i64 (a0.Counts 0), .int .i64 (a0.Counts 1), .int .i64 (a0.Counts 2), .int .i64 (a0.Counts 3), .int .i64 (a0.Counts 4), .int .i64 a0.Frames, .int .i64 (a0.Buckets 0), .int .i64 (a0.Buckets 1), .int .i64 (a0.Buckets 2), .int .i64 (a0.Buckets 3), .int .i64 (a0.Buckets 4), .int .i64 (a0.Buckets 5), .int .i64 (a0.Buckets 6), .int .i64 (a0.Buckets 7), .int .i64 (a0.Buckets 8), .int .i64 (a0.Buckets 9), .int .i64 (a0.Buckets 10), .int .i64 (a0.Buckets 11), .int .i64 (a0.Buckets 12), .int .i64 (a0.Buckets 13), .int .i64 (a0.Buckets 14), .int .i64 (a0.Buckets 15), .int .i64 (a0.Buckets 16), .int .i64 (a0.Buckets 17), .int .i64 (a0.Buckets 18), .int .i64 (a0.Buckets 19), .int .i64 (a0.Buckets 20), .int .i64 (a0.Buckets 21), .int .i64 (a0.Buckets 22), .int .i64 (a0.Buckets 23)]) ?_
  refine .assign ?_
  refine .nil ?_
  refine .seq ?_
  refine .region ?_
  refine .assign ?_
  refine .nil ?_
  refine .seq ?_
  refine .seq ?_
  refine .region ?_
  refine .val (v := .agg [.int .i64 a0.Limit, .sl 97 .ro (a0.Last.map pv97), .int .i64 (a0.Counts 0), .int .i64 (a0.Counts 1), .int .i64 (a0.Counts 2), .int .i64 (a0.Counts 3), .int .i64 (a0.Counts 4), .int .i64 a0.Frames, .int .i64 (a0.Buckets 0), .int .i64 (a0.Buckets 1), .int .i64 (a0.Buckets 2), .int .i64 (a0.Buckets 3), .int .i64 (a0.Buckets 4), .int .i64 (a0.Buckets 5), .int .i64 (a0.Buckets 6), .int .i64 (a0.Buckets 7), .int .i64 (a0.Buckets 8), .int .i64 (a0.Buckets 9), .int .i64 (a0.Buckets 10), .int .i64 (a0.Buckets 11), .int .i64 (a0.Buckets 12), .int .i64 (a0.Buckets 13), .int .i64 (a0.Buckets 14), .int .i64 (a0.Buckets 15), .int .i64 (a0.Buckets 16), .int .i64 (a0.Buckets 17), .int .i64 (a0.Buckets 18), .int .i64 (a0.Buckets 19), .int .i64 (a0.Buckets 20), .int .i64 (a0.Buckets 21), .int .i64 (a0.Buckets 22), .int .i64 (a0.Buckets 23)]) ?_
  obtain ⟨y3, hy3, h⟩ := bindE h
  refine .cP (g61 hy3) ?_
  refine .val ?_
  refine .nil ?_
  refine .cond (fun hc4 => ?_) (fun hc4 => ?_)
  · replace h := (if_pos hc4).symm.trans h
    refine .seq ?_
    refine .region ?_
    refine .assign ?_
    refine .nil ?_
    cases h
    refine .imp (Imp.slot 6 (v := .sl 97 (.own (.row 0 0)) (([] : List Glitch).map pv97)) (.own _ (.row 0 0)) rfl) ?_
    exact .ret (fin_gen0 (some (.row 0 0)))
  · replace h := (if_neg (nt hc4)).symm.trans h
    refine .skip ?_
    obtain ⟨j45, hj45, h⟩ := joinE h
    refine .cutI (fun T => (∃ (v43 : (List Glitch)), T = St.of [(7, .sl 97 (.own (.row 9044 0)) (v43.map pv97))] [] ∧ j45 v43 = some r)) ?_ ?_
    · refine .seq ?_
      refine .region ?_
      refine .assign ?_
      refine .nil ?_
      refine .block ?_
      refine .loopI (fun m T => ∃ (v58 : (List Glitch)) (v60 : Int), T = St.of [(1, .int .i64 a1), (2, .int .i64 a2), (3, .ptr (.loc 0 0) 0), (7, .sl 97 (.own (.row 9059 0)) (v58.map pv97)), (8, .int .i64 v60)] [((.loc 0 0), [.int .i64 a0.Limit, .sl 97 .ro (a0.Last.map pv97), .int .i64 (a0.Counts 0), .int .i64 (a0.Counts 1), .int .i64 (a0.Counts 2), .int .i64 (a0.Counts 3), .int .i64 (a0.Counts 4), .int .i64 a0.Frames, .int .i64 (a0.Buckets 0), .int .i64 (a0.Buckets 1), .int .i64 (a0.Buckets 2), .int .i64 (a0.Buckets 3), .int .i64 (a0.Buckets 4), .int .i64 (a0.Buckets 5), .int .i64 (a0.Buckets 6), .int .i64 (a0.Buckets 7), .int .i64 (a0.Buckets 8), .int .i64 (a0.Buckets 9), .int .i64 (a0.Buckets 10), .int .i64 (a0.Buckets 11), .int .i64 (a0.Buckets 12), .int .i64 (a0.Buckets 13), .int .i64 (a0.Buckets 14), .int .i64 (a0.Buckets 15), .int .i64 (a0.Buckets 16), .int .i64 (a0.Buckets 17), .int .i64 (a0.Buckets 18), .int .i64 (a0.Buckets 19), .int .i64 (a0.Buckets 20), .int .i64 (a0.Buckets 21), .int .i64 (a0.Buckets 22), .int .i64 (a0.Buckets 23)])] ∧ f54_l1 n a0 a1 a2 j45 m v58 v60 = some r) _ _ ⟨_, _, rfl, h⟩ (imp_of (.cons rfl (.cons rfl (.cons rfl (.wk (.own _ _) rfl (.cons rfl (.nil)))))) (.cons rfl (.nil))) ?_
      rintro m74 T ⟨v58, v60, rfl, h⟩
      obtain _ | m74 := m74
      · rw [f54_l1] at h; cases h
      rw [f54_l1] at h
      refine .seq ?_
      refine .seq ?_
      refine .region ?_
      refine .move ?_
      refine .val ?_
      refine .val ?_
      refine .lenL (f := pv97) ?_
      refine .val ?_
      refine .nil ?_
      refine .cond (fun hc76 => ?_) (fun hc76 => ?_)
      · replace h := (if_pos hc76).symm.trans h
        refine .skip ?_
        obtain ⟨j85, hj85, h⟩ := joinE h
        refine .cutI (fun T => (∃ (v83 : (List Glitch)), T = St.of [(1, .int .i64 a1), (2, .int .i64 a2), (3, .ptr (.loc 0 0) 0), (7, .sl 97 (.own (.row 9084 0)) (v83.map pv97)), (8, .int .i64 v60)] [((.loc 0 0), [.int .i64 a0.Limit, .sl 97 .ro (a0.Last.map pv97), .int .i64 (a0.Counts 0), .int .i64 (a0.Counts 1), .int .i64 (a0.Counts 2), .int .i64 (a0.Counts 3), .int .i64 (a0.Counts 4), .int .i64 a0.Frames, .int .i64 (a0.Buckets 0), .int .i64 (a0.Buckets 1), .int .i64 (a0.Buckets 2), .int .i64 (a0.Buckets 3), .int .i64 (a0.Buckets 4), .int .i64 (a0.Buckets 5), .int .i64 (a0.Buckets 6), .int .i64 (a0.Buckets 7), .int .i64 (a0.Buckets 8), .int .i64 (a0.Buckets 9), .int .i64 (a0.Buckets 10), .int .i64 (a0.Buckets 11), .int .i64 (a0.Buckets 12), .int .i64 (a0.Buckets 13), .int .i64 (a0.Buckets 14), .int .i64 (a0.Buckets 15), .int .i64 (a0.Buckets 16), .int .i64 (a0.Buckets 17), .int .i64 (a0.Buckets 18), .int .i64 (a0.Buckets 19), .int .i64 (a0.Buckets 20), .int .i64 (a0.Buckets 21), .int .i64 (a0.Buckets 22), .int .i64 (a0.Buckets 23)])] ∧ j85 v83 = some r)) ?_ ?_
        · refine .block ?_
          refine .seq ?_
          refine .region ?_
          refine .val ?_
          refine .val ?_
          refine .move ?_
          obtain ⟨x86, hx86, h⟩ := bindE h
          refine .idxL (f := pv97) hx86 ?_
          refine .ldL hx86 (y := .agg [.int .i64 x86.Kind, .int .i64 x86.At, .int .i64 x86.Quanta, .int .i64 x86.Stream, .int .u64 x86.Device, .int .i64 x86.Frames]) ?_
          refine .allocL (cs := [.int .i64 0, .int .i64 0, .int .i64 0, .int .i64 0, .int .u64 0, .int .i64 0]) ?_
          refine .wrL (cs := [.int .i64 x86.Kind, .int .i64 x86.At, .int .i64 x86.Quanta, .int .i64 x86.Stream, .int .u64 x86.Device, .int .i64 x86.Frames]) ?_
          refine .nil ?_
          obtain ⟨j88, hj88, h⟩ := joinE h
          obtain ⟨j89, hj89, h⟩ := joinE h
          refine .cutI (fun T => (T = St.of [(1, .int .i64 a1), (2, .int .i64 a2), (3, .ptr (.loc 0 0) 0), (7, .sl 97 (.own (.row 9059 0)) (v58.map pv97)), (8, .int .i64 v60), (9, .ptr (.loc 7 5) 0), (38, .bool (decide ((w64 ((w64 (x86.At + x86.Quanta)) - (1 : Int))) ≥ a1)))] [((.loc 0 0), [.int .i64 a0.Limit, .sl 97 .ro (a0.Last.map pv97), .int .i64 (a0.Counts 0), .int .i64 (a0.Counts 1), .int .i64 (a0.Counts 2), .int .i64 (a0.Counts 3), .int .i64 (a0.Counts 4), .int .i64 a0.Frames, .int .i64 (a0.Buckets 0), .int .i64 (a0.Buckets 1), .int .i64 (a0.Buckets 2), .int .i64 (a0.Buckets 3), .int .i64 (a0.Buckets 4), .int .i64 (a0.Buckets 5), .int .i64 (a0.Buckets 6), .int .i64 (a0.Buckets 7), .int .i64 (a0.Buckets 8), .int .i64 (a0.Buckets 9), .int .i64 (a0.Buckets 10), .int .i64 (a0.Buckets 11), .int .i64 (a0.Buckets 12), .int .i64 (a0.Buckets 13), .int .i64 (a0.Buckets 14), .int .i64 (a0.Buckets 15), .int .i64 (a0.Buckets 16), .int .i64 (a0.Buckets 17), .int .i64 (a0.Buckets 18), .int .i64 (a0.Buckets 19), .int .i64 (a0.Buckets 20), .int .i64 (a0.Buckets 21), .int .i64 (a0.Buckets 22), .int .i64 (a0.Buckets 23)]), ((.loc 7 5), [.int .i64 x86.Kind, .int .i64 x86.At, .int .i64 x86.Quanta, .int .i64 x86.Stream, .int .u64 x86.Device, .int .i64 x86.Frames])] ∧ j88 () = some r) ∨ (T = St.of [(1, .int .i64 a1), (2, .int .i64 a2), (3, .ptr (.loc 0 0) 0), (7, .sl 97 (.own (.row 9059 0)) (v58.map pv97)), (8, .int .i64 v60), (9, .ptr (.loc 7 5) 0), (38, .bool false)] [((.loc 0 0), [.int .i64 a0.Limit, .sl 97 .ro (a0.Last.map pv97), .int .i64 (a0.Counts 0), .int .i64 (a0.Counts 1), .int .i64 (a0.Counts 2), .int .i64 (a0.Counts 3), .int .i64 (a0.Counts 4), .int .i64 a0.Frames, .int .i64 (a0.Buckets 0), .int .i64 (a0.Buckets 1), .int .i64 (a0.Buckets 2), .int .i64 (a0.Buckets 3), .int .i64 (a0.Buckets 4), .int .i64 (a0.Buckets 5), .int .i64 (a0.Buckets 6), .int .i64 (a0.Buckets 7), .int .i64 (a0.Buckets 8), .int .i64 (a0.Buckets 9), .int .i64 (a0.Buckets 10), .int .i64 (a0.Buckets 11), .int .i64 (a0.Buckets 12), .int .i64 (a0.Buckets 13), .int .i64 (a0.Buckets 14), .int .i64 (a0.Buckets 15), .int .i64 (a0.Buckets 16), .int .i64 (a0.Buckets 17), .int .i64 (a0.Buckets 18), .int .i64 (a0.Buckets 19), .int .i64 (a0.Buckets 20), .int .i64 (a0.Buckets 21), .int .i64 (a0.Buckets 22), .int .i64 (a0.Buckets 23)]), ((.loc 7 5), [.int .i64 x86.Kind, .int .i64 x86.At, .int .i64 x86.Quanta, .int .i64 x86.Stream, .int .u64 x86.Device, .int .i64 x86.Frames])] ∧ j89 () = some r)) ?_ ?_
          · refine .region ?_
            refine .val ?_
            refine .val ?_
            refine .move ?_
            refine .val ?_
            refine .move ?_
            refine .caseG (fun hc90 => ?_) (fun hc90 => ?_)
            · replace h := (if_pos hc90).symm.trans h
              refine .val ?_
              refine .val ?_
              refine .val ?_
              refine .val ?_
              refine .val ?_
              refine .val ?_
              refine .move ?_
              refine .val ?_
              refine .brT ?_
              refine .nil ?_
              exact ⟨_, (.inl ⟨rfl, h⟩), (imp_of (.cons rfl (.cons rfl (.cons rfl (.cons rfl (.cons rfl (.cons rfl (.cons rfl (.nil)))))))) (.cons rfl (.cons rfl (.nil))))⟩
            · replace h := (if_neg (nt hc90)).symm.trans h
              refine .skip ?_
              refine .skip ?_
              refine .skip ?_
              refine .skip ?_
              refine .skip ?_
              refine .skip ?_
              refine .skip ?_
              refine .skip ?_
              refine .brF ?_
              refine .nil ?_
              exact ⟨_, (.inr (⟨rfl, h⟩)), (imp_of (.cons rfl (.cons rfl (.cons rfl (.cons rfl (.cons rfl (.cons rfl (.cons rfl (.nil)))))))) (.cons rfl (.cons rfl (.nil))))⟩
          · rintro T (⟨rfl, h⟩ | ⟨rfl, h⟩)
            · subst hj88
              refine .cond (fun hc91 => ?_) (fun hc91 => ?_)
              · replace h := (if_pos hc91).symm.trans h
                refine .region ?_
                refine .move ?_
                refine .val (v := .agg [.int .i64 x86.Kind, .int .i64 x86.At, .int .i64 x86.Quanta, .int .i64 x86.Stream, .int .u64 x86.Device, .int .i64 x86.Frames]) ?_
                refine .litR (f := pv97) ([(⟨x86.Kind, x86.At, x86.Quanta, x86.Stream, x86.Device, x86.Frames⟩ : Glitch)] : List Glitch) ?_
                obtain ⟨x92, hx92, h⟩ := bindE h
                refine .appL (f := pv97) hx92 ?_
                refine .assign ?_
                refine .nil ?_
                exact ⟨_, ⟨_, rfl, h⟩, (Imp.trans (Imp.swap (.row 9 3) (.row 9084 0) rfl rfl rfl) (imp_of (.cons rfl (.cons rfl (.cons rfl (.cons rfl (.cons rfl (.nil)))))) (.cons rfl (.nil))))⟩
              · replace h := (if_neg (nt hc91)).symm.trans h
                refine .skip ?_
                exact ⟨_, ⟨_, rfl, h⟩, (Imp.trans (Imp.swap (.row 9059 0) (.row 9084 0) rfl rfl rfl) (imp_of (.cons rfl (.cons rfl (.cons rfl (.cons rfl (.cons rfl (.nil)))))) (.cons rfl (.nil))))⟩
            · subst hj89
              refine .condF ?_
              refine .skip ?_
              exact ⟨_, ⟨_, rfl, h⟩, (Imp.trans (Imp.swap (.row 9059 0) (.row 9084 0) rfl rfl rfl) (imp_of (.cons rfl (.cons rfl (.cons rfl (.cons rfl (.cons rfl (.nil)))))) (.cons rfl (.nil))))⟩
        · rintro T ⟨v83, rfl, h⟩
          subst hj85
          refine .region ?_
          refine .move ?_
          refine .val ?_
          refine .assign ?_
          refine .nil ?_
          exact ⟨m74, _, Nat.lt_succ_self m74, ⟨_, _, rfl, h⟩, (Imp.trans (Imp.swap (.row 9084 0) (.row 9059 0) rfl rfl rfl) (imp_of (.cons rfl (.cons rfl (.cons rfl (.cons rfl (.cons rfl (.nil)))))) (.cons rfl (.nil))))⟩
      · replace h := (if_neg (nt hc76)).symm.trans h
        refine .exit (.hit ?_)
        exact ⟨_, ⟨_, rfl, h⟩, (Imp.trans (Imp.swap (.row 9059 0) (.row 9044 0) rfl rfl rfl) (imp_of (.cons rfl (.nil)) (.nil)))⟩
    · rintro T ⟨v43, rfl, h⟩
      subst hj45
      refine .seq ?_
      refine .region ?_
      refine .move ?_
      refine .assign ?_
      refine .nil ?_
      cases h
      exact .ret (fin_gen0 (some (.row 9044 0)))
theorem g54r {n : Nat} {a0 : Recorder} {a1 : Int} {a2 : Int} {r : (List Glitch)} (h : f54 n a0 a1 a2 = some r) :
    Ab.Can Try.prog 54 [.agg [.int .i64 a0.Limit, .sl 97 .ro (a0.Last.map pv97), .int .i64 (a0.Counts 0), .int .i64 (a0.Counts 1), .int .i64 (a0.Counts 2), .int .i64 (a0.Counts 3), .int .i64 (a0.Counts 4), .int .i64 a0.Frames, .int .i64 (a0.Buckets 0), .int .i64 (a0.Buckets 1), .int .i64 (a0.Buckets 2), .int .i64 (a0.Buckets 3), .int .i64 (a0.Buckets 4), .int .i64 (a0.Buckets 5), .int .i64 (a0.Buckets 6), .int .i64 (a0.Buckets 7), .int .i64 (a0.Buckets 8), .int .i64 (a0.Buckets 9), .int .i64 (a0.Buckets 10), .int .i64 (a0.Buckets 11), .int .i64 (a0.Buckets 12), .int .i64 (a0.Buckets 13), .int .i64 (a0.Buckets 14), .int .i64 (a0.Buckets 15), .int .i64 (a0.Buckets 16), .int .i64 (a0.Buckets 17), .int .i64 (a0.Buckets 18), .int .i64 (a0.Buckets 19), .int .i64 (a0.Buckets 20), .int .i64 (a0.Buckets 21), .int .i64 (a0.Buckets 22), .int .i64 (a0.Buckets 23)], .int .i64 a1, .int .i64 a2] H0 (.sl 97 .ro (r.map pv97)) H0 := Can.frzR (hq := []) (g54 h)

/- soundservice/soundserviceref37.Same -/
def f52_l1 (n : Nat) (a0 : (List Glitch)) (a1 : (List Glitch)) (j17 : Unit → Option Bool) : Nat → Int → Option Bool
  | 0, _ => none
  | m28 + 1, v22 =>
    if decide (v22 < (a0.length : Int)) then (
    (lAt a0 v22).bind fun x34 =>
    (lAt a1 v22).bind fun x35 =>
    if !((x34.Kind == x35.Kind) && (x34.At == x35.At) && (x34.Quanta == x35.Quanta) && (x34.Stream == x35.Stream) && (x34.Device == x35.Device) && (x34.Frames == x35.Frames)) then (
    some false)
    else (
    f52_l1 n a0 a1 j17 m28 (w64 (v22 + (1 : Int)))))
    else (
    j17 ())
def f52 (n : Nat) (a0 : (List Glitch)) (a1 : (List Glitch)) : Option Bool :=
  if ((a0.length : Int) != (a1.length : Int)) then (
  some false)
  else (
  joinK (fun (_ : Unit) =>
  some true) fun j17 =>
  f52_l1 n a0 a1 j17 n 0)
set_option maxHeartbeats 4000000 in
set_option maxRecDepth 100000 in
theorem g52 {n : Nat} {a0 : (List Glitch)} {a1 : (List Glitch)} {r : Bool} (h : f52 n a0 a1 = some r) :
    Ab.Can Try.prog 52 [.sl 97 .ro (a0.map pv97), .sl 97 .ro (a1.map pv97)] H0 (.bool r) H0 := by
  refine can_of tabOK mix Try.call52 Try.func52 rfl (by kernel_rfl) (by show _ ≤ 26; simp) fun _ => ?_
  rw [f52] at h
  refine .seq ?_
  refine .region ?_
  refine .assign ?_
  refine .nil ?_
  refine .seq ?_
  refine .seq ?_
  refine .region ?_
  refine .move ?_
  refine .lenL (f := pv97) ?_
  refine .move ?_
  refine .lenL (f := pv97) ?_
  refine .val ?_
  refine .nil ?_
  refine .cond (fun hc2 => ?_) (fun hc2 => ?_)
  · replace h := (if_pos hc2).symm.trans h
    refine .seq ?_
    refine .region ?_
    refine .assign ?_
    refine .nil ?_
    cases h
    exact .ret (fin_gen0 none)
  · replace h := (if_neg (nt hc2)).symm.trans h
    refine .skip ?_
    obtain ⟨j17, hj17, h⟩ := joinE h
    refine .cutI (fun T => (T = St.of [] [] ∧ j17 () = some r)) ?_ ?_
    · refine .seq ?_
      refine .region ?_
      refine .assign ?_
      refine .nil ?_
      refine .block ?_
      refine .loopI (fun m T => ∃ (v22 : Int), T = St.of [(0, .sl 97 .ro (a0.map pv97)), (1, .sl 97 .ro (a1.map pv97)), (5, .int .i64 v22)] [] ∧ f52_l1 n a0 a1 j17 m v22 = some r) _ _ ⟨_, rfl, h⟩ (imp_of (.cons rfl (.cons rfl (.cons rfl (.nil)))) (.nil)) ?_
      rintro m28 T ⟨v22, rfl, h⟩
      obtain _ | m28 := m28
      · rw [f52_l1] at h; cases h
      rw [f52_l1] at h
      refine .seq ?_
      refine .seq ?_
      refine .region ?_
      refine .move ?_
      refine .move ?_
      refine .lenL (f := pv97) ?_
      refine .val ?_
      refine .nil ?_
      refine .cond (fun hc30 => ?_) (fun hc30 => ?_)
      · replace h := (if_pos hc30).symm.trans h
        refine .skip ?_
        refine .seq ?_
        refine .block ?_
        refine .seq ?_
        obtain ⟨x34, hx34, h⟩ := bindE h
        obtain ⟨x35, hx35, h⟩ := bindE h
        refine .draw [] [[], [], [], [], [], [], [], [], []] [[], [], [], [], [], [], [], [], []] [[]]
          [(0, 0), (1, 0), (2, 0), (3, 0), (4, 0), (5, 0), (6, 0), (7, 0), (8, 0)] [] 0
          [⟨[(17, .sl 97 .ro (a0.map pv97)), (18, .int .i64 v22), (19, .ep 97 .ro (a0.map pv97) (v22 : Int).toNat 0), (20, .agg [.int .i64 x34.Kind, .int .i64 x34.At, .int .i64 x34.Quanta, .int .i64 x34.Stream, .int .u64 x34.Device, .int .i64 x34.Frames]), (21, .sl 97 .ro (a1.map pv97)), (22, .int .i64 v22), (23, .ep 97 .ro (a1.map pv97) (v22 : Int).toNat 0), (24, .agg [.int .i64 x35.Kind, .int .i64 x35.At, .int .i64 x35.Quanta, .int .i64 x35.Stream, .int .u64 x35.Device, .int .i64 x35.Frames]), (25, .bool (!((x34.Kind == x35.Kind) && (x34.At == x35.At) && (x34.Quanta == x35.Quanta) && (x34.Stream == x35.Stream) && (x34.Device == x35.Device) && (x34.Frames == x35.Frames)))), (0, .sl 97 .ro (a0.map pv97)), (1, .sl 97 .ro (a1.map pv97)), (5, .int .i64 v22)], [], []⟩]
          [(0, .sl 97 .ro (a0.map pv97)), (1, .sl 97 .ro (a1.map pv97)), (5, .int .i64 v22)]
          (.cons [0] [] (fun _ _ h => .move (h _)) rfl rfl <|
          .cons [5] [] (fun _ _ h => .move (h _)) rfl rfl <|
          .cons [17, 18] [] (fun _ _ h => .idxL (f := pv97) hx34 (h _)) rfl rfl <|
          .cons [19] [] (fun _ _ h => .ldL hx34 (h _)) rfl rfl <|
          .cons [1] [] (fun _ _ h => .move (h _)) rfl rfl <|
          .cons [5] [] (fun _ _ h => .move (h _)) rfl rfl <|
          .cons [21, 22] [] (fun _ _ h => .idxL (f := pv97) hx35 (h _)) rfl rfl <|
          .cons [23] [] (fun _ _ h => .ldL hx35 (h _)) rfl rfl <|
          .cons [20, 24] [] (fun _ _ h => .eqV (.int (.int (.int (.int (.int (.int .nil)))))) (.int (.int (.int (.int (.int (.int .nil)))))) (neq97 _ _ _ _ _ _ _ _ _ _ _ _ _ _ ) (h _)) rfl rfl <|
          .nil)
          (.nil)
          (by kernel_rfl) rfl (.cons rfl (.cons rfl (.cons rfl (.nil)))) (.nil) (.nil) ?_
        refine .imp (T := St.of [(0, .sl 97 .ro (a0.map pv97)), (1, .sl 97 .ro (a1.map pv97)), (5, .int .i64 v22), (25, .bool (!((x34.Kind == x35.Kind) && (x34.At == x35.At) && (x34.Quanta == x35.Quanta) && (x34.Stream == x35.Stream) && (x34.Device == x35.Device) && (x34.Frames == x35.Frames))))] []) (imp_of (.cons rfl (.cons rfl (.cons rfl (.cons rfl (.nil))))) (.nil)) ?_
        refine .cond (fun hc36 => ?_) (fun hc36 => ?_)
        · replace h := (if_pos hc36).symm.trans h
          refine .seq ?_
          refine .region ?_
          refine .assign ?_
          refine .nil ?_
          cases h
          exact .ret (fin_gen0 none)
        · replace h := (if_neg (nt hc36)).symm.trans h
          refine .skip ?_
          refine .region ?_
          refine .move ?_
          refine .val ?_
          refine .assign ?_
          refine .nil ?_
          exact ⟨m28, _, Nat.lt_succ_self m28, ⟨_, rfl, h⟩, (imp_of (.cons rfl (.cons rfl (.cons rfl (.nil)))) (.nil))⟩
      · replace h := (if_neg (nt hc30)).symm.trans h
        refine .exit (.hit ?_)
        exact ⟨_, ⟨rfl, h⟩, (imp_of (.nil) (.nil))⟩
    · rintro T ⟨rfl, h⟩
      subst hj17
      refine .seq ?_
      refine .region ?_
      refine .assign ?_
      refine .nil ?_
      cases h
      exact .ret (fin_gen0 none)

/- soundservice/soundserviceref38.Most -/
def f55_l1 (n : Nat) (a0 : Recorder) (j27 : Int → Option Int) : Nat → Int → Int → Option Int
  | 0, _, _ => none
  | m46 + 1, v35, v36 =>
    joinK (fun (v55 : Bool) =>
    if v55 then (
    (aIdx 24 v36).bind fun x62 =>
    f55_l1 n a0 j27 m46 (w64 (v35 + (a0.Buckets x62))) (w64 (v36 + (1 : Int))))
    else (
    j27 v35)) fun j56 =>
    joinK (fun (_ : Unit) =>
    j27 v35) fun j57 =>
    if decide (v36 < (24 : Int)) then (
    (f61 n (⟨a0.Limit, a0.Last, a0.Counts, a0.Frames, a0.Buckets⟩ : Recorder)).bind fun y59 =>
    j56 y59)
    else (
    j57 ())
def f55_l2 (n : Nat) (a0 : Recorder) (a1 : Int) (v26 : Int) (j90 : Unit → Option Int) : Nat → Int → Int → Option Int
  | 0, _, _ => none
  | m102 + 1, v94, v95 =>
    if decide (v95 < (24 : Int)) then (
    (aIdx 24 v95).bind fun x108 =>
    if decide ((w64 ((w64 (v94 + (a0.Buckets x108))) * (100 : Int))) ≥ (w64 (a1 * v26))) then (
    (iShl .i64 (1 : Int) v95).bind fun x110 =>
    some (w64 (x110 - (1 : Int))))
    else (
    f55_l2 n a0 a1 v26 j90 m102 (w64 (v94 + (a0.Buckets x108))) (w64 (v95 + (1 : Int)))))
    else (
    j90 ())
def f55 (n : Nat) (a0 : Recorder) (a1 : Int) : Option Int :=
  joinK (fun (v26 : Int) =>
  joinK (fun (_ : Unit) =>
  some 0) fun j70 =>
  joinK (fun (_ : Unit) =>
  if decide (a1 > (100 : Int)) then (
  some 0)
  else (
  joinK (fun (_ : Unit) =>
  some 0) fun j90 =>
  f55_l2 n a0 a1 v26 j90 n 0 0)) fun j71 =>
  if (v26 == (0 : Int)) then (
  j70 ())
  else (
  if decide (a1 < (0 : Int)) then (
  j70 ())
  else (
  j71 ()))) fun j27 =>
  f55_l1 n a0 j27 n 0 0
set_option maxHeartbeats 4000000 in
set_option maxRecDepth 100000 in
theorem g55 {n : Nat} {a0 : Recorder} {a1 : Int} {r : Int} (h : f55 n a0 a1 = some r) :
    Ab.Can Try.prog 55 [.agg [.int .i64 a0.Limit, .sl 97 .ro (a0.Last.map pv97), .int .i64 (a0.Counts 0), .int .i64 (a0.Counts 1), .int .i64 (a0.Counts 2), .int .i64 (a0.Counts 3), .int .i64 (a0.Counts 4), .int .i64 a0.Frames, .int .i64 (a0.Buckets 0), .int .i64 (a0.Buckets 1), .int .i64 (a0.Buckets 2), .int .i64 (a0.Buckets 3), .int .i64 (a0.Buckets 4), .int .i64 (a0.Buckets 5), .int .i64 (a0.Buckets 6), .int .i64 (a0.Buckets 7), .int .i64 (a0.Buckets 8), .int .i64 (a0.Buckets 9), .int .i64 (a0.Buckets 10), .int .i64 (a0.Buckets 11), .int .i64 (a0.Buckets 12), .int .i64 (a0.Buckets 13), .int .i64 (a0.Buckets 14), .int .i64 (a0.Buckets 15), .int .i64 (a0.Buckets 16), .int .i64 (a0.Buckets 17), .int .i64 (a0.Buckets 18), .int .i64 (a0.Buckets 19), .int .i64 (a0.Buckets 20), .int .i64 (a0.Buckets 21), .int .i64 (a0.Buckets 22), .int .i64 (a0.Buckets 23)], .int .i64 a1] H0 (.int .i64 r) H0 := by
  refine can_of tabOK mix Try.call55 Try.func55 rfl (by kernel_rfl) (by show _ ≤ 52; simp) fun _ => ?_
  rw [f55] at h
  refine .seq ?_
  refine .region ?_
  refine .boxL (cs := [.int .i64 a0.Limit, .sl 97 .ro (a0.Last.map pv97), .int .i64 (a0.Counts 0), .int .i64 (a0.Counts 1), .int .i64 (a0.Counts 2), .int .i64 (a0.Counts 3), .int .i64 (a0.Counts 4), .int .i64 a0.Frames, .int .i64 (a0.Buckets 0), .int .i64 (a0.Buckets 1), .int .i64 (a0.Buckets 2), .int .i64 (a0.Buckets 3), .int .i64 (a0.Buckets 4), .int .i64 (a0.Buckets 5), .int .i64 (a0.Buckets 6), .int .i64 (a0.Buckets 7), .int .i64 (a0.Buckets 8), .int .i64 (a0.Buckets 9), .int .i64 (a0.Buckets 10), .int .i64 (a0.Buckets 11), .int .i64 (a0.Buckets 12), .int .i64 (a0.Buckets 13), .int .i64 (a0.Buckets 14), .int .i64 (a0.Buckets 15), .int .i64 (a0.Buckets 16), .int .i64 (a0.Buckets 17), .int .i64 (a0.Buckets 18), .int .i64 (a0.Buckets 19), .int .i64 (a0.Buckets 20), .int .i64 (a0.Buckets 21), .int .i64 (a0.Buckets 22), .int .i64 (a0.Buckets 23)]) ?_
  refine .assign ?_
  refine .nil ?_
  refine .seq ?_
  refine .region ?_
  refine .assign ?_
  refine .nil ?_
  obtain ⟨j27, hj27, h⟩ := joinE h
  refine .cutI (fun T => (∃ (v26 : Int), T = St.of [(1, .int .i64 a1), (2, .ptr (.loc 0 0) 0), (5, .int .i64 v26)] [((.loc 0 0), [.int .i64 a0.Limit, .sl 97 .ro (a0.Last.map pv97), .int .i64 (a0.Counts 0), .int .i64 (a0.Counts 1), .int .i64 (a0.Counts 2), .int .i64 (a0.Counts 3), .int .i64 (a0.Counts 4), .int .i64 a0.Frames, .int .i64 (a0.Buckets 0), .int .i64 (a0.Buckets 1), .int .i64 (a0.Buckets 2), .int .i64 (a0.Buckets 3), .int .i64 (a0.Buckets 4), .int .i64 (a0.Buckets 5), .int .i64 (a0.Buckets 6), .int .i64 (a0.Buckets 7), .int .i64 (a0.Buckets 8), .int .i64 (a0.Buckets 9), .int .i64 (a0.Buckets 10), .int .i64 (a0.Buckets 11), .int .i64 (a0.Buckets 12), .int .i64 (a0.Buckets 13), .int .i64 (a0.Buckets 14), .int .i64 (a0.Buckets 15), .int .i64 (a0.Buckets 16), .int .i64 (a0.Buckets 17), .int .i64 (a0.Buckets 18), .int .i64 (a0.Buckets 19), .int .i64 (a0.Buckets 20), .int .i64 (a0.Buckets 21), .int .i64 (a0.Buckets 22), .int .i64 (a0.Buckets 23)])] ∧ j27 v26 = some r)) ?_ ?_
  · refine .seq ?_
    refine .region ?_
    refine .assign ?_
    refine .nil ?_
    refine .block ?_
    refine .loopI (fun m T => ∃ (v35 : Int) (v36 : Int), T = St.of [(1, .int .i64 a1), (2, .ptr (.loc 0 0) 0), (5, .int .i64 v35), (6, .int .i64 v36)] [((.loc 0 0), [.int .i64 a0.Limit, .sl 97 .ro (a0.Last.map pv97), .int .i64 (a0.Counts 0), .int .i64 (a0.Counts 1), .int .i64 (a0.Counts 2), .int .i64 (a0.Counts 3), .int .i64 (a0.Counts 4), .int .i64 a0.Frames, .int .i64 (a0.Buckets 0), .int .i64 (a0.Buckets 1), .int .i64 (a0.Buckets 2), .int .i64 (a0.Buckets 3), .int .i64 (a0.Buckets 4), .int .i64 (a0.Buckets 5), .int .i64 (a0.Buckets 6), .int .i64 (a0.Buckets 7), .int .i64 (a0.Buckets 8), .int .i64 (a0.Buckets 9), .int .i64 (a0.Buckets 10), .int .i64 (a0.Buckets 11), .int .i64 (a0.Buckets 12), .int .i64 (a0.Buckets 13), .int .i64 (a0.Buckets 14), .int .i64 (a0.Buckets 15), .int .i64 (a0.Buckets 16), .int .i64 (a0.Buckets 17), .int .i64 (a0.Buckets 18), .int .i64 (a0.Buckets 19), .int .i64 (a0.Buckets 20), .int .i64 (a0.Buckets 21), .int .i64 (a0.Buckets 22), .int .i64 (a0.Buckets 23)])] ∧ f55_l1 n a0 j27 m v35 v36 = some r) _ _ ⟨_, _, rfl, h⟩ (imp_of (.cons rfl (.cons rfl (.cons rfl (.cons rfl (.nil))))) (.cons rfl (.nil))) ?_
    rintro m46 T ⟨v35, v36, rfl, h⟩
    obtain _ | m46 := m46
    · rw [f55_l1] at h; cases h
    rw [f55_l1] at h
    refine .seq ?_
    obtain ⟨j56, hj56, h⟩ := joinE h
    obtain ⟨j57, hj57, h⟩ := joinE h
    refine .cutI (fun T => (∃ (v55 : Bool), T = St.of [(1, .int .i64 a1), (2, .ptr (.loc 0 0) 0), (5, .int .i64 v35), (6, .int .i64 v36), (14, .bool v55)] [((.loc 0 0), [.int .i64 a0.Limit, .sl 97 .ro (a0.Last.map pv97), .int .i64 (a0.Counts 0), .int .i64 (a0.Counts 1), .int .i64 (a0.Counts 2), .int .i64 (a0.Counts 3), .int .i64 (a0.Counts 4), .int .i64 a0.Frames, .int .i64 (a0.Buckets 0), .int .i64 (a0.Buckets 1), .int .i64 (a0.Buckets 2), .int .i64 (a0.Buckets 3), .int .i64 (a0.Buckets 4), .int .i64 (a0.Buckets 5), .int .i64 (a0.Buckets 6), .int .i64 (a0.Buckets 7), .int .i64 (a0.Buckets 8), .int .i64 (a0.Buckets 9), .int .i64 (a0.Buckets 10), .int .i64 (a0.Buckets 11), .int .i64 (a0.Buckets 12), .int .i64 (a0.Buckets 13), .int .i64 (a0.Buckets 14), .int .i64 (a0.Buckets 15), .int .i64 (a0.Buckets 16), .int .i64 (a0.Buckets 17), .int .i64 (a0.Buckets 18), .int .i64 (a0.Buckets 19), .int .i64 (a0.Buckets 20), .int .i64 (a0.Buckets 21), .int .i64 (a0.Buckets 22), .int .i64 (a0.Buckets 23)])] ∧ j56 v55 = some r) ∨ (T = St.of [(1, .int .i64 a1), (2, .ptr (.loc 0 0) 0), (5, .int .i64 v35), (6, .int .i64 v36), (14, .bool false)] [((.loc 0 0), [.int .i64 a0.Limit, .sl 97 .ro (a0.Last.map pv97), .int .i64 (a0.Counts 0), .int .i64 (a0.Counts 1), .int .i64 (a0.Counts 2), .int .i64 (a0.Counts 3), .int .i64 (a0.Counts 4), .int .i64 a0.Frames, .int .i64 (a0.Buckets 0), .int .i64 (a0.Buckets 1), .int .i64 (a0.Buckets 2), .int .i64 (a0.Buckets 3), .int .i64 (a0.Buckets 4), .int .i64 (a0.Buckets 5), .int .i64 (a0.Buckets 6), .int .i64 (a0.Buckets 7), .int .i64 (a0.Buckets 8), .int .i64 (a0.Buckets 9), .int .i64 (a0.Buckets 10), .int .i64 (a0.Buckets 11), .int .i64 (a0.Buckets 12), .int .i64 (a0.Buckets 13), .int .i64 (a0.Buckets 14), .int .i64 (a0.Buckets 15), .int .i64 (a0.Buckets 16), .int .i64 (a0.Buckets 17), .int .i64 (a0.Buckets 18), .int .i64 (a0.Buckets 19), .int .i64 (a0.Buckets 20), .int .i64 (a0.Buckets 21), .int .i64 (a0.Buckets 22), .int .i64 (a0.Buckets 23)])] ∧ j57 () = some r)) ?_ ?_
    · refine .region ?_
      refine .move ?_
      refine .val ?_
      refine .move ?_
      refine .caseG (fun hc58 => ?_) (fun hc58 => ?_)
      · replace h := (if_pos hc58).symm.trans h
        refine .val (v := .agg [.int .i64 a0.Limit, .sl 97 .ro (a0.Last.map pv97), .int .i64 (a0.Counts 0), .int .i64 (a0.Counts 1), .int .i64 (a0.Counts 2), .int .i64 (a0.Counts 3), .int .i64 (a0.Counts 4), .int .i64 a0.Frames, .int .i64 (a0.Buckets 0), .int .i64 (a0.Buckets 1), .int .i64 (a0.Buckets 2), .int .i64 (a0.Buckets 3), .int .i64 (a0.Buckets 4), .int .i64 (a0.Buckets 5), .int .i64 (a0.Buckets 6), .int .i64 (a0.Buckets 7), .int .i64 (a0.Buckets 8), .int .i64 (a0.Buckets 9), .int .i64 (a0.Buckets 10), .int .i64 (a0.Buckets 11), .int .i64 (a0.Buckets 12), .int .i64 (a0.Buckets 13), .int .i64 (a0.Buckets 14), .int .i64 (a0.Buckets 15), .int .i64 (a0.Buckets 16), .int .i64 (a0.Buckets 17), .int .i64 (a0.Buckets 18), .int .i64 (a0.Buckets 19), .int .i64 (a0.Buckets 20), .int .i64 (a0.Buckets 21), .int .i64 (a0.Buckets 22), .int .i64 (a0.Buckets 23)]) ?_
        obtain ⟨y59, hy59, h⟩ := bindE h
        refine .cP (g61 hy59) ?_
        refine .brT ?_
        refine .nil ?_
        exact ⟨_, (.inl ⟨_, rfl, h⟩), (imp_of (.cons rfl (.cons rfl (.cons rfl (.cons rfl (.cons rfl (.nil)))))) (.cons rfl (.nil)))⟩
      · replace h := (if_neg (nt hc58)).symm.trans h
        refine .skip ?_
        refine .skip ?_
        refine .brF ?_
        refine .nil ?_
        exact ⟨_, (.inr (⟨rfl, h⟩)), (imp_of (.cons rfl (.cons rfl (.cons rfl (.cons rfl (.cons rfl (.nil)))))) (.cons rfl (.nil)))⟩
    · rintro T (⟨v55, rfl, h⟩ | ⟨rfl, h⟩)
      · subst hj56
        refine .cond (fun hc60 => ?_) (fun hc60 => ?_)
        · replace h := (if_pos hc60).symm.trans h
          refine .skip ?_
          refine .seq ?_
          refine .block ?_
          refine .region ?_
          refine .move ?_
          refine .move ?_
          refine .val ?_
          obtain ⟨x62, hx62, h⟩ := bindE h
          refine .idxA hx62 ?_
          refine .ldA hx62 (A := a0.Buckets) ?_
          refine .val ?_
          refine .assign ?_
          refine .nil ?_
          refine .region ?_
          refine .move ?_
          refine .val ?_
          refine .assign ?_
          refine .nil ?_
          exact ⟨m46, _, Nat.lt_succ_self m46, ⟨_, _, rfl, h⟩, (imp_of (.cons rfl (.cons rfl (.cons rfl (.cons rfl (.nil))))) (.cons rfl (.nil)))⟩
        · replace h := (if_neg (nt hc60)).symm.trans h
          refine .exit (.hit ?_)
          exact ⟨_, ⟨_, rfl, h⟩, (imp_of (.cons rfl (.cons rfl (.cons rfl (.nil)))) (.cons rfl (.nil)))⟩
      · subst hj57
        refine .condF ?_
        refine .exit (.hit ?_)
        exact ⟨_, ⟨_, rfl, h⟩, (imp_of (.cons rfl (.cons rfl (.cons rfl (.nil)))) (.cons rfl (.nil)))⟩
  · rintro T ⟨v26, rfl, h⟩
    subst hj27
    refine .seq ?_
    obtain ⟨j70, hj70, h⟩ := joinE h
    obtain ⟨j71, hj71, h⟩ := joinE h
    refine .cutI (fun T => (T = St.of [(1, .int .i64 a1), (2, .ptr (.loc 0 0) 0), (5, .int .i64 v26), (32, .bool true)] [((.loc 0 0), [.int .i64 a0.Limit, .sl 97 .ro (a0.Last.map pv97), .int .i64 (a0.Counts 0), .int .i64 (a0.Counts 1), .int .i64 (a0.Counts 2), .int .i64 (a0.Counts 3), .int .i64 (a0.Counts 4), .int .i64 a0.Frames, .int .i64 (a0.Buckets 0), .int .i64 (a0.Buckets 1), .int .i64 (a0.Buckets 2), .int .i64 (a0.Buckets 3), .int .i64 (a0.Buckets 4), .int .i64 (a0.Buckets 5), .int .i64 (a0.Buckets 6), .int .i64 (a0.Buckets 7), .int .i64 (a0.Buckets 8), .int .i64 (a0.Buckets 9), .int .i64 (a0.Buckets 10), .int .i64 (a0.Buckets 11), .int .i64 (a0.Buckets 12), .int .i64 (a0.Buckets 13), .int .i64 (a0.Buckets 14), .int .i64 (a0.Buckets 15), .int .i64 (a0.Buckets 16), .int .i64 (a0.Buckets 17), .int .i64 (a0.Buckets 18), .int .i64 (a0.Buckets 19), .int .i64 (a0.Buckets 20), .int .i64 (a0.Buckets 21), .int .i64 (a0.Buckets 22), .int .i64 (a0.Buckets 23)])] ∧ j70 () = some r) ∨ (T = St.of [(1, .int .i64 a1), (2, .ptr (.loc 0 0) 0), (5, .int .i64 v26), (32, .bool (decide (a1 > (100 : Int))))] [((.loc 0 0), [.int .i64 a0.Limit, .sl 97 .ro (a0.Last.map pv97), .int .i64 (a0.Counts 0), .int .i64 (a0.Counts 1), .int .i64 (a0.Counts 2), .int .i64 (a0.Counts 3), .int .i64 (a0.Counts 4), .int .i64 a0.Frames, .int .i64 (a0.Buckets 0), .int .i64 (a0.Buckets 1), .int .i64 (a0.Buckets 2), .int .i64 (a0.Buckets 3), .int .i64 (a0.Buckets 4), .int .i64 (a0.Buckets 5), .int .i64 (a0.Buckets 6), .int .i64 (a0.Buckets 7), .int .i64 (a0.Buckets 8), .int .i64 (a0.Buckets 9), .int .i64 (a0.Buckets 10), .int .i64 (a0.Buckets 11), .int .i64 (a0.Buckets 12), .int .i64 (a0.Buckets 13), .int .i64 (a0.Buckets 14), .int .i64 (a0.Buckets 15), .int .i64 (a0.Buckets 16), .int .i64 (a0.Buckets 17), .int .i64 (a0.Buckets 18), .int .i64 (a0.Buckets 19), .int .i64 (a0.Buckets 20), .int .i64 (a0.Buckets 21), .int .i64 (a0.Buckets 22), .int .i64 (a0.Buckets 23)])] ∧ j71 () = some r)) ?_ ?_
    · refine .region ?_
      refine .move ?_
      refine .val ?_
      refine .move ?_
      refine .caseG (fun hc72 => ?_) (fun hc72 => ?_)
      · replace h := (if_pos hc72).symm.trans h
        refine .skip ?_
        refine .skip ?_
        refine .brT ?_
        refine .move ?_
        refine .skip ?_
        refine .skip ?_
        refine .brT ?_
        refine .nil ?_
        exact ⟨_, (.inl ⟨rfl, h⟩), (imp_of (.cons rfl (.cons rfl (.cons rfl (.cons rfl (.nil))))) (.cons rfl (.nil)))⟩
      · replace h := (if_neg (nt hc72)).symm.trans h
        refine .move ?_
        refine .val ?_
        refine .brF ?_
        refine .move ?_
        refine .caseG (fun hc73 => ?_) (fun hc73 => ?_)
        · replace h := (if_pos hc73).symm.trans h
          refine .skip ?_
          refine .skip ?_
          refine .brT ?_
          refine .nil ?_
          exact ⟨_, (.inl ⟨rfl, h⟩), (imp_of (.cons rfl (.cons rfl (.cons rfl (.cons rfl (.nil))))) (.cons rfl (.nil)))⟩
        · replace h := (if_neg (nt hc73)).symm.trans h
          refine .move ?_
          refine .val ?_
          refine .brF ?_
          refine .nil ?_
          exact ⟨_, (.inr (⟨rfl, h⟩)), (imp_of (.cons rfl (.cons rfl (.cons rfl (.cons rfl (.nil))))) (.cons rfl (.nil)))⟩
    · rintro T (⟨rfl, h⟩ | ⟨rfl, h⟩)
      · subst hj70
        refine .condT ?_
        refine .seq ?_
        refine .region ?_
        refine .assign ?_
        refine .nil ?_
        cases h
        exact .ret (fin_gen0 none)
      · subst hj71
        refine .cond (fun hc74 => ?_) (fun hc74 => ?_)
        · replace h := (if_pos hc74).symm.trans h
          refine .seq ?_
          refine .region ?_
          refine .assign ?_
          refine .nil ?_
          cases h
          exact .ret (fin_gen0 none)
        · replace h := (if_neg (nt hc74)).symm.trans h
          refine .skip ?_
          refine .seq ?_
          refine .region ?_
          refine .assign ?_
          refine .nil ?_
          obtain ⟨j90, hj90, h⟩ := joinE h
          refine .cutI (fun T => (T = St.of [] [] ∧ j90 () = some r)) ?_ ?_
          · refine .seq ?_
            refine .region ?_
            refine .assign ?_
            refine .nil ?_
            refine .block ?_
            refine .loopI (fun m T => ∃ (v94 : Int) (v95 : Int), T = St.of [(1, .int .i64 a1), (2, .ptr (.loc 0 0) 0), (5, .int .i64 v26), (7, .int .i64 v94), (8, .int .i64 v95)] [((.loc 0 0), [.int .i64 a0.Limit, .sl 97 .ro (a0.Last.map pv97), .int .i64 (a0.Counts 0), .int .i64 (a0.Counts 1), .int .i64 (a0.Counts 2), .int .i64 (a0.Counts 3), .int .i64 (a0.Counts 4), .int .i64 a0.Frames, .int .i64 (a0.Buckets 0), .int .i64 (a0.Buckets 1), .int .i64 (a0.Buckets 2), .int .i64 (a0.Buckets 3), .int .i64 (a0.Buckets 4), .int .i64 (a0.Buckets 5), .int .i64 (a0.Buckets 6), .int .i64 (a0.Buckets 7), .int .i64 (a0.Buckets 8), .int .i64 (a0.Buckets 9), .int .i64 (a0.Buckets 10), .int .i64 (a0.Buckets 11), .int .i64 (a0.Buckets 12), .int .i64 (a0.Buckets 13), .int .i64 (a0.Buckets 14), .int .i64 (a0.Buckets 15), .int .i64 (a0.Buckets 16), .int .i64 (a0.Buckets 17), .int .i64 (a0.Buckets 18), .int .i64 (a0.Buckets 19), .int .i64 (a0.Buckets 20), .int .i64 (a0.Buckets 21), .int .i64 (a0.Buckets 22), .int .i64 (a0.Buckets 23)])] ∧ f55_l2 n a0 a1 v26 j90 m v94 v95 = some r) _ _ ⟨_, _, rfl, h⟩ (imp_of (.cons rfl (.cons rfl (.cons rfl (.cons rfl (.cons rfl (.nil)))))) (.cons rfl (.nil))) ?_
            rintro m102 T ⟨v94, v95, rfl, h⟩
            obtain _ | m102 := m102
            · rw [f55_l2] at h; cases h
            rw [f55_l2] at h
            refine .seq ?_
            refine .seq ?_
            refine .region ?_
            refine .move ?_
            refine .val ?_
            refine .nil ?_
            refine .cond (fun hc104 => ?_) (fun hc104 => ?_)
            · replace h := (if_pos hc104).symm.trans h
              refine .skip ?_
              refine .seq ?_
              refine .block ?_
              refine .seq ?_
              refine .region ?_
              refine .move ?_
              refine .move ?_
              refine .val ?_
              obtain ⟨x108, hx108, h⟩ := bindE h
              refine .idxA hx108 ?_
              refine .ldA hx108 (A := a0.Buckets) ?_
              refine .val ?_
              refine .assign ?_
              refine .nil ?_
              refine .seq ?_
              refine .region ?_
              refine .move ?_
              refine .val ?_
              refine .move ?_
              refine .move ?_
              refine .val ?_
              refine .val ?_
              refine .nil ?_
              refine .cond (fun hc109 => ?_) (fun hc109 => ?_)
              · replace h := (if_pos hc109).symm.trans h
                refine .seq ?_
                refine .region ?_
                refine .move ?_
                obtain ⟨x110, hx110, h⟩ := bindE h
                refine .shlL hx110 ?_
                refine .val ?_
                refine .assign ?_
                refine .nil ?_
                cases h
                exact .ret (fin_gen0 none)
              · replace h := (if_neg (nt hc109)).symm.trans h
                refine .skip ?_
                refine .region ?_
                refine .move ?_
                refine .val ?_
                refine .assign ?_
                refine .nil ?_
                exact ⟨m102, _, Nat.lt_succ_self m102, ⟨_, _, rfl, h⟩, (imp_of (.cons rfl (.cons rfl (.cons rfl (.cons rfl (.cons rfl (.nil)))))) (.cons rfl (.nil)))⟩
            · replace h := (if_neg (nt hc104)).symm.trans h
              refine .exit (.hit ?_)
              exact ⟨_, ⟨rfl, h⟩, (imp_of (.nil) (.nil))⟩
          · rintro T ⟨rfl, h⟩
            subst hj90
            refine .seq ?_
            refine .region ?_
            refine .assign ?_
            refine .nil ?_
            cases h
            exact .ret (fin_gen0 none)

/- soundservice/recorder.Note -/
def f63 (n : Nat) (a0 : Recorder) (a1 : Glitch) : Option (Recorder × Int) :=
  (f60 n (⟨a0.Limit, a0.Last, a0.Counts, a0.Frames, a0.Buckets⟩ : Recorder)).bind fun y5 =>
  if !y5 then (
  some ((⟨0, ([] : List Glitch), aZ, 0, aZ⟩ : Recorder), 1))
  else (
  (f97 n (⟨a1.Kind, a1.At, a1.Quanta, a1.Stream, a1.Device, a1.Frames⟩ : Glitch)).bind fun y7 =>
  if !y7 then (
  some ((⟨0, ([] : List Glitch), aZ, 0, aZ⟩ : Recorder), 2))
  else (
  (aIdx 5 a1.Kind).bind fun x9 =>
  (f77 n (a0.Counts x9) (1 : Int)).bind fun y10 =>
  (aIdx 5 a1.Kind).bind fun x11 =>
  (f77 n a0.Frames a1.Frames).bind fun y12 =>
  (f78 n a0.Last).bind fun y13 =>
  joinK (fun (_ : Unit) =>
  (lApp y13 ([(⟨a1.Kind, a1.At, a1.Quanta, a1.Stream, a1.Device, a1.Frames⟩ : Glitch)] : List Glitch)).bind fun x25 =>
  (lPart x25 (iMax (0 : Int) (w64 ((x25.length : Int) - a0.Limit))) (x25.length : Int)).bind fun x26 =>
  some ((⟨a0.Limit, x26, (aUp a0.Counts x11 y10), y12, a0.Buckets⟩ : Recorder), 0)) fun j19 =>
  if decide ((y13.length : Int) > (0 : Int)) then (
  (lAt y13 (w64 ((y13.length : Int) - (1 : Int)))).bind fun x21 =>
  (f102 n x21 (⟨a1.Kind, a1.At, a1.Quanta, a1.Stream, a1.Device, a1.Frames⟩ : Glitch)).bind fun y22 =>
  if y22.2 then (
  (lAt y13 (w64 ((y13.length : Int) - (1 : Int)))).bind fun x24 =>
  some ((⟨a0.Limit, y13.set (w64 ((y13.length : Int) - (1 : Int)) : Int).toNat (⟨y22.1.Kind, y22.1.At, y22.1.Quanta, y22.1.Stream, y22.1.Device, y22.1.Frames⟩ : Glitch), (aUp a0.Counts x11 y10), y12, a0.Buckets⟩ : Recorder), 0))
  else (
  j19 ()))
  else (
  j19 ())))
set_option maxHeartbeats 4000000 in
set_option maxRecDepth 100000 in
theorem g63 {n : Nat} {a0 : Recorder} {a1 : Glitch} {r : (Recorder × Int)} (h : f63 n a0 a1 = some r) :
    Ab.Can Try.prog 63 [.agg [.int .i64 a0.Limit, .sl 97 .ro (a0.Last.map pv97), .int .i64 (a0.Counts 0), .int .i64 (a0.Counts 1), .int .i64 (a0.Counts 2), .int .i64 (a0.Counts 3), .int .i64 (a0.Counts 4), .int .i64 a0.Frames, .int .i64 (a0.Buckets 0), .int .i64 (a0.Buckets 1), .int .i64 (a0.Buckets 2), .int .i64 (a0.Buckets 3), .int .i64 (a0.Buckets 4), .int .i64 (a0.Buckets 5), .int .i64 (a0.Buckets 6), .int .i64 (a0.Buckets 7), .int .i64 (a0.Buckets 8), .int .i64 (a0.Buckets 9), .int .i64 (a0.Buckets 10), .int .i64 (a0.Buckets 11), .int .i64 (a0.Buckets 12), .int .i64 (a0.Buckets 13), .int .i64 (a0.Buckets 14), .int .i64 (a0.Buckets 15), .int .i64 (a0.Buckets 16), .int .i64 (a0.Buckets 17), .int .i64 (a0.Buckets 18), .int .i64 (a0.Buckets 19), .int .i64 (a0.Buckets 20), .int .i64 (a0.Buckets 21), .int .i64 (a0.Buckets 22), .int .i64 (a0.Buckets 23)], .agg [.int .i64 a1.Kind, .int .i64 a1.At, .int .i64 a1.Quanta, .int .i64 a1.Stream, .int .u64 a1.Device, .int .i64 a1.Frames]] H0 (.tup [.agg [.int .i64 r.1.Limit, .sl 97 .ro (r.1.Last.map pv97), .int .i64 (r.1.Counts 0), .int .i64 (r.1.Counts 1), .int .i64 (r.1.Counts 2), .int .i64 (r.1.Counts 3), .int .i64 (r.1.Counts 4), .int .i64 r.1.Frames, .int .i64 (r.1.Buckets 0), .int .i64 (r.1.Buckets 1), .int .i64 (r.1.Buckets 2), .int .i64 (r.1.Buckets 3), .int .i64 (r.1.Buckets 4), .int .i64 (r.1.Buckets 5), .int .i64 (r.1.Buckets 6), .int .i64 (r.1.Buckets 7), .int .i64 (r.1.Buckets 8), .int .i64 (r.1.Buckets 9), .int .i64 (r.1.Buckets 10), .int .i64 (r.1.Buckets 11), .int .i64 (r.1.Buckets 12), .int .i64 (r.1.Buckets 13), .int .i64 (r.1.Buckets 14), .int .i64 (r.1.Buckets 15), .int .i64 (r.1.Buckets 16), .int .i64 (r.1.Buckets 17), .int .i64 (r.1.Buckets 18), .int .i64 (r.1.Buckets 19), .int .i64 (r.1.Buckets 20), .int .i64 (r.1.Buckets 21), .int .i64 (r.1.Buckets 22), .int .i64 (r.1.Buckets 23)], .int .i64 r.2]) H0 := by
  refine can_of tabOK mix Try.call63 Try.func63 rfl (by kernel_rfl) (by show _ ≤ 81; simp) fun _ => ?_
  rw [f63] at h
  refine .seq ?_
  refine .region ?_
  refine .boxL (cs := [.int .i64 a0.Limit, .sl 97 .ro (a0.Last.map pv97), .int .i64 (a0.Counts 0), .int .i64 (a0.Counts 1), .int .i64 (a0.Counts 2), .int .i64 (a0.Counts 3), .int .i64 (a0.Counts 4), .int .i64 a0.Frames, .int .i64 (a0.Buckets 0), .int .i64 (a0.Buckets 1), .int .i64 (a0.Buckets 2), .int .i64 (a0.Buckets 3), .int .i64 (a0.Buckets 4), .int .i64 (a0.Buckets 5), .int .i64 (a0.Buckets 6), .int .i64 (a0.Buckets 7), .int .i64 (a0.Buckets 8), .int .i64 (a0.Buckets 9), .int .i64 (a0.Buckets 10), .int .i64 (a0.Buckets 11), .int .i64 (a0.Buckets 12), .int .i64 (a0.Buckets 13), .int .i64 (a0.Buckets 14), .int .i64 (a0.Buckets 15), .int .i64 (a0.Buckets 16), .int .i64 (a0.Buckets 17), .int .i64 (a0.Buckets 18), .int .i64 (a0.Buckets 19), .int .i64 (a0.Buckets 20), .int .i64 (a0.Buckets 21), .int .i64 (a0.Buckets 22), .int .i64 (a0.Buckets 23)]) ?_
  refine .boxL (cs := [.int .i64 a1.Kind, .int .i64 a1.At, .int .i64 a1.Quanta, .int .i64 a1.Stream, .int .u64 a1.Device, .int .i64 a1.Frames]) ?_
  refine .allocL (cs := [.int .i64 0, .sl 97 .full [], .int .i64 (aZ 0), .int .i64 (aZ 1), .int .i64 (aZ 2), .int .i64 (aZ 3), .int .i64 (aZ 4), .int .i64 0, .int .i64 (aZ 0), .int .i64 (aZ 1), .int .i64 (aZ 2), .int .i64 (aZ 3), .int .i64 (aZ 4), .int .i64 (aZ 5), .int .i64 (aZ 6), .int .i64 (aZ 7), .int .i64 (aZ 8), .int .i64 (aZ 9), .int .i64 (aZ 10), .int .i64 (aZ 11), .int .i64 (aZ 12), .int .i64 (aZ 13), .int .i64 (aZ 14), .int .i64 (aZ 15), .int .i64 (aZ 16), .int .i64 (aZ 17), .int .i64 (aZ 18), .int .i64 (aZ 19), .int .i64 (aZ 20), .int .i64 (aZ 21), .int .i64 (aZ 22), .int .i64 (aZ 23)]) ?_
  refine .assign ?_
  refine .nil ?_
  refine .seq ?_
  refine .block ?_
  refine .seq ?_
  refine .region ?_
  refine .val (v := .agg [.int .i64 a0.Limit, .sl 97 .ro (a0.Last.map pv97), .int .i64 (a0.Counts 0), .int .i64 (a0.Counts 1), .int .i64 (a0.Counts 2), .int .i64 (a0.Counts 3), .int .i64 (a0.Counts 4), .int .i64 a0.Frames, .int .i64 (a0.Buckets 0), .int .i64 (a0.Buckets 1), .int .i64 (a0.Buckets 2), .int .i64 (a0.Buckets 3), .int .i64 (a0.Buckets 4), .int .i64 (a0.Buckets 5), .int .i64 (a0.Buckets 6), .int .i64 (a0.Buckets 7), .int .i64 (a0.Buckets 8), .int .i64 (a0.Buckets 9), .int .i64 (a0.Buckets 10), .int .i64 (a0.Buckets 11), .int .i64 (a0.Buckets 12), .int .i64 (a0.Buckets 13), .int .i64 (a0.Buckets 14), .int .i64 (a0.Buckets 15), .int .i64 (a0.Buckets 16), .int .i64 (a0.Buckets 17), .int .i64 (a0.Buckets 18), .int .i64 (a0.Buckets 19), .int .i64 (a0.Buckets 20), .int .i64 (a0.Buckets 21), .int .i64 (a0.Buckets 22), .int .i64 (a0.Buckets 23)]) ?_
  obtain ⟨y5, hy5, h⟩ := bindE h
  refine .cP (g60 hy5) ?_
  refine .val ?_
  refine .assign ?_
  refine .nil ?_
  refine .cond (fun hc6 => ?_) (fun hc6 => ?_)
  · replace h := (if_pos hc6).symm.trans h
    refine .seq ?_
    refine .region ?_
    refine .buildL (cs := [.int .i64 0, .sl 97 .full [], .int .i64 (aZ 0), .int .i64 (aZ 1), .int .i64 (aZ 2), .int .i64 (aZ 3), .int .i64 (aZ 4), .int .i64 0, .int .i64 (aZ 0), .int .i64 (aZ 1), .int .i64 (aZ 2), .int .i64 (aZ 3), .int .i64 (aZ 4), .int .i64 (aZ 5), .int .i64 (aZ 6), .int .i64 (aZ 7), .int .i64 (aZ 8), .int .i64 (aZ 9), .int .i64 (aZ 10), .int .i64 (aZ 11), .int .i64 (aZ 12), .int .i64 (aZ 13), .int .i64 (aZ 14), .int .i64 (aZ 15), .int .i64 (aZ 16), .int .i64 (aZ 17), .int .i64 (aZ 18), .int .i64 (aZ 19), .int .i64 (aZ 20), .int .i64 (aZ 21), .int .i64 (aZ 22), .int .i64 (aZ 23)]) ?_
    refine .wrL (cs := [.int .i64 0, .sl 97 .full [], .int .i64 (aZ 0), .int .i64 (aZ 1), .int .i64 (aZ 2), .int .i64 (aZ 3), .int .i64 (aZ 4), .int .i64 0, .int .i64 (aZ 0), .int .i64 (aZ 1), .int .i64 (aZ 2), .int .i64 (aZ 3), .int .i64 (aZ 4), .int .i64 (aZ 5), .int .i64 (aZ 6), .int .i64 (aZ 7), .int .i64 (aZ 8), .int .i64 (aZ 9), .int .i64 (aZ 10), .int .i64 (aZ 11), .int .i64 (aZ 12), .int .i64 (aZ 13), .int .i64 (aZ 14), .int .i64 (aZ 15), .int .i64 (aZ 16), .int .i64 (aZ 17), .int .i64 (aZ 18), .int .i64 (aZ 19), .int .i64 (aZ 20), .int .i64 (aZ 21), .int .i64 (aZ 22), .int .i64 (aZ 23)]) ?_
    refine .assign ?_
    refine .nil ?_
    cases h
    refine .imp (Imp.cell (.loc 0 2) (ds := [.int .i64 0, .sl 97 .ro (([] : List Glitch).map pv97), .int .i64 (aZ 0), .int .i64 (aZ 1), .int .i64 (aZ 2), .int .i64 (aZ 3), .int .i64 (aZ 4), .int .i64 0, .int .i64 (aZ 0), .int .i64 (aZ 1), .int .i64 (aZ 2), .int .i64 (aZ 3), .int .i64 (aZ 4), .int .i64 (aZ 5), .int .i64 (aZ 6), .int .i64 (aZ 7), .int .i64 (aZ 8), .int .i64 (aZ 9), .int .i64 (aZ 10), .int .i64 (aZ 11), .int .i64 (aZ 12), .int .i64 (aZ 13), .int .i64 (aZ 14), .int .i64 (aZ 15), .int .i64 (aZ 16), .int .i64 (aZ 17), .int .i64 (aZ 18), .int .i64 (aZ 19), .int .i64 (aZ 20), .int .i64 (aZ 21), .int .i64 (aZ 22), .int .i64 (aZ 23)]) (.cons (.refl _) rfl (.cons (.ro _ _) rfl (.cons (.refl _) rfl (.cons (.refl _) rfl (.cons (.refl _) rfl (.cons (.refl _) rfl (.cons (.refl _) rfl (.cons (.refl _) rfl (.cons (.refl _) rfl (.cons (.refl _) rfl (.cons (.refl _) rfl (.cons (.refl _) rfl (.cons (.refl _) rfl (.cons (.refl _) rfl (.cons (.refl _) rfl (.cons (.refl _) rfl (.cons (.refl _) rfl (.cons (.refl _) rfl (.cons (.refl _) rfl (.cons (.refl _) rfl (.cons (.refl _) rfl (.cons (.refl _) rfl (.cons (.refl _) rfl (.cons (.refl _) rfl (.cons (.refl _) rfl (.cons (.refl _) rfl (.cons (.refl _) rfl (.cons (.refl _) rfl (.cons (.refl _) rfl (.cons (.refl _) rfl (.cons (.refl _) rfl (.cons (.refl _) rfl (.nil))))))))))))))))))))))))))))))))) rfl) ?_
    exact .ret (fin_gen0 none)
  · replace h := (if_neg (nt hc6)).symm.trans h
    refine .seq ?_
    refine .region ?_
    refine .val (v := .agg [.int .i64 a1.Kind, .int .i64 a1.At, .int .i64 a1.Quanta, .int .i64 a1.Stream, .int .u64 a1.Device, .int .i64 a1.Frames]) ?_
    obtain ⟨y7, hy7, h⟩ := bindE h
    refine .cP (g97 hy7) ?_
    refine .val ?_
    refine .assign ?_
    refine .nil ?_
    refine .cond (fun hc8 => ?_) (fun hc8 => ?_)
    · replace h := (if_pos hc8).symm.trans h
      refine .seq ?_
      refine .region ?_
      refine .buildL (cs := [.int .i64 0, .sl 97 .full [], .int .i64 (aZ 0), .int .i64 (aZ 1), .int .i64 (aZ 2), .int .i64 (aZ 3), .int .i64 (aZ 4), .int .i64 0, .int .i64 (aZ 0), .int .i64 (aZ 1), .int .i64 (aZ 2), .int .i64 (aZ 3), .int .i64 (aZ 4), .int .i64 (aZ 5), .int .i64 (aZ 6), .int .i64 (aZ 7), .int .i64 (aZ 8), .int .i64 (aZ 9), .int .i64 (aZ 10), .int .i64 (aZ 11), .int .i64 (aZ 12), .int .i64 (aZ 13), .int .i64 (aZ 14), .int .i64 (aZ 15), .int .i64 (aZ 16), .int .i64 (aZ 17), .int .i64 (aZ 18), .int .i64 (aZ 19), .int .i64 (aZ 20), .int .i64 (aZ 21), .int .i64 (aZ 22), .int .i64 (aZ 23)]) ?_
      refine .wrL (cs := [.int .i64 0, .sl 97 .full [], .int .i64 (aZ 0), .int .i64 (aZ 1), .int .i64 (aZ 2), .int .i64 (aZ 3), .int .i64 (aZ 4), .int .i64 0, .int .i64 (aZ 0), .int .i64 (aZ 1), .int .i64 (aZ 2), .int .i64 (aZ 3), .int .i64 (aZ 4), .int .i64 (aZ 5), .int .i64 (aZ 6), .int .i64 (aZ 7), .int .i64 (aZ 8), .int .i64 (aZ 9), .int .i64 (aZ 10), .int .i64 (aZ 11), .int .i64 (aZ 12), .int .i64 (aZ 13), .int .i64 (aZ 14), .int .i64 (aZ 15), .int .i64 (aZ 16), .int .i64 (aZ 17), .int .i64 (aZ 18), .int .i64 (aZ 19), .int .i64 (aZ 20), .int .i64 (aZ 21), .int .i64 (aZ 22), .int .i64 (aZ 23)]) ?_
      refine .assign ?_
      refine .nil ?_
      cases h
      refine .imp (Imp.cell (.loc 0 2) (ds := [.int .i64 0, .sl 97 .ro (([] : List Glitch).map pv97), .int .i64 (aZ 0), .int .i64 (aZ 1), .int .i64 (aZ 2), .int .i64 (aZ 3), .int .i64 (aZ 4), .int .i64 0, .int .i64 (aZ 0), .int .i64 (aZ 1), .int .i64 (aZ 2), .int .i64 (aZ 3), .int .i64 (aZ 4), .int .i64 (aZ 5), .int .i64 (aZ 6), .int .i64 (aZ 7), .int .i64 (aZ 8), .int .i64 (aZ 9), .int .i64 (aZ 10), .int .i64 (aZ 11), .int .i64 (aZ 12), .int .i64 (aZ 13), .int .i64 (aZ 14), .int .i64 (aZ 15), .int .i64 (aZ 16), .int .i64 (aZ 17), .int .i64 (aZ 18), .int .i64 (aZ 19), .int .i64 (aZ 20), .int .i64 (aZ 21), .int .i64 (aZ 22), .int .i64 (aZ 23)]) (.cons (.refl _) rfl (.cons (.ro _ _) rfl (.cons (.refl _) rfl (.cons (.refl _) rfl (.cons (.refl _) rfl (.cons (.refl _) rfl (.cons (.refl _) rfl (.cons (.refl _) rfl (.cons (.refl _) rfl (.cons (.refl _) rfl (.cons (.refl _) rfl (.cons (.refl _) rfl (.cons (.refl _) rfl (.cons (.refl _) rfl (.cons (.refl _) rfl (.cons (.refl _) rfl (.cons (.refl _) rfl (.cons (.refl _) rfl (.cons (.refl _) rfl (.cons (.refl _) rfl (.cons (.refl _) rfl (.cons (.refl _) rfl (.cons (.refl _) rfl (.cons (.refl _) rfl (.cons (.refl _) rfl (.cons (.refl _) rfl (.cons (.refl _) rfl (.cons (.refl _) rfl (.cons (.refl _) rfl (.cons (.refl _) rfl (.cons (.refl _) rfl (.cons (.refl _) rfl (.nil))))))))))))))))))))))))))))))))) rfl) ?_
      exact .ret (fin_gen0 none)
    · replace h := (if_neg (nt hc8)).symm.trans h
      refine .skip ?_
      refine .seq ?_
      obtain ⟨x9, hx9, h⟩ := bindE h
      obtain ⟨y10, hy10, h⟩ := bindE h
      obtain ⟨x11, hx11, h⟩ := bindE h
      refine .draw [10] [[], [], [], [], [], [], [], [], [], [], []] [[10], [10], [10], [10], [10], [10], [10], [10], [10], [10], []] [[], [10]]
        [(0, 0), (1, 0), (2, 0), (3, 0), (4, 0), (5, 0), (6, 0), (7, 0), (8, 0), (9, 0)] [(0, 10, 1)] 1
        [⟨[(19, .ptr (.loc 0 1) 0), (20, .int .i64 a1.Kind), (21, .ptr (.loc 0 1) 0), (22, .int .i64 a1.Kind), (23, .ptr (.loc 0 0) 2), (24, .ptr (.loc 0 0) (2 + x9)), (25, .int .i64 (a0.Counts x9)), (26, .int .i64 y10), (27, .ptr (.loc 0 0) 2), (28, .ptr (.loc 0 0) (2 + x11)), (2, .ptr (.loc 0 0) 0), (3, .ptr (.loc 0 1) 0), (4, .ptr (.loc 0 2) 0)], [], [((.loc 0 0), [.int .i64 a0.Limit, .sl 97 .ro (a0.Last.map pv97), .int .i64 (a0.Counts 0), .int .i64 (a0.Counts 1), .int .i64 (a0.Counts 2), .int .i64 (a0.Counts 3), .int .i64 (a0.Counts 4), .int .i64 a0.Frames, .int .i64 (a0.Buckets 0), .int .i64 (a0.Buckets 1), .int .i64 (a0.Buckets 2), .int .i64 (a0.Buckets 3), .int .i64 (a0.Buckets 4), .int .i64 (a0.Buckets 5), .int .i64 (a0.Buckets 6), .int .i64 (a0.Buckets 7), .int .i64 (a0.Buckets 8), .int .i64 (a0.Buckets 9), .int .i64 (a0.Buckets 10), .int .i64 (a0.Buckets 11), .int .i64 (a0.Buckets 12), .int .i64 (a0.Buckets 13), .int .i64 (a0.Buckets 14), .int .i64 (a0.Buckets 15), .int .i64 (a0.Buckets 16), .int .i64 (a0.Buckets 17), .int .i64 (a0.Buckets 18), .int .i64 (a0.Buckets 19), .int .i64 (a0.Buckets 20), .int .i64 (a0.Buckets 21), .int .i64 (a0.Buckets 22), .int .i64 (a0.Buckets 23)]), ((.loc 0 1), [.int .i64 a1.Kind, .int .i64 a1.At, .int .i64 a1.Quanta, .int .i64 a1.Stream, .int .u64 a1.Device, .int .i64 a1.Frames]), ((.loc 0 2), [.int .i64 0, .sl 97 .full [], .int .i64 (aZ 0), .int .i64 (aZ 1), .int .i64 (aZ 2), .int .i64 (aZ 3), .int .i64 (aZ 4), .int .i64 0, .int .i64 (aZ 0), .int .i64 (aZ 1), .int .i64 (aZ 2), .int .i64 (aZ 3), .int .i64 (aZ 4), .int .i64 (aZ 5), .int .i64 (aZ 6), .int .i64 (aZ 7), .int .i64 (aZ 8), .int .i64 (aZ 9), .int .i64 (aZ 10), .int .i64 (aZ 11), .int .i64 (aZ 12), .int .i64 (aZ 13), .int .i64 (aZ 14), .int .i64 (aZ 15), .int .i64 (aZ 16), .int .i64 (aZ 17), .int .i64 (aZ 18), .int .i64 (aZ 19), .int .i64 (aZ 20), .int .i64 (aZ 21), .int .i64 (aZ 22), .int .i64 (aZ 23)])]⟩,
        ⟨[(19, .ptr (.loc 0 1) 0), (20, .int .i64 a1.Kind), (21, .ptr (.loc 0 1) 0), (22, .int .i64 a1.Kind), (23, .ptr (.loc 0 0) 2), (24, .ptr (.loc 0 0) (2 + x9)), (25, .int .i64 (a0.Counts x9)), (26, .int .i64 y10), (27, .ptr (.loc 0 0) 2), (28, .ptr (.loc 0 0) (2 + x11)), (2, .ptr (.loc 0 0) 0), (3, .ptr (.loc 0 1) 0), (4, .ptr (.loc 0 2) 0)], [], [((.loc 0 0), [.int .i64 a0.Limit, .sl 97 .ro (a0.Last.map pv97), .int .i64 ((aUp a0.Counts x11 y10) 0), .int .i64 ((aUp a0.Counts x11 y10) 1), .int .i64 ((aUp a0.Counts x11 y10) 2), .int .i64 ((aUp a0.Counts x11 y10) 3), .int .i64 ((aUp a0.Counts x11 y10) 4), .int .i64 a0.Frames, .int .i64 (a0.Buckets 0), .int .i64 (a0.Buckets 1), .int .i64 (a0.Buckets 2), .int .i64 (a0.Buckets 3), .int .i64 (a0.Buckets 4), .int .i64 (a0.Buckets 5), .int .i64 (a0.Buckets 6), .int .i64 (a0.Buckets 7), .int .i64 (a0.Buckets 8), .int .i64 (a0.Buckets 9), .int .i64 (a0.Buckets 10), .int .i64 (a0.Buckets 11), .int .i64 (a0.Buckets 12), .int .i64 (a0.Buckets 13), .int .i64 (a0.Buckets 14), .int .i64 (a0.Buckets 15), .int .i64 (a0.Buckets 16), .int .i64 (a0.Buckets 17), .int .i64 (a0.Buckets 18), .int .i64 (a0.Buckets 19), .int .i64 (a0.Buckets 20), .int .i64 (a0.Buckets 21), .int .i64 (a0.Buckets 22), .int .i64 (a0.Buckets 23)]), ((.loc 0 1), [.int .i64 a1.Kind, .int .i64 a1.At, .int .i64 a1.Quanta, .int .i64 a1.Stream, .int .u64 a1.Device, .int .i64 a1.Frames]), ((.loc 0 2), [.int .i64 0, .sl 97 .full [], .int .i64 (aZ 0), .int .i64 (aZ 1), .int .i64 (aZ 2), .int .i64 (aZ 3), .int .i64 (aZ 4), .int .i64 0, .int .i64 (aZ 0), .int .i64 (aZ 1), .int .i64 (aZ 2), .int .i64 (aZ 3), .int .i64 (aZ 4), .int .i64 (aZ 5), .int .i64 (aZ 6), .int .i64 (aZ 7), .int .i64 (aZ 8), .int .i64 (aZ 9), .int .i64 (aZ 10), .int .i64 (aZ 11), .int .i64 (aZ 12), .int .i64 (aZ 13), .int .i64 (aZ 14), .int .i64 (aZ 15), .int .i64 (aZ 16), .int .i64 (aZ 17), .int .i64 (aZ 18), .int .i64 (aZ 19), .int .i64 (aZ 20), .int .i64 (aZ 21), .int .i64 (aZ 22), .int .i64 (aZ 23)])]⟩]
        [(2, .ptr (.loc 0 0) 0), (3, .ptr (.loc 0 1) 0), (4, .ptr (.loc 0 2) 0)]
        (.cons [3] [] (fun _ _ h => .val (h _)) rfl rfl <|
        .cons [19] [] (fun _ _ h => .val (h _)) rfl rfl <|
        .cons [3] [] (fun _ _ h => .val (h _)) rfl rfl <|
        .cons [21] [] (fun _ _ h => .val (h _)) rfl rfl <|
        .cons [2] [] (fun _ _ h => .val (h _)) rfl rfl <|
        .cons [23, 22] [] (fun _ _ h => .idxA hx9 (h _)) rfl rfl <|
        .cons [24] [] (fun _ _ h => .ldA hx9 (A := a0.Counts) (h _)) rfl rfl <|
        .cons [25] [] (fun _ _ h => .cP (g77 hy10) (h _)) rfl rfl <|
        .cons [2] [] (fun _ _ h => .val (h _)) rfl rfl <|
        .cons [27, 20] [] (fun _ _ h => .idxA hx11 (h _)) rfl rfl <|
        .nil)
        (.cons (fun x => x) [28, 26] [] (fun _ _ h => .stA hx11 (A := a0.Counts) (cs' := [.int .i64 a0.Limit, .sl 97 .ro (a0.Last.map pv97), .int .i64 ((aUp a0.Counts x11 y10) 0), .int .i64 ((aUp a0.Counts x11 y10) 1), .int .i64 ((aUp a0.Counts x11 y10) 2), .int .i64 ((aUp a0.Counts x11 y10) 3), .int .i64 ((aUp a0.Counts x11 y10) 4), .int .i64 a0.Frames, .int .i64 (a0.Buckets 0), .int .i64 (a0.Buckets 1), .int .i64 (a0.Buckets 2), .int .i64 (a0.Buckets 3), .int .i64 (a0.Buckets 4), .int .i64 (a0.Buckets 5), .int .i64 (a0.Buckets 6), .int .i64 (a0.Buckets 7), .int .i64 (a0.Buckets 8), .int .i64 (a0.Buckets 9), .int .i64 (a0.Buckets 10), .int .i64 (a0.Buckets 11), .int .i64 (a0.Buckets 12), .int .i64 (a0.Buckets 13), .int .i64 (a0.Buckets 14), .int .i64 (a0.Buckets 15), .int .i64 (a0.Buckets 16), .int .i64 (a0.Buckets 17), .int .i64 (a0.Buckets 18), .int .i64 (a0.Buckets 19), .int .i64 (a0.Buckets 20), .int .i64 (a0.Buckets 21), .int .i64 (a0.Buckets 22), .int .i64 (a0.Buckets 23)]) (h _ _ (.cons rfl (.cons rfl (.cons rfl (.nil)))))) rfl (.old rfl (.old rfl (.old rfl (.old rfl (.old rfl (.old rfl (.old rfl (.old rfl (.old rfl (.old rfl (.old rfl (.old rfl (.old rfl (.nil)))))))))))))) rfl rfl <|
        .nil)
        (by kernel_rfl) rfl (.cons rfl (.cons rfl (.cons rfl (.nil)))) (.nil) (.cons rfl (.cons rfl (.cons rfl (.nil)))) ?_
      refine .imp (T := St.of [(2, .ptr (.loc 0 0) 0), (3, .ptr (.loc 0 1) 0), (4, .ptr (.loc 0 2) 0)] [((.loc 0 0), [.int .i64 a0.Limit, .sl 97 .ro (a0.Last.map pv97), .int .i64 ((aUp a0.Counts x11 y10) 0), .int .i64 ((aUp a0.Counts x11 y10) 1), .int .i64 ((aUp a0.Counts x11 y10) 2), .int .i64 ((aUp a0.Counts x11 y10) 3), .int .i64 ((aUp a0.Counts x11 y10) 4), .int .i64 a0.Frames, .int .i64 (a0.Buckets 0), .int .i64 (a0.Buckets 1), .int .i64 (a0.Buckets 2), .int .i64 (a0.Buckets 3), .int .i64 (a0.Buckets 4), .int .i64 (a0.Buckets 5), .int .i64 (a0.Buckets 6), .int .i64 (a0.Buckets 7), .int .i64 (a0.Buckets 8), .int .i64 (a0.Buckets 9), .int .i64 (a0.Buckets 10), .int .i64 (a0.Buckets 11), .int .i64 (a0.Buckets 12), .int .i64 (a0.Buckets 13), .int .i64 (a0.Buckets 14), .int .i64 (a0.Buckets 15), .int .i64 (a0.Buckets 16), .int .i64 (a0.Buckets 17), .int .i64 (a0.Buckets 18), .int .i64 (a0.Buckets 19), .int .i64 (a0.Buckets 20), .int .i64 (a0.Buckets 21), .int .i64 (a0.Buckets 22), .int .i64 (a0.Buckets 23)]), ((.loc 0 1), [.int .i64 a1.Kind, .int .i64 a1.At, .int .i64 a1.Quanta, .int .i64 a1.Stream, .int .u64 a1.Device, .int .i64 a1.Frames]), ((.loc 0 2), [.int .i64 0, .sl 97 .full [], .int .i64 (aZ 0), .int .i64 (aZ 1), .int .i64 (aZ 2), .int .i64 (aZ 3), .int .i64 (aZ 4), .int .i64 0, .int .i64 (aZ 0), .int .i64 (aZ 1), .int .i64 (aZ 2), .int .i64 (aZ 3), .int .i64 (aZ 4), .int .i64 (aZ 5), .int .i64 (aZ 6), .int .i64 (aZ 7), .int .i64 (aZ 8), .int .i64 (aZ 9), .int .i64 (aZ 10), .int .i64 (aZ 11), .int .i64 (aZ 12), .int .i64 (aZ 13), .int .i64 (aZ 14), .int .i64 (aZ 15), .int .i64 (aZ 16), .int .i64 (aZ 17), .int .i64 (aZ 18), .int .i64 (aZ 19), .int .i64 (aZ 20), .int .i64 (aZ 21), .int .i64 (aZ 22), .int .i64 (aZ 23)])]) (imp_of (.cons rfl (.cons rfl (.cons rfl (.nil)))) (.cons rfl (.cons rfl (.cons rfl (.nil))))) ?_
      refine .seq ?_
      refine .region ?_
      refine .val ?_
      refine .val ?_
      refine .val ?_
      refine .val ?_
      obtain ⟨y12, hy12, h⟩ := bindE h
      refine .cP (g77 hy12) ?_
      refine .val ?_
      refine .wrL (cs := [.int .i64 a0.Limit, .sl 97 .ro (a0.Last.map pv97), .int .i64 ((aUp a0.Counts x11 y10) 0), .int .i64 ((aUp a0.Counts x11 y10) 1), .int .i64 ((aUp a0.Counts x11 y10) 2), .int .i64 ((aUp a0.Counts x11 y10) 3), .int .i64 ((aUp a0.Counts x11 y10) 4), .int .i64 y12, .int .i64 (a0.Buckets 0), .int .i64 (a0.Buckets 1), .int .i64 (a0.Buckets 2), .int .i64 (a0.Buckets 3), .int .i64 (a0.Buckets 4), .int .i64 (a0.Buckets 5), .int .i64 (a0.Buckets 6), .int .i64 (a0.Buckets 7), .int .i64 (a0.Buckets 8), .int .i64 (a0.Buckets 9), .int .i64 (a0.Buckets 10), .int .i64 (a0.Buckets 11), .int .i64 (a0.Buckets 12), .int .i64 (a0.Buckets 13), .int .i64 (a0.Buckets 14), .int .i64 (a0.Buckets 15), .int .i64 (a0.Buckets 16), .int .i64 (a0.Buckets 17), .int .i64 (a0.Buckets 18), .int .i64 (a0.Buckets 19), .int .i64 (a0.Buckets 20), .int .i64 (a0.Buckets 21), .int .i64 (a0.Buckets 22), .int .i64 (a0.Buckets 23)]) ?_
      refine .nil ?_
      refine .seq ?_
      refine .region ?_
      refine .val ?_
      refine .val ?_
      obtain ⟨y13, hy13, h⟩ := bindE h
      refine .cO (.row 7 2) (g78 hy13) (u := .sl 97 (.own (.row 7 2)) (y13.map pv97)) ?_
      refine .val ?_
      refine .wrL (cs := [.int .i64 a0.Limit, .sl 97 (.own (.row 7 2)) (y13.map pv97), .int .i64 ((aUp a0.Counts x11 y10) 0), .int .i64 ((aUp a0.Counts x11 y10) 1), .int .i64 ((aUp a0.Counts x11 y10) 2), .int .i64 ((aUp a0.Counts x11 y10) 3), .int .i64 ((aUp a0.Counts x11 y10) 4), .int .i64 y12, .int .i64 (a0.Buckets 0), .int .i64 (a0.Buckets 1), .int .i64 (a0.Buckets 2), .int .i64 (a0.Buckets 3), .int .i64 (a0.Buckets 4), .int .i64 (a0.Buckets 5), .int .i64 (a0.Buckets 6), .int .i64 (a0.Buckets 7), .int .i64 (a0.Buckets 8), .int .i64 (a0.Buckets 9), .int .i64 (a0.Buckets 10), .int .i64 (a0.Buckets 11), .int .i64 (a0.Buckets 12), .int .i64 (a0.Buckets 13), .int .i64 (a0.Buckets 14), .int .i64 (a0.Buckets 15), .int .i64 (a0.Buckets 16), .int .i64 (a0.Buckets 17), .int .i64 (a0.Buckets 18), .int .i64 (a0.Buckets 19), .int .i64 (a0.Buckets 20), .int .i64 (a0.Buckets 21), .int .i64 (a0.Buckets 22), .int .i64 (a0.Buckets 23)]) ?_
      refine .nil ?_
      obtain ⟨j19, hj19, h⟩ := joinE h
      refine .cutI (fun T => (T = St.of [(2, .ptr (.loc 0 0) 0), (3, .ptr (.loc 0 1) 0), (4, .ptr (.loc 0 2) 0)] [((.loc 0 0), [.int .i64 a0.Limit, .sl 97 (.own (.row 7 2)) (y13.map pv97), .int .i64 ((aUp a0.Counts x11 y10) 0), .int .i64 ((aUp a0.Counts x11 y10) 1), .int .i64 ((aUp a0.Counts x11 y10) 2), .int .i64 ((aUp a0.Counts x11 y10) 3), .int .i64 ((aUp a0.Counts x11 y10) 4), .int .i64 y12, .int .i64 (a0.Buckets 0), .int .i64 (a0.Buckets 1), .int .i64 (a0.Buckets 2), .int .i64 (a0.Buckets 3), .int .i64 (a0.Buckets 4), .int .i64 (a0.Buckets 5), .int .i64 (a0.Buckets 6), .int .i64 (a0.Buckets 7), .int .i64 (a0.Buckets 8), .int .i64 (a0.Buckets 9), .int .i64 (a0.Buckets 10), .int .i64 (a0.Buckets 11), .int .i64 (a0.Buckets 12), .int .i64 (a0.Buckets 13), .int .i64 (a0.Buckets 14), .int .i64 (a0.Buckets 15), .int .i64 (a0.Buckets 16), .int .i64 (a0.Buckets 17), .int .i64 (a0.Buckets 18), .int .i64 (a0.Buckets 19), .int .i64 (a0.Buckets 20), .int .i64 (a0.Buckets 21), .int .i64 (a0.Buckets 22), .int .i64 (a0.Buckets 23)]), ((.loc 0 1), [.int .i64 a1.Kind, .int .i64 a1.At, .int .i64 a1.Quanta, .int .i64 a1.Stream, .int .u64 a1.Device, .int .i64 a1.Frames]), ((.loc 0 2), [.int .i64 0, .sl 97 .full [], .int .i64 (aZ 0), .int .i64 (aZ 1), .int .i64 (aZ 2), .int .i64 (aZ 3), .int .i64 (aZ 4), .int .i64 0, .int .i64 (aZ 0), .int .i64 (aZ 1), .int .i64 (aZ 2), .int .i64 (aZ 3), .int .i64 (aZ 4), .int .i64 (aZ 5), .int .i64 (aZ 6), .int .i64 (aZ 7), .int .i64 (aZ 8), .int .i64 (aZ 9), .int .i64 (aZ 10), .int .i64 (aZ 11), .int .i64 (aZ 12), .int .i64 (aZ 13), .int .i64 (aZ 14), .int .i64 (aZ 15), .int .i64 (aZ 16), .int .i64 (aZ 17), .int .i64 (aZ 18), .int .i64 (aZ 19), .int .i64 (aZ 20), .int .i64 (aZ 21), .int .i64 (aZ 22), .int .i64 (aZ 23)])] ∧ j19 () = some r)) ?_ ?_
      · refine .seq ?_
        refine .region ?_
        refine .val ?_
        refine .val ?_
        refine .lenL (f := pv97) ?_
        refine .assign ?_
        refine .nil ?_
        refine .seq ?_
        refine .region ?_
        refine .move ?_
        refine .val ?_
        refine .nil ?_
        refine .cond (fun hc20 => ?_) (fun hc20 => ?_)
        · replace h := (if_pos hc20).symm.trans h
          refine .seq ?_
          obtain ⟨x21, hx21, h⟩ := bindE h
          obtain ⟨y22, hy22, h⟩ := bindE h
          refine .draw [11, 12] [[], [], [], [], [], [], [], [], [], [], [], [], [11], [11, 12]] [[12], [12], [12], [12], [12], [12], [12], [12], [12], [12], [], [12], [], []] [[], [11], [11, 12]]
            [(0, 0), (0, 1), (1, 0), (1, 1), (2, 0), (2, 1), (3, 0), (3, 1), (4, 0), (4, 1), (5, 0), (5, 1), (6, 0), (6, 1), (7, 0), (7, 1), (8, 0), (8, 1), (9, 0), (9, 1), (10, 0), (10, 1), (10, 2), (13, 2)] [(0, 11, 1), (1, 12, 2)] 2
            [⟨[(45, .ptr (.loc 0 0) 1), (46, .sl 97 (.own (.row 7 2)) (y13.map pv97)), (47, .int .i64 (y13.length : Int)), (48, .int .i64 (w64 ((y13.length : Int) - (1 : Int)))), (49, .ep 97 (.own (.row 7 2)) (y13.map pv97) (w64 ((y13.length : Int) - (1 : Int)) : Int).toNat 0), (50, .agg [.int .i64 x21.Kind, .int .i64 x21.At, .int .i64 x21.Quanta, .int .i64 x21.Stream, .int .u64 x21.Device, .int .i64 x21.Frames]), (51, .agg [.int .i64 a1.Kind, .int .i64 a1.At, .int .i64 a1.Quanta, .int .i64 a1.Stream, .int .u64 a1.Device, .int .i64 a1.Frames]), (52, .tup [.agg [.int .i64 y22.1.Kind, .int .i64 y22.1.At, .int .i64 y22.1.Quanta, .int .i64 y22.1.Stream, .int .u64 y22.1.Device, .int .i64 y22.1.Frames], .bool y22.2]), (44, .tup [.agg [.int .i64 y22.1.Kind, .int .i64 y22.1.At, .int .i64 y22.1.Quanta, .int .i64 y22.1.Stream, .int .u64 y22.1.Device, .int .i64 y22.1.Frames], .bool y22.2]), (53, .agg [.int .i64 y22.1.Kind, .int .i64 y22.1.At, .int .i64 y22.1.Quanta, .int .i64 y22.1.Stream, .int .u64 y22.1.Device, .int .i64 y22.1.Frames]), (54, .bool y22.2), (2, .ptr (.loc 0 0) 0), (3, .ptr (.loc 0 1) 0), (4, .ptr (.loc 0 2) 0), (6, .int .i64 (y13.length : Int))], [], [((.loc 0 0), [.int .i64 a0.Limit, .sl 97 (.own (.row 7 2)) (y13.map pv97), .int .i64 ((aUp a0.Counts x11 y10) 0), .int .i64 ((aUp a0.Counts x11 y10) 1), .int .i64 ((aUp a0.Counts x11 y10) 2), .int .i64 ((aUp a0.Counts x11 y10) 3), .int .i64 ((aUp a0.Counts x11 y10) 4), .int .i64 y12, .int .i64 (a0.Buckets 0), .int .i64 (a0.Buckets 1), .int .i64 (a0.Buckets 2), .int .i64 (a0.Buckets 3), .int .i64 (a0.Buckets 4), .int .i64 (a0.Buckets 5), .int .i64 (a0.Buckets 6), .int .i64 (a0.Buckets 7), .int .i64 (a0.Buckets 8), .int .i64 (a0.Buckets 9), .int .i64 (a0.Buckets 10), .int .i64 (a0.Buckets 11), .int .i64 (a0.Buckets 12), .int .i64 (a0.Buckets 13), .int .i64 (a0.Buckets 14), .int .i64 (a0.Buckets 15), .int .i64 (a0.Buckets 16), .int .i64 (a0.Buckets 17), .int .i64 (a0.Buckets 18), .int .i64 (a0.Buckets 19), .int .i64 (a0.Buckets 20), .int .i64 (a0.Buckets 21), .int .i64 (a0.Buckets 22), .int .i64 (a0.Buckets 23)]), ((.loc 0 1), [.int .i64 a1.Kind, .int .i64 a1.At, .int .i64 a1.Quanta, .int .i64 a1.Stream, .int .u64 a1.Device, .int .i64 a1.Frames]), ((.loc 0 2), [.int .i64 0, .sl 97 .full [], .int .i64 (aZ 0), .int .i64 (aZ 1), .int .i64 (aZ 2), .int .i64 (aZ 3), .int .i64 (aZ 4), .int .i64 0, .int .i64 (aZ 0), .int .i64 (aZ 1), .int .i64 (aZ 2), .int .i64 (aZ 3), .int .i64 (aZ 4), .int .i64 (aZ 5), .int .i64 (aZ 6), .int .i64 (aZ 7), .int .i64 (aZ 8), .int .i64 (aZ 9), .int .i64 (aZ 10), .int .i64 (aZ 11), .int .i64 (aZ 12), .int .i64 (aZ 13), .int .i64 (aZ 14), .int .i64 (aZ 15), .int .i64 (aZ 16), .int .i64 (aZ 17), .int .i64 (aZ 18), .int .i64 (aZ 19), .int .i64 (aZ 20), .int .i64 (aZ 21), .int .i64 (aZ 22), .int .i64 (aZ 23)])]⟩,
            ⟨[(45, .ptr (.loc 0 0) 1), (46, .sl 97 (.own (.row 7 2)) (y13.map pv97)), (47, .int .i64 (y13.length : Int)), (48, .int .i64 (w64 ((y13.length : Int) - (1 : Int)))), (49, .ep 97 (.own (.row 7 2)) (y13.map pv97) (w64 ((y13.length : Int) - (1 : Int)) : Int).toNat 0), (50, .agg [.int .i64 x21.Kind, .int .i64 x21.At, .int .i64 x21.Quanta, .int .i64 x21.Stream, .int .u64 x21.Device, .int .i64 x21.Frames]), (51, .agg [.int .i64 a1.Kind, .int .i64 a1.At, .int .i64 a1.Quanta, .int .i64 a1.Stream, .int .u64 a1.Device, .int .i64 a1.Frames]), (52, .tup [.agg [.int .i64 y22.1.Kind, .int .i64 y22.1.At, .int .i64 y22.1.Quanta, .int .i64 y22.1.Stream, .int .u64 y22.1.Device, .int .i64 y22.1.Frames], .bool y22.2]), (44, .tup [.agg [.int .i64 y22.1.Kind, .int .i64 y22.1.At, .int .i64 y22.1.Quanta, .int .i64 y22.1.Stream, .int .u64 y22.1.Device, .int .i64 y22.1.Frames], .bool y22.2]), (53, .agg [.int .i64 y22.1.Kind, .int .i64 y22.1.At, .int .i64 y22.1.Quanta, .int .i64 y22.1.Stream, .int .u64 y22.1.Device, .int .i64 y22.1.Frames]), (54, .bool y22.2), (7, .ptr (.loc 10 11) 0), (2, .ptr (.loc 0 0) 0), (3, .ptr (.loc 0 1) 0), (4, .ptr (.loc 0 2) 0), (6, .int .i64 (y13.length : Int))], [], [((.loc 0 0), [.int .i64 a0.Limit, .sl 97 (.own (.row 7 2)) (y13.map pv97), .int .i64 ((aUp a0.Counts x11 y10) 0), .int .i64 ((aUp a0.Counts x11 y10) 1), .int .i64 ((aUp a0.Counts x11 y10) 2), .int .i64 ((aUp a0.Counts x11 y10) 3), .int .i64 ((aUp a0.Counts x11 y10) 4), .int .i64 y12, .int .i64 (a0.Buckets 0), .int .i64 (a0.Buckets 1), .int .i64 (a0.Buckets 2), .int .i64 (a0.Buckets 3), .int .i64 (a0.Buckets 4), .int .i64 (a0.Buckets 5), .int .i64 (a0.Buckets 6), .int .i64 (a0.Buckets 7), .int .i64 (a0.Buckets 8), .int .i64 (a0.Buckets 9), .int .i64 (a0.Buckets 10), .int .i64 (a0.Buckets 11), .int .i64 (a0.Buckets 12), .int .i64 (a0.Buckets 13), .int .i64 (a0.Buckets 14), .int .i64 (a0.Buckets 15), .int .i64 (a0.Buckets 16), .int .i64 (a0.Buckets 17), .int .i64 (a0.Buckets 18), .int .i64 (a0.Buckets 19), .int .i64 (a0.Buckets 20), .int .i64 (a0.Buckets 21), .int .i64 (a0.Buckets 22), .int .i64 (a0.Buckets 23)]), ((.loc 0 1), [.int .i64 a1.Kind, .int .i64 a1.At, .int .i64 a1.Quanta, .int .i64 a1.Stream, .int .u64 a1.Device, .int .i64 a1.Frames]), ((.loc 0 2), [.int .i64 0, .sl 97 .full [], .int .i64 (aZ 0), .int .i64 (aZ 1), .int .i64 (aZ 2), .int .i64 (aZ 3), .int .i64 (aZ 4), .int .i64 0, .int .i64 (aZ 0), .int .i64 (aZ 1), .int .i64 (aZ 2), .int .i64 (aZ 3), .int .i64 (aZ 4), .int .i64 (aZ 5), .int .i64 (aZ 6), .int .i64 (aZ 7), .int .i64 (aZ 8), .int .i64 (aZ 9), .int .i64 (aZ 10), .int .i64 (aZ 11), .int .i64 (aZ 12), .int .i64 (aZ 13), .int .i64 (aZ 14), .int .i64 (aZ 15), .int .i64 (aZ 16), .int .i64 (aZ 17), .int .i64 (aZ 18), .int .i64 (aZ 19), .int .i64 (aZ 20), .int .i64 (aZ 21), .int .i64 (aZ 22), .int .i64 (aZ 23)]), ((.loc 10 11), [.int .i64 0, .int .i64 0, .int .i64 0, .int .i64 0, .int .u64 0, .int .i64 0])]⟩,
            ⟨[(45, .ptr (.loc 0 0) 1), (46, .sl 97 (.own (.row 7 2)) (y13.map pv97)), (47, .int .i64 (y13.length : Int)), (48, .int .i64 (w64 ((y13.length : Int) - (1 : Int)))), (49, .ep 97 (.own (.row 7 2)) (y13.map pv97) (w64 ((y13.length : Int) - (1 : Int)) : Int).toNat 0), (50, .agg [.int .i64 x21.Kind, .int .i64 x21.At, .int .i64 x21.Quanta, .int .i64 x21.Stream, .int .u64 x21.Device, .int .i64 x21.Frames]), (51, .agg [.int .i64 a1.Kind, .int .i64 a1.At, .int .i64 a1.Quanta, .int .i64 a1.Stream, .int .u64 a1.Device, .int .i64 a1.Frames]), (52, .tup [.agg [.int .i64 y22.1.Kind, .int .i64 y22.1.At, .int .i64 y22.1.Quanta, .int .i64 y22.1.Stream, .int .u64 y22.1.Device, .int .i64 y22.1.Frames], .bool y22.2]), (44, .tup [.agg [.int .i64 y22.1.Kind, .int .i64 y22.1.At, .int .i64 y22.1.Quanta, .int .i64 y22.1.Stream, .int .u64 y22.1.Device, .int .i64 y22.1.Frames], .bool y22.2]), (53, .agg [.int .i64 y22.1.Kind, .int .i64 y22.1.At, .int .i64 y22.1.Quanta, .int .i64 y22.1.Stream, .int .u64 y22.1.Device, .int .i64 y22.1.Frames]), (54, .bool y22.2), (7, .ptr (.loc 10 11) 0), (8, .bool y22.2), (2, .ptr (.loc 0 0) 0), (3, .ptr (.loc 0 1) 0), (4, .ptr (.loc 0 2) 0), (6, .int .i64 (y13.length : Int))], [], [((.loc 0 0), [.int .i64 a0.Limit, .sl 97 (.own (.row 7 2)) (y13.map pv97), .int .i64 ((aUp a0.Counts x11 y10) 0), .int .i64 ((aUp a0.Counts x11 y10) 1), .int .i64 ((aUp a0.Counts x11 y10) 2), .int .i64 ((aUp a0.Counts x11 y10) 3), .int .i64 ((aUp a0.Counts x11 y10) 4), .int .i64 y12, .int .i64 (a0.Buckets 0), .int .i64 (a0.Buckets 1), .int .i64 (a0.Buckets 2), .int .i64 (a0.Buckets 3), .int .i64 (a0.Buckets 4), .int .i64 (a0.Buckets 5), .int .i64 (a0.Buckets 6), .int .i64 (a0.Buckets 7), .int .i64 (a0.Buckets 8), .int .i64 (a0.Buckets 9), .int .i64 (a0.Buckets 10), .int .i64 (a0.Buckets 11), .int .i64 (a0.Buckets 12), .int .i64 (a0.Buckets 13), .int .i64 (a0.Buckets 14), .int .i64 (a0.Buckets 15), .int .i64 (a0.Buckets 16), .int .i64 (a0.Buckets 17), .int .i64 (a0.Buckets 18), .int .i64 (a0.Buckets 19), .int .i64 (a0.Buckets 20), .int .i64 (a0.Buckets 21), .int .i64 (a0.Buckets 22), .int .i64 (a0.Buckets 23)]), ((.loc 0 1), [.int .i64 a1.Kind, .int .i64 a1.At, .int .i64 a1.Quanta, .int .i64 a1.Stream, .int .u64 a1.Device, .int .i64 a1.Frames]), ((.loc 0 2), [.int .i64 0, .sl 97 .full [], .int .i64 (aZ 0), .int .i64 (aZ 1), .int .i64 (aZ 2), .int .i64 (aZ 3), .int .i64 (aZ 4), .int .i64 0, .int .i64 (aZ 0), .int .i64 (aZ 1), .int .i64 (aZ 2), .int .i64 (aZ 3), .int .i64 (aZ 4), .int .i64 (aZ 5), .int .i64 (aZ 6), .int .i64 (aZ 7), .int .i64 (aZ 8), .int .i64 (aZ 9), .int .i64 (aZ 10), .int .i64 (aZ 11), .int .i64 (aZ 12), .int .i64 (aZ 13), .int .i64 (aZ 14), .int .i64 (aZ 15), .int .i64 (aZ 16), .int .i64 (aZ 17), .int .i64 (aZ 18), .int .i64 (aZ 19), .int .i64 (aZ 20), .int .i64 (aZ 21), .int .i64 (aZ 22), .int .i64 (aZ 23)]), ((.loc 10 11), [.int .i64 y22.1.Kind, .int .i64 y22.1.At, .int .i64 y22.1.Quanta, .int .i64 y22.1.Stream, .int .u64 y22.1.Device, .int .i64 y22.1.Frames])]⟩]
            [(2, .ptr (.loc 0 0) 0), (3, .ptr (.loc 0 1) 0), (4, .ptr (.loc 0 2) 0), (6, .int .i64 (y13.length : Int))]
            (.cons [2] [] (fun _ _ h => .val (h _)) rfl rfl <|
            .cons [2] [] (fun _ _ h => .val (h _)) rfl rfl <|
            .cons [45] [] (fun _ _ h => .val (h _)) rfl rfl <|
            .cons [45] [] (fun _ _ h => .val (h _)) rfl rfl <|
            .cons [6] [] (fun _ _ h => .move (h _)) rfl rfl <|
            .cons [6] [] (fun _ _ h => .move (h _)) rfl rfl <|
            .cons [47] [] (fun _ _ h => .val (h _)) rfl rfl <|
            .cons [47] [] (fun _ _ h => .val (h _)) rfl rfl <|
            .cons [46, 48] [] (fun _ _ h => .idxL (f := pv97) hx21 (h _)) rfl rfl <|
            .cons [46, 48] [] (fun _ _ h => .idxL (f := pv97) hx21 (h _)) rfl rfl <|
            .cons [49] [] (fun _ _ h => .ldL hx21 (h _)) rfl rfl <|
            .cons [49] [] (fun _ _ h => .ldL hx21 (h _)) rfl rfl <|
            .cons [3] [] (fun _ _ h => .val (h _)) rfl rfl <|
            .cons [3] [] (fun _ _ h => .val (h _)) rfl rfl <|
            .cons [50, 51] [] (fun _ _ h => .cP (g102 hy22) (h _)) rfl rfl <|
            .cons [50, 51] [] (fun _ _ h => .cP (g102 hy22) (h _)) rfl rfl <|
            .cons [52] [] (fun _ _ h => .move (h _)) rfl rfl <|
            .cons [52] [] (fun _ _ h => .move (h _)) rfl rfl <|
            .cons [44] [] (fun _ _ h => .val (h _)) rfl rfl <|
            .cons [44] [] (fun _ _ h => .val (h _)) rfl rfl <|
            .cons [44] [] (fun _ _ h => .val (h _)) rfl rfl <|
            .cons [44] [] (fun _ _ h => .val (h _)) rfl rfl <|
            .cons [44] [] (fun _ _ h => .val (h _)) rfl rfl <|
            .cons [54] [] (fun _ _ h => .assign (h _)) rfl rfl <|
            .nil)
            (.cons (PV.sub (oneSub (.loc 10 11) .kill)) [] [] (fun _ _ h => .allocL (cs := [.int .i64 0, .int .i64 0, .int .i64 0, .int .i64 0, .int .u64 0, .int .i64 0]) (h _ _ (.cons rfl (.cons rfl (.cons rfl (.cons rfl (.nil))))))) rfl (.old rfl (.old rfl (.old rfl (.old rfl (.old rfl (.old rfl (.old rfl (.old rfl (.old rfl (.old rfl (.old rfl (.new rfl (.old rfl (.old rfl (.old rfl (.old rfl (.nil))))))))))))))))) rfl rfl <|
            .cons (fun x => x) [7, 53] [] (fun _ _ h => .wrL (cs := [.int .i64 y22.1.Kind, .int .i64 y22.1.At, .int .i64 y22.1.Quanta, .int .i64 y22.1.Stream, .int .u64 y22.1.Device, .int .i64 y22.1.Frames]) (h _ _ (.cons rfl (.cons rfl (.cons rfl (.cons rfl (.nil))))))) rfl (.old rfl (.old rfl (.old rfl (.old rfl (.old rfl (.old rfl (.old rfl (.old rfl (.old rfl (.old rfl (.old rfl (.old rfl (.new rfl (.old rfl (.old rfl (.old rfl (.old rfl (.nil)))))))))))))))))) rfl rfl <|
            .nil)
            (by kernel_rfl) rfl (.cons rfl (.cons rfl (.cons rfl (.cons rfl (.nil))))) (.nil) (.cons rfl (.cons rfl (.cons rfl (.nil)))) ?_
          refine .imp (T := St.of [(2, .ptr (.loc 0 0) 0), (3, .ptr (.loc 0 1) 0), (4, .ptr (.loc 0 2) 0), (6, .int .i64 (y13.length : Int)), (7, .ptr (.loc 10 11) 0), (8, .bool y22.2)] [((.loc 0 0), [.int .i64 a0.Limit, .sl 97 (.own (.row 7 2)) (y13.map pv97), .int .i64 ((aUp a0.Counts x11 y10) 0), .int .i64 ((aUp a0.Counts x11 y10) 1), .int .i64 ((aUp a0.Counts x11 y10) 2), .int .i64 ((aUp a0.Counts x11 y10) 3), .int .i64 ((aUp a0.Counts x11 y10) 4), .int .i64 y12, .int .i64 (a0.Buckets 0), .int .i64 (a0.Buckets 1), .int .i64 (a0.Buckets 2), .int .i64 (a0.Buckets 3), .int .i64 (a0.Buckets 4), .int .i64 (a0.Buckets 5), .int .i64 (a0.Buckets 6), .int .i64 (a0.Buckets 7), .int .i64 (a0.Buckets 8), .int .i64 (a0.Buckets 9), .int .i64 (a0.Buckets 10), .int .i64 (a0.Buckets 11), .int .i64 (a0.Buckets 12), .int .i64 (a0.Buckets 13), .int .i64 (a0.Buckets 14), .int .i64 (a0.Buckets 15), .int .i64 (a0.Buckets 16), .int .i64 (a0.Buckets 17), .int .i64 (a0.Buckets 18), .int .i64 (a0.Buckets 19), .int .i64 (a0.Buckets 20), .int .i64 (a0.Buckets 21), .int .i64 (a0.Buckets 22), .int .i64 (a0.Buckets 23)]), ((.loc 0 1), [.int .i64 a1.Kind, .int .i64 a1.At, .int .i64 a1.Quanta, .int .i64 a1.Stream, .int .u64 a1.Device, .int .i64 a1.Frames]), ((.loc 0 2), [.int .i64 0, .sl 97 .full [], .int .i64 (aZ 0), .int .i64 (aZ 1), .int .i64 (aZ 2), .int .i64 (aZ 3), .int .i64 (aZ 4), .int .i64 0, .int .i64 (aZ 0), .int .i64 (aZ 1), .int .i64 (aZ 2), .int .i64 (aZ 3), .int .i64 (aZ 4), .int .i64 (aZ 5), .int .i64 (aZ 6), .int .i64 (aZ 7), .int .i64 (aZ 8), .int .i64 (aZ 9), .int .i64 (aZ 10), .int .i64 (aZ 11), .int .i64 (aZ 12), .int .i64 (aZ 13), .int .i64 (aZ 14), .int .i64 (aZ 15), .int .i64 (aZ 16), .int .i64 (aZ 17), .int .i64 (aZ 18), .int .i64 (aZ 19), .int .i64 (aZ 20), .int .i64 (aZ 21), .int .i64 (aZ 22), .int .i64 (aZ 23)]), ((.loc 10 11), [.int .i64 y22.1.Kind, .int .i64 y22.1.At, .int .i64 y22.1.Quanta, .int .i64 y22.1.Stream, .int .u64 y22.1.Device, .int .i64 y22.1.Frames])]) (imp_of (.cons rfl (.cons rfl (.cons rfl (.cons rfl (.cons rfl (.cons rfl (.nil))))))) (.cons rfl (.cons rfl (.cons rfl (.cons rfl (.nil)))))) ?_
          refine .seq ?_
          refine .region ?_
          refine .move ?_
          refine .nil ?_
          refine .cond (fun hc23 => ?_) (fun hc23 => ?_)
          · replace h := (if_pos hc23).symm.trans h
            refine .seq ?_
            refine .region ?_
            refine .val ?_
            refine .val ?_
            refine .move ?_
            refine .val ?_
            refine .val (v := .agg [.int .i64 y22.1.Kind, .int .i64 y22.1.At, .int .i64 y22.1.Quanta, .int .i64 y22.1.Stream, .int .u64 y22.1.Device, .int .i64 y22.1.Frames]) ?_
            obtain ⟨x24, hx24, h⟩ := bindE h
            refine .idxL (f := pv97) hx24 ?_
            refine .stL hx24 (z' := (⟨y22.1.Kind, y22.1.At, y22.1.Quanta, y22.1.Stream, y22.1.Device, y22.1.Frames⟩ : Glitch)) ?_
            refine .now 57 (congrArg (PV.sl 97 (.own (.row 7 2))) (List.map_set (f := pv97)).symm) ?_
            refine .nowH (.loc 0 0) (congrArg (fun zz : PV => [.int .i64 a0.Limit, zz, .int .i64 ((aUp a0.Counts x11 y10) 0), .int .i64 ((aUp a0.Counts x11 y10) 1), .int .i64 ((aUp a0.Counts x11 y10) 2), .int .i64 ((aUp a0.Counts x11 y10) 3), .int .i64 ((aUp a0.Counts x11 y10) 4), .int .i64 y12, .int .i64 (a0.Buckets 0), .int .i64 (a0.Buckets 1), .int .i64 (a0.Buckets 2), .int .i64 (a0.Buckets 3), .int .i64 (a0.Buckets 4), .int .i64 (a0.Buckets 5), .int .i64 (a0.Buckets 6), .int .i64 (a0.Buckets 7), .int .i64 (a0.Buckets 8), .int .i64 (a0.Buckets 9), .int .i64 (a0.Buckets 10), .int .i64 (a0.Buckets 11), .int .i64 (a0.Buckets 12), .int .i64 (a0.Buckets 13), .int .i64 (a0.Buckets 14), .int .i64 (a0.Buckets 15), .int .i64 (a0.Buckets 16), .int .i64 (a0.Buckets 17), .int .i64 (a0.Buckets 18), .int .i64 (a0.Buckets 19), .int .i64 (a0.Buckets 20), .int .i64 (a0.Buckets 21), .int .i64 (a0.Buckets 22), .int .i64 (a0.Buckets 23)]) (congrArg (PV.sl 97 (.own (.row 7 2))) (List.map_set (f := pv97)).symm)) ?_
            refine .nil ?_
            refine .seq ?_
            refine .region ?_
            refine .val (v := .agg [.int .i64 a0.Limit, .sl 97 (.own (.row 7 2)) ((y13.set (w64 ((y13.length : Int) - (1 : Int)) : Int).toNat (⟨y22.1.Kind, y22.1.At, y22.1.Quanta, y22.1.Stream, y22.1.Device, y22.1.Frames⟩ : Glitch)).map pv97), .int .i64 ((aUp a0.Counts x11 y10) 0), .int .i64 ((aUp a0.Counts x11 y10) 1), .int .i64 ((aUp a0.Counts x11 y10) 2), .int .i64 ((aUp a0.Counts x11 y10) 3), .int .i64 ((aUp a0.Counts x11 y10) 4), .int .i64 y12, .int .i64 (a0.Buckets 0), .int .i64 (a0.Buckets 1), .int .i64 (a0.Buckets 2), .int .i64 (a0.Buckets 3), .int .i64 (a0.Buckets 4), .int .i64 (a0.Buckets 5), .int .i64 (a0.Buckets 6), .int .i64 (a0.Buckets 7), .int .i64 (a0.Buckets 8), .int .i64 (a0.Buckets 9), .int .i64 (a0.Buckets 10), .int .i64 (a0.Buckets 11), .int .i64 (a0.Buckets 12), .int .i64 (a0.Buckets 13), .int .i64 (a0.Buckets 14), .int .i64 (a0.Buckets 15), .int .i64 (a0.Buckets 16), .int .i64 (a0.Buckets 17), .int .i64 (a0.Buckets 18), .int .i64 (a0.Buckets 19), .int .i64 (a0.Buckets 20), .int .i64 (a0.Buckets 21), .int .i64 (a0.Buckets 22), .int .i64 (a0.Buckets 23)]) ?_
            refine .wrL (cs := [.int .i64 a0.Limit, .sl 97 (.own (.row 7 2)) ((y13.set (w64 ((y13.length : Int) - (1 : Int)) : Int).toNat (⟨y22.1.Kind, y22.1.At, y22.1.Quanta, y22.1.Stream, y22.1.Device, y22.1.Frames⟩ : Glitch)).map pv97), .int .i64 ((aUp a0.Counts x11 y10) 0), .int .i64 ((aUp a0.Counts x11 y10) 1), .int .i64 ((aUp a0.Counts x11 y10) 2), .int .i64 ((aUp a0.Counts x11 y10) 3), .int .i64 ((aUp a0.Counts x11 y10) 4), .int .i64 y12, .int .i64 (a0.Buckets 0), .int .i64 (a0.Buckets 1), .int .i64 (a0.Buckets 2), .int .i64 (a0.Buckets 3), .int .i64 (a0.Buckets 4), .int .i64 (a0.Buckets 5), .int .i64 (a0.Buckets 6), .int .i64 (a0.Buckets 7), .int .i64 (a0.Buckets 8), .int .i64 (a0.Buckets 9), .int .i64 (a0.Buckets 10), .int .i64 (a0.Buckets 11), .int .i64 (a0.Buckets 12), .int .i64 (a0.Buckets 13), .int .i64 (a0.Buckets 14), .int .i64 (a0.Buckets 15), .int .i64 (a0.Buckets 16), .int .i64 (a0.Buckets 17), .int .i64 (a0.Buckets 18), .int .i64 (a0.Buckets 19), .int .i64 (a0.Buckets 20), .int .i64 (a0.Buckets 21), .int .i64 (a0.Buckets 22), .int .i64 (a0.Buckets 23)]) ?_
            refine .assign ?_
            refine .nil ?_
            cases h
            exact .ret (fin_gen0 none)
          · replace h := (if_neg (nt hc23)).symm.trans h
            refine .skip ?_
            exact ⟨_, ⟨rfl, h⟩, (imp_of (.cons rfl (.cons rfl (.cons rfl (.nil)))) (.cons rfl (.cons rfl (.cons rfl (.nil)))))⟩
        · replace h := (if_neg (nt hc20)).symm.trans h
          refine .skip ?_
          exact ⟨_, ⟨rfl, h⟩, (imp_of (.cons rfl (.cons rfl (.cons rfl (.nil)))) (.cons rfl (.cons rfl (.cons rfl (.nil)))))⟩
      · rintro T ⟨rfl, h⟩
        subst hj19
        refine .seq ?_
        refine .region ?_
        refine .val ?_
        refine .val ?_
        refine .val (v := .agg [.int .i64 a1.Kind, .int .i64 a1.At, .int .i64 a1.Quanta, .int .i64 a1.Stream, .int .u64 a1.Device, .int .i64 a1.Frames]) ?_
        refine .litR (f := pv97) ([(⟨a1.Kind, a1.At, a1.Quanta, a1.Stream, a1.Device, a1.Frames⟩ : Glitch)] : List Glitch) ?_
        obtain ⟨x25, hx25, h⟩ := bindE h
        refine .appL (f := pv97) hx25 ?_
        refine .val ?_
        refine .wrL (cs := [.int .i64 a0.Limit, .sl 97 (.own (.row 14 4)) (x25.map pv97), .int .i64 ((aUp a0.Counts x11 y10) 0), .int .i64 ((aUp a0.Counts x11 y10) 1), .int .i64 ((aUp a0.Counts x11 y10) 2), .int .i64 ((aUp a0.Counts x11 y10) 3), .int .i64 ((aUp a0.Counts x11 y10) 4), .int .i64 y12, .int .i64 (a0.Buckets 0), .int .i64 (a0.Buckets 1), .int .i64 (a0.Buckets 2), .int .i64 (a0.Buckets 3), .int .i64 (a0.Buckets 4), .int .i64 (a0.Buckets 5), .int .i64 (a0.Buckets 6), .int .i64 (a0.Buckets 7), .int .i64 (a0.Buckets 8), .int .i64 (a0.Buckets 9), .int .i64 (a0.Buckets 10), .int .i64 (a0.Buckets 11), .int .i64 (a0.Buckets 12), .int .i64 (a0.Buckets 13), .int .i64 (a0.Buckets 14), .int .i64 (a0.Buckets 15), .int .i64 (a0.Buckets 16), .int .i64 (a0.Buckets 17), .int .i64 (a0.Buckets 18), .int .i64 (a0.Buckets 19), .int .i64 (a0.Buckets 20), .int .i64 (a0.Buckets 21), .int .i64 (a0.Buckets 22), .int .i64 (a0.Buckets 23)]) ?_
        refine .nil ?_
        refine .seq ?_
        refine .region ?_
        refine .val ?_
        refine .val ?_
        refine .val ?_
        refine .val ?_
        refine .lenL (f := pv97) ?_
        refine .val ?_
        refine .val ?_
        refine .val ?_
        refine .maxL ?_
        obtain ⟨x26, hx26, h⟩ := bindE h
        refine .freeze (.row 14 4) ?_
        refine .partE (f := pv97) hx26 ?_
        refine .val ?_
        refine .wrL (cs := [.int .i64 a0.Limit, .sl 97 .ro (x26.map pv97), .int .i64 ((aUp a0.Counts x11 y10) 0), .int .i64 ((aUp a0.Counts x11 y10) 1), .int .i64 ((aUp a0.Counts x11 y10) 2), .int .i64 ((aUp a0.Counts x11 y10) 3), .int .i64 ((aUp a0.Counts x11 y10) 4), .int .i64 y12, .int .i64 (a0.Buckets 0), .int .i64 (a0.Buckets 1), .int .i64 (a0.Buckets 2), .int .i64 (a0.Buckets 3), .int .i64 (a0.Buckets 4), .int .i64 (a0.Buckets 5), .int .i64 (a0.Buckets 6), .int .i64 (a0.Buckets 7), .int .i64 (a0.Buckets 8), .int .i64 (a0.Buckets 9), .int .i64 (a0.Buckets 10), .int .i64 (a0.Buckets 11), .int .i64 (a0.Buckets 12), .int .i64 (a0.Buckets 13), .int .i64 (a0.Buckets 14), .int .i64 (a0.Buckets 15), .int .i64 (a0.Buckets 16), .int .i64 (a0.Buckets 17), .int .i64 (a0.Buckets 18), .int .i64 (a0.Buckets 19), .int .i64 (a0.Buckets 20), .int .i64 (a0.Buckets 21), .int .i64 (a0.Buckets 22), .int .i64 (a0.Buckets 23)]) ?_
        refine .nil ?_
        refine .imp (T := St.of [(2, .ptr (.loc 0 0) 0), (4, .ptr (.loc 0 2) 0)] [((.loc 0 0), [.int .i64 a0.Limit, .sl 97 .ro (x26.map pv97), .int .i64 ((aUp a0.Counts x11 y10) 0), .int .i64 ((aUp a0.Counts x11 y10) 1), .int .i64 ((aUp a0.Counts x11 y10) 2), .int .i64 ((aUp a0.Counts x11 y10) 3), .int .i64 ((aUp a0.Counts x11 y10) 4), .int .i64 y12, .int .i64 (a0.Buckets 0), .int .i64 (a0.Buckets 1), .int .i64 (a0.Buckets 2), .int .i64 (a0.Buckets 3), .int .i64 (a0.Buckets 4), .int .i64 (a0.Buckets 5), .int .i64 (a0.Buckets 6), .int .i64 (a0.Buckets 7), .int .i64 (a0.Buckets 8), .int .i64 (a0.Buckets 9), .int .i64 (a0.Buckets 10), .int .i64 (a0.Buckets 11), .int .i64 (a0.Buckets 12), .int .i64 (a0.Buckets 13), .int .i64 (a0.Buckets 14), .int .i64 (a0.Buckets 15), .int .i64 (a0.Buckets 16), .int .i64 (a0.Buckets 17), .int .i64 (a0.Buckets 18), .int .i64 (a0.Buckets 19), .int .i64 (a0.Buckets 20), .int .i64 (a0.Buckets 21), .int .i64 (a0.Buckets 22), .int .i64 (a0.Buckets 23)]), ((.loc 0 2), [.int .i64 0, .sl 97 .full [], .int .i64 (aZ 0), .int .i64 (aZ 1), .int .i64 (aZ 2), .int .i64 (aZ 3), .int .i64 (aZ 4), .int .i64 0, .int .i64 (aZ 0), .int .i64 (aZ 1), .int .i64 (aZ 2), .int .i64 (aZ 3), .int .i64 (aZ 4), .int .i64 (aZ 5), .int .i64 (aZ 6), .int .i64 (aZ 7), .int .i64 (aZ 8), .int .i64 (aZ 9), .int .i64 (aZ 10), .int .i64 (aZ 11), .int .i64 (aZ 12), .int .i64 (aZ 13), .int .i64 (aZ 14), .int .i64 (aZ 15), .int .i64 (aZ 16), .int .i64 (aZ 17), .int .i64 (aZ 18), .int .i64 (aZ 19), .int .i64 (aZ 20), .int .i64 (aZ 21), .int .i64 (aZ 22), .int .i64 (aZ 23)])]) (imp_of (.cons rfl (.cons rfl (.nil))) (.cons rfl (.cons rfl (.nil)))) ?_
        refine .seq ?_
        refine .region ?_
        refine .val (v := .agg [.int .i64 a0.Limit, .sl 97 .ro (x26.map pv97), .int .i64 ((aUp a0.Counts x11 y10) 0), .int .i64 ((aUp a0.Counts x11 y10) 1), .int .i64 ((aUp a0.Counts x11 y10) 2), .int .i64 ((aUp a0.Counts x11 y10) 3), .int .i64 ((aUp a0.Counts x11 y10) 4), .int .i64 y12, .int .i64 (a0.Buckets 0), .int .i64 (a0.Buckets 1), .int .i64 (a0.Buckets 2), .int .i64 (a0.Buckets 3), .int .i64 (a0.Buckets 4), .int .i64 (a0.Buckets 5), .int .i64 (a0.Buckets 6), .int .i64 (a0.Buckets 7), .int .i64 (a0.Buckets 8), .int .i64 (a0.Buckets 9), .int .i64 (a0.Buckets 10), .int .i64 (a0.Buckets 11), .int .i64 (a0.Buckets 12), .int .i64 (a0.Buckets 13), .int .i64 (a0.Buckets 14), .int .i64 (a0.Buckets 15), .int .i64 (a0.Buckets 16), .int .i64 (a0.Buckets 17), .int .i64 (a0.Buckets 18), .int .i64 (a0.Buckets 19), .int .i64 (a0.Buckets 20), .int .i64 (a0.Buckets 21), .int .i64 (a0.Buckets 22), .int .i64 (a0.Buckets 23)]) ?_
        refine .wrL (cs := [.int .i64 a0.Limit, .sl 97 .ro (x26.map pv97), .int .i64 ((aUp a0.Counts x11 y10) 0), .int .i64 ((aUp a0.Counts x11 y10) 1), .int .i64 ((aUp a0.Counts x11 y10) 2), .int .i64 ((aUp a0.Counts x11 y10) 3), .int .i64 ((aUp a0.Counts x11 y10) 4), .int .i64 y12, .int .i64 (a0.Buckets 0), .int .i64 (a0.Buckets 1), .int .i64 (a0.Buckets 2), .int .i64 (a0.Buckets 3), .int .i64 (a0.Buckets 4), .int .i64 (a0.Buckets 5), .int .i64 (a0.Buckets 6), .int .i64 (a0.Buckets 7), .int .i64 (a0.Buckets 8), .int .i64 (a0.Buckets 9), .int .i64 (a0.Buckets 10), .int .i64 (a0.Buckets 11), .int .i64 (a0.Buckets 12), .int .i64 (a0.Buckets 13), .int .i64 (a0.Buckets 14), .int .i64 (a0.Buckets 15), .int .i64 (a0.Buckets 16), .int .i64 (a0.Buckets 17), .int .i64 (a0.Buckets 18), .int .i64 (a0.Buckets 19), .int .i64 (a0.Buckets 20), .int .i64 (a0.Buckets 21), .int .i64 (a0.Buckets 22), .int .i64 (a0.Buckets 23)]) ?_
        refine .assign ?_
        refine .nil ?_
        cases h
        exact .ret (fin_gen0 none)

/- soundservice/soundserviceref38.Same -/
def f65 (n : Nat) (a0 : Recorder) (a1 : Recorder) : Option Bool :=
  if (a0.Limit == a1.Limit) then (
  (f52 n a0.Last a1.Last).bind fun y7 =>
  if y7 then (
  if aEq 5 a0.Counts a1.Counts then (
  if (a0.Frames == a1.Frames) then (
  some (aEq 24 a0.Buckets a1.Buckets))
  else (
  some false))
  else (
  some false))
  else (
  some false))
  else (
  some false)
set_option maxHeartbeats 4000000 in
set_option maxRecDepth 100000 in
theorem g65 {n : Nat} {a0 : Recorder} {a1 : Recorder} {r : Bool} (h : f65 n a0 a1 = some r) :
    Ab.Can Try.prog 65 [.agg [.int .i64 a0.Limit, .sl 97 .ro (a0.Last.map pv97), .int .i64 (a0.Counts 0), .int .i64 (a0.Counts 1), .int .i64 (a0.Counts 2), .int .i64 (a0.Counts 3), .int .i64 (a0.Counts 4), .int .i64 a0.Frames, .int .i64 (a0.Buckets 0), .int .i64 (a0.Buckets 1), .int .i64 (a0.Buckets 2), .int .i64 (a0.Buckets 3), .int .i64 (a0.Buckets 4), .int .i64 (a0.Buckets 5), .int .i64 (a0.Buckets 6), .int .i64 (a0.Buckets 7), .int .i64 (a0.Buckets 8), .int .i64 (a0.Buckets 9), .int .i64 (a0.Buckets 10), .int .i64 (a0.Buckets 11), .int .i64 (a0.Buckets 12), .int .i64 (a0.Buckets 13), .int .i64 (a0.Buckets 14), .int .i64 (a0.Buckets 15), .int .i64 (a0.Buckets 16), .int .i64 (a0.Buckets 17), .int .i64 (a0.Buckets 18), .int .i64 (a0.Buckets 19), .int .i64 (a0.Buckets 20), .int .i64 (a0.Buckets 21), .int .i64 (a0.Buckets 22), .int .i64 (a0.Buckets 23)], .agg [.int .i64 a1.Limit, .sl 97 .ro (a1.Last.map pv97), .int .i64 (a1.Counts 0), .int .i64 (a1.Counts 1), .int .i64 (a1.Counts 2), .int .i64 (a1.Counts 3), .int .i64 (a1.Counts 4), .int .i64 a1.Frames, .int .i64 (a1.Buckets 0), .int .i64 (a1.Buckets 1), .int .i64 (a1.Buckets 2), .int .i64 (a1.Buckets 3), .int .i64 (a1.Buckets 4), .int .i64 (a1.Buckets 5), .int .i64 (a1.Buckets 6), .int .i64 (a1.Buckets 7), .int .i64 (a1.Buckets 8), .int .i64 (a1.Buckets 9), .int .i64 (a1.Buckets 10), .int .i64 (a1.Buckets 11), .int .i64 (a1.Buckets 12), .int .i64 (a1.Buckets 13), .int .i64 (a1.Buckets 14), .int .i64 (a1.Buckets 15), .int .i64 (a1.Buckets 16), .int .i64 (a1.Buckets 17), .int .i64 (a1.Buckets 18), .int .i64 (a1.Buckets 19), .int .i64 (a1.Buckets 20), .int .i64 (a1.Buckets 21), .int .i64 (a1.Buckets 22), .int .i64 (a1.Buckets 23)]] H0 (.bool r) H0 := by
  refine can_of tabOK mix Try.call65 Try.func65 rfl (by kernel_rfl) (by show _ ≤ 38; simp) fun _ => ?_
  rw [f65] at h
  refine .seq ?_
  refine .region ?_
  refine .boxL (cs := [.int .i64 a0.Limit, .sl 97 .ro (a0.Last.map pv97), .int .i64 (a0.Counts 0), .int .i64 (a0.Counts 1), .int .i64 (a0.Counts 2), .int .i64 (a0.Counts 3), .int .i64 (a0.Counts 4), .int .i64 a0.Frames, .int .i64 (a0.Buckets 0), .int .i64 (a0.Buckets 1), .int .i64 (a0.Buckets 2), .int .i64 (a0.Buckets 3), .int .i64 (a0.Buckets 4), .int .i64 (a0.Buckets 5), .int .i64 (a0.Buckets 6), .int .i64 (a0.Buckets 7), .int .i64 (a0.Buckets 8), .int .i64 (a0.Buckets 9), .int .i64 (a0.Buckets 10), .int .i64 (a0.Buckets 11), .int .i64 (a0.Buckets 12), .int .i64 (a0.Buckets 13), .int .i64 (a0.Buckets 14), .int .i64 (a0.Buckets 15), .int .i64 (a0.Buckets 16), .int .i64 (a0.Buckets 17), .int .i64 (a0.Buckets 18), .int .i64 (a0.Buckets 19), .int .i64 (a0.Buckets 20), .int .i64 (a0.Buckets 21), .int .i64 (a0.Buckets 22), .int .i64 (a0.Buckets 23)]) ?_
  refine .boxL (cs := [.int .i64 a1.Limit, .sl 97 .ro (a1.Last.map pv97), .int .i64 (a1.Counts 0), .int .i64 (a1.Counts 1), .int .i64 (a1.Counts 2), .int .i64 (a1.Counts 3), .int .i64 (a1.Counts 4), .int .i64 a1.Frames, .int .i64 (a1.Buckets 0), .int .i64 (a1.Buckets 1), .int .i64 (a1.Buckets 2), .int .i64 (a1.Buckets 3), .int .i64 (a1.Buckets 4), .int .i64 (a1.Buckets 5), .int .i64 (a1.Buckets 6), .int .i64 (a1.Buckets 7), .int .i64 (a1.Buckets 8), .int .i64 (a1.Buckets 9), .int .i64 (a1.Buckets 10), .int .i64 (a1.Buckets 11), .int .i64 (a1.Buckets 12), .int .i64 (a1.Buckets 13), .int .i64 (a1.Buckets 14), .int .i64 (a1.Buckets 15), .int .i64 (a1.Buckets 16), .int .i64 (a1.Buckets 17), .int .i64 (a1.Buckets 18), .int .i64 (a1.Buckets 19), .int .i64 (a1.Buckets 20), .int .i64 (a1.Buckets 21), .int .i64 (a1.Buckets 22), .int .i64 (a1.Buckets 23)]) ?_
  refine .assign ?_
  refine .nil ?_
  refine .seq ?_
  refine .region ?_
  refine .val ?_
  refine .val ?_
  refine .val ?_
  refine .val ?_
  refine .val ?_
  refine .move ?_
  refine .caseG (fun hc6 => ?_) (fun hc6 => ?_)
  · replace h := (if_pos hc6).symm.trans h
    refine .val ?_
    refine .val ?_
    refine .val ?_
    refine .val ?_
    obtain ⟨y7, hy7, h⟩ := bindE h
    refine .cP (g52 hy7) ?_
    refine .brT ?_
    refine .move ?_
    refine .caseG (fun hc8 => ?_) (fun hc8 => ?_)
    · replace h := (if_pos hc8).symm.trans h
      refine .val ?_
      refine .val (v := .agg [.int .i64 (a0.Counts 0), .int .i64 (a0.Counts 1), .int .i64 (a0.Counts 2), .int .i64 (a0.Counts 3), .int .i64 (a0.Counts 4)]) ?_
      refine .val ?_
      refine .val (v := .agg [.int .i64 (a1.Counts 0), .int .i64 (a1.Counts 1), .int .i64 (a1.Counts 2), .int .i64 (a1.Counts 3), .int .i64 (a1.Counts 4)]) ?_
      refine .eqV (.int (.int (.int (.int (.int .nil))))) (.int (.int (.int (.int (.int .nil))))) (eqlA tok57 tok3 eqg57 _ _ a0.Counts a1.Counts) ?_
      refine .brT ?_
      refine .move ?_
      refine .caseG (fun hc9 => ?_) (fun hc9 => ?_)
      · replace h := (if_pos hc9).symm.trans h
        refine .val ?_
        refine .val ?_
        refine .val ?_
        refine .val ?_
        refine .val ?_
        refine .brT ?_
        refine .move ?_
        refine .caseG (fun hc10 => ?_) (fun hc10 => ?_)
        · replace h := (if_pos hc10).symm.trans h
          refine .val ?_
          refine .val (v := .agg [.int .i64 (a0.Buckets 0), .int .i64 (a0.Buckets 1), .int .i64 (a0.Buckets 2), .int .i64 (a0.Buckets 3), .int .i64 (a0.Buckets 4), .int .i64 (a0.Buckets 5), .int .i64 (a0.Buckets 6), .int .i64 (a0.Buckets 7), .int .i64 (a0.Buckets 8), .int .i64 (a0.Buckets 9), .int .i64 (a0.Buckets 10), .int .i64 (a0.Buckets 11), .int .i64 (a0.Buckets 12), .int .i64 (a0.Buckets 13), .int .i64 (a0.Buckets 14), .int .i64 (a0.Buckets 15), .int .i64 (a0.Buckets 16), .int .i64 (a0.Buckets 17), .int .i64 (a0.Buckets 18), .int .i64 (a0.Buckets 19), .int .i64 (a0.Buckets 20), .int .i64 (a0.Buckets 21), .int .i64 (a0.Buckets 22), .int .i64 (a0.Buckets 23)]) ?_
          refine .val ?_
          refine .val (v := .agg [.int .i64 (a1.Buckets 0), .int .i64 (a1.Buckets 1), .int .i64 (a1.Buckets 2), .int .i64 (a1.Buckets 3), .int .i64 (a1.Buckets 4), .int .i64 (a1.Buckets 5), .int .i64 (a1.Buckets 6), .int .i64 (a1.Buckets 7), .int .i64 (a1.Buckets 8), .int .i64 (a1.Buckets 9), .int .i64 (a1.Buckets 10), .int .i64 (a1.Buckets 11), .int .i64 (a1.Buckets 12), .int .i64 (a1.Buckets 13), .int .i64 (a1.Buckets 14), .int .i64 (a1.Buckets 15), .int .i64 (a1.Buckets 16), .int .i64 (a1.Buckets 17), .int .i64 (a1.Buckets 18), .int .i64 (a1.Buckets 19), .int .i64 (a1.Buckets 20), .int .i64 (a1.Buckets 21), .int .i64 (a1.Buckets 22), .int .i64 (a1.Buckets 23)]) ?_
          refine .eqV (.int (.int (.int (.int (.int (.int (.int (.int (.int (.int (.int (.int (.int (.int (.int (.int (.int (.int (.int (.int (.int (.int (.int (.int .nil)))))))))))))))))))))))) (.int (.int (.int (.int (.int (.int (.int (.int (.int (.int (.int (.int (.int (.int (.int (.int (.int (.int (.int (.int (.int (.int (.int (.int .nil)))))))))))))))))))))))) (eqlA tok58 tok3 eqg58 _ _ a0.Buckets a1.Buckets) ?_
          refine .brT ?_
          refine .assign ?_
          refine .nil ?_
          cases h
          exact .ret (fin_gen0 none)
        · replace h := (if_neg (nt hc10)).symm.trans h
          refine .skip ?_
          refine .skip ?_
          refine .skip ?_
          refine .skip ?_
          refine .skip ?_
          refine .brF ?_
          refine .assign ?_
          refine .nil ?_
          cases h
          exact .ret (fin_gen0 none)
      · replace h := (if_neg (nt hc9)).symm.trans h
        refine .skip ?_
        refine .skip ?_
        refine .skip ?_
        refine .skip ?_
        refine .skip ?_
        refine .brF ?_
        refine .move ?_
        refine .skip ?_
        refine .skip ?_
        refine .skip ?_
        refine .skip ?_
        refine .skip ?_
        refine .brF ?_
        refine .assign ?_
        refine .nil ?_
        cases h
        exact .ret (fin_gen0 none)
    · replace h := (if_neg (nt hc8)).symm.trans h
      refine .skip ?_
      refine .skip ?_
      refine .skip ?_
      refine .skip ?_
      refine .skip ?_
      refine .brF ?_
      refine .move ?_
      refine .skip ?_
      refine .skip ?_
      refine .skip ?_
      refine .skip ?_
      refine .skip ?_
      refine .brF ?_
      refine .move ?_
      refine .skip ?_
      refine .skip ?_
      refine .skip ?_
      refine .skip ?_
      refine .skip ?_
      refine .brF ?_
      refine .assign ?_
      refine .nil ?_
      cases h
      exact .ret (fin_gen0 none)
  · replace h := (if_neg (nt hc6)).symm.trans h
    refine .skip ?_
    refine .skip ?_
    refine .skip ?_
    refine .skip ?_
    refine .skip ?_
    refine .brF ?_
    refine .move ?_
    refine .skip ?_
    refine .skip ?_
    refine .skip ?_
    refine .skip ?_
    refine .skip ?_
    refine .brF ?_
    refine .move ?_
    refine .skip ?_
    refine .skip ?_
    refine .skip ?_
    refine .skip ?_
    refine .skip ?_
    refine .brF ?_
    refine .move ?_
    refine .skip ?_
    refine .skip ?_
    refine .skip ?_
    refine .skip ?_
    refine .skip ?_
    refine .brF ?_
    refine .assign ?_
    refine .nil ?_
    cases h
    exact .ret (fin_gen0 none)

/- soundservice/soundservicemill.Few -/
def f68 (_n : Nat) (a0 : (List Int)) : Option Bool :=
  some (decide ((a0.length : Int) ≤ (200 : Int)))
set_option maxHeartbeats 4000000 in
set_option maxRecDepth 100000 in
theorem g68 {n : Nat} {a0 : (List Int)} {r : Bool} (h : f68 n a0 = some r) :
    Ab.Can Try.prog 68 [.sl 3 .ro (a0.map (PV.int .i64))] H0 (.bool r) H0 := by
  refine can_of tabOK mix Try.call68 Try.func68 rfl (by kernel_rfl) (by show _ ≤ 6; simp) fun _ => ?_
  rw [f68] at h
  refine .seq ?_
  refine .region ?_
  refine .assign ?_
  refine .nil ?_
  refine .seq ?_
  refine .region ?_
  refine .move ?_
  refine .lenL (f := (PV.int .i64)) ?_
  refine .val ?_
  refine .assign ?_
  refine .nil ?_
  cases h
  exact .ret (fin_gen0 none)
end Go.Proofs.Ytacdknbakjbpiaa
