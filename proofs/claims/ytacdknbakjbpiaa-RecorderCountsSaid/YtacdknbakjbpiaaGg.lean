/-
  Plain functions of bits, glitch, recorder, slices, soundservicelaw38, soundserviceref37, soundserviceref38, and that the code does what they say.
-/
import Derived.Test.YtacdknbakjbpiaaGd
namespace Go.Proofs.Ytacdknbakjbpiaa
open Go Ab
/- soundservice/recorder.New -/
def f37 (_n : Nat) (a0 : Int) : Option (Recorder × Int) :=
  joinK (fun (_ : Unit) =>
  some ((⟨0, ([] : List Glitch), aZ, 0, aZ⟩ : Recorder), 2)) fun j6 =>
  joinK (fun (_ : Unit) =>
  if decide (a0 > (256 : Int)) then (
  some ((⟨0, ([] : List Glitch), aZ, 0, aZ⟩ : Recorder), 2))
  else (
  some ((⟨a0, ([] : List Glitch), aZ, 0, aZ⟩ : Recorder), 0))) fun j7 =>
  if decide (a0 < (1 : Int)) then (
  j6 ())
  else (
  j7 ())
set_option maxHeartbeats 4000000 in
set_option maxRecDepth 100000 in
theorem g37 {n : Nat} {a0 : Int} {r : (Recorder × Int)} (h : f37 n a0 = some r) :
    Ab.Can Try.prog 37 [.int .i64 a0] H0 (.tup [.agg [.int .i64 r.1.Limit, .sl 97 .ro (r.1.Last.map pv97), .int .i64 (r.1.Counts 0), .int .i64 (r.1.Counts 1), .int .i64 (r.1.Counts 2), .int .i64 (r.1.Counts 3), .int .i64 (r.1.Counts 4), .int .i64 r.1.Frames, .int .i64 (r.1.Buckets 0), .int .i64 (r.1.Buckets 1), .int .i64 (r.1.Buckets 2), .int .i64 (r.1.Buckets 3), .int .i64 (r.1.Buckets 4), .int .i64 (r.1.Buckets 5), .int .i64 (r.1.Buckets 6), .int .i64 (r.1.Buckets 7), .int .i64 (r.1.Buckets 8), .int .i64 (r.1.Buckets 9), .int .i64 (r.1.Buckets 10), .int .i64 (r.1.Buckets 11), .int .i64 (r.1.Buckets 12), .int .i64 (r.1.Buckets 13), .int .i64 (r.1.Buckets 14), .int .i64 (r.1.Buckets 15), .int .i64 (r.1.Buckets 16), .int .i64 (r.1.Buckets 17), .int .i64 (r.1.Buckets 18), .int .i64 (r.1.Buckets 19), .int .i64 (r.1.Buckets 20), .int .i64 (r.1.Buckets 21), .int .i64 (r.1.Buckets 22), .int .i64 (r.1.Buckets 23)], .int .i64 r.2]) H0 := by
  refine can_of tabOK mix Try.call37 Try.func37 rfl (by kernel_rfl) (by show _ ≤ 13; simp) fun _ => ?_
  rw [f37] at h
  refine .seq ?_
  refine .region ?_
  refine .allocL (cs := [.int .i64 0, .sl 97 .full [], .int .i64 (aZ 0), .int .i64 (aZ 1), .int .i64 (aZ 2), .int .i64 (aZ 3), .int .i64 (aZ 4), .int .i64 0, .int .i64 (aZ 0), .int .i64 (aZ 1), .int .i64 (aZ 2), .int .i64 (aZ 3), .int .i64 (aZ 4), .int .i64 (aZ 5), .int .i64 (aZ 6), .int .i64 (aZ 7), .int .i64 (aZ 8), .int .i64 (aZ 9), .int .i64 (aZ 10), .int .i64 (aZ 11), .int .i64 (aZ 12), .int .i64 (aZ 13), .int .i64 (aZ 14), .int .i64 (aZ 15), .int .i64 (aZ 16), .int .i64 (aZ 17), .int .i64 (aZ 18), .int .i64 (aZ 19), .int .i64 (aZ 20), .int .i64 (aZ 21), .int .i64 (aZ 22), .int .i64 (aZ 23)]) ?_
  refine .assign ?_
  refine .nil ?_
  refine .seq ?_
  obtain ⟨j6, hj6, h⟩ := joinE h
  obtain ⟨j7, hj7, h⟩ := joinE h
  refine .cutI (fun T => (T = St.of [(0, .int .i64 a0), (2, .ptr (.loc 0 0) 0), (9, .bool true)] [((.loc 0 0), [.int .i64 0, .sl 97 .full [], .int .i64 (aZ 0), .int .i64 (aZ 1), .int .i64 (aZ 2), .int .i64 (aZ 3), .int .i64 (aZ 4), .int .i64 0, .int .i64 (aZ 0), .int .i64 (aZ 1), .int .i64 (aZ 2), .int .i64 (aZ 3), .int .i64 (aZ 4), .int .i64 (aZ 5), .int .i64 (aZ 6), .int .i64 (aZ 7), .int .i64 (aZ 8), .int .i64 (aZ 9), .int .i64 (aZ 10), .int .i64 (aZ 11), .int .i64 (aZ 12), .int .i64 (aZ 13), .int .i64 (aZ 14), .int .i64 (aZ 15), .int .i64 (aZ 16), .int .i64 (aZ 17), .int .i64 (aZ 18), .int .i64 (aZ 19), .int .i64 (aZ 20), .int .i64 (aZ 21), .int .i64 (aZ 22), .int .i64 (aZ 23)])] ∧ j6 () = some r) ∨ (T = St.of [(0, .int .i64 a0), (2, .ptr (.loc 0 0) 0), (9, .bool (decide (a0 > (256 : Int))))] [((.loc 0 0), [.int .i64 0, .sl 97 .full [], .int .i64 (aZ 0), .int .i64 (aZ 1), .int .i64 (aZ 2), .int .i64 (aZ 3), .int .i64 (aZ 4), .int .i64 0, .int .i64 (aZ 0), .int .i64 (aZ 1), .int .i64 (aZ 2), .int .i64 (aZ 3), .int .i64 (aZ 4), .int .i64 (aZ 5), .int .i64 (aZ 6), .int .i64 (aZ 7), .int .i64 (aZ 8), .int .i64 (aZ 9), .int .i64 (aZ 10), .int .i64 (aZ 11), .int .i64 (aZ 12), .int .i64 (aZ 13), .int .i64 (aZ 14), .int .i64 (aZ 15), .int .i64 (aZ 16), .int .i64 (aZ 17), .int .i64 (aZ 18), .int .i64 (aZ 19), .int .i64 (aZ 20), .int .i64 (aZ 21), .int .i64 (aZ 22), .int .i64 (aZ 23)])] ∧ j7 () = some r)) ?_ ?_
  · refine .region ?_
    refine .move ?_
    refine .val ?_
    refine .move ?_
    refine .caseG (fun hc8 => ?_) (fun hc8 => ?_)
    · replace h := (if_pos hc8).symm.trans h
      refine .skip ?_
      refine .skip ?_
      refine .brT ?_
      refine .nil ?_
      exact ⟨_, (.inl ⟨rfl, h⟩), (imp_of (.cons rfl (.cons rfl (.cons rfl (.nil)))) (.cons rfl (.nil)))⟩
    · replace h := (if_neg (nt hc8)).symm.trans h
      refine .move ?_
      refine .val ?_
      refine .brF ?_
      refine .nil ?_
      exact ⟨_, (.inr (⟨rfl, h⟩)), (imp_of (.cons rfl (.cons rfl (.cons rfl (.nil)))) (.cons rfl (.nil)))⟩
  · rintro T (⟨rfl, h⟩ | ⟨rfl, h⟩)
    · subst hj6
      refine .condT ?_
      refine .seq ?_
      refine .region ?_
      refine .buildL (cs := [.int .i64 0, .sl 97 .full [], .int .i64 (aZ 0), .int .i64 (aZ 1), .int .i64 (aZ 2), .int .i64 (aZ 3), .int .i64 (aZ 4), .int .i64 0, .int .i64 (aZ 0), .int .i64 (aZ 1), .int .i64 (aZ 2), .int .i64 (aZ 3), .int .i64 (aZ 4), .int .i64 (aZ 5), .int .i64 (aZ 6), .int .i64 (aZ 7), .int .i64 (aZ 8), .int .i64 (aZ 9), .int .i64 (aZ 10), .int .i64 (aZ 11), .int .i64 (aZ 12), .int .i64 (aZ 13), .int .i64 (aZ 14), .int .i64 (aZ 15), .int .i64 (aZ 16), .int .i64 (aZ 17), .int .i64 (aZ 18), .int .i64 (aZ 19), .int .i64 (aZ 20), .int .i64 (aZ 21), .int .i64 (aZ 22), .int .i64 (aZ 23)]) ?_
      refine .wrL (cs := [.int .i64 0, .sl 97 .full [], .int .i64 (aZ 0), .int .i64 (aZ 1), .int .i64 (aZ 2), .int .i64 (aZ 3), .int .i64 (aZ 4), .int .i64 0, .int .i64 (aZ 0), .int .i64 (aZ 1), .int .i64 (aZ 2), .int .i64 (aZ 3), .int .i64 (aZ 4), .int .i64 (aZ 5), .int .i64 (aZ 6), .int .i64 (aZ 7), .int .i64 (aZ 8), .int .i64 (aZ 9), .int .i64 (aZ 10), .int .i64 (aZ 11), .int .i64 (aZ 12), .int .i64 (aZ 13), .int .i64 (aZ 14), .int .i64 (aZ 15), .int .i64 (aZ 16), .int .i64 (aZ 17), .int .i64 (aZ 18), .int .i64 (aZ 19), .int .i64 (aZ 20), .int .i64 (aZ 21), .int .i64 (aZ 22), .int .i64 (aZ 23)]) ?_
      refine .assign ?_
      refine .nil ?_
      cases h
      refine .imp (Imp.cell (.loc 0 0) (ds := [.int .i64 0, .sl 97 .ro (([] : List Glitch).map pv97), .int .i64 (aZ 0), .int .i64 (aZ 1), .int .i64 (aZ 2), .int .i64 (aZ 3), .int .i64 (aZ 4), .int .i64 0, .int .i64 (aZ 0), .int .i64 (aZ 1), .int .i64 (aZ 2), .int .i64 (aZ 3), .int .i64 (aZ 4), .int .i64 (aZ 5), .int .i64 (aZ 6), .int .i64 (aZ 7), .int .i64 (aZ 8), .int .i64 (aZ 9), .int .i64 (aZ 10), .int .i64 (aZ 11), .int .i64 (aZ 12), .int .i64 (aZ 13), .int .i64 (aZ 14), .int .i64 (aZ 15), .int .i64 (aZ 16), .int .i64 (aZ 17), .int .i64 (aZ 18), .int .i64 (aZ 19), .int .i64 (aZ 20), .int .i64 (aZ 21), .int .i64 (aZ 22), .int .i64 (aZ 23)]) (.cons (.refl _) rfl (.cons (.ro _ _) rfl (.cons (.refl _) rfl (.cons (.refl _) rfl (.cons (.refl _) rfl (.cons (.refl _) rfl (.cons (.refl _) rfl (.cons (.refl _) rfl (.cons (.refl _) rfl (.cons (.refl _) rfl (.cons (.refl _) rfl (.cons (.refl _) rfl (.cons (.refl _) rfl (.cons (.refl _) rfl (.cons (.refl _) rfl (.cons (.refl _) rfl (.cons (.refl _) rfl (.cons (.refl _) rfl (.cons (.refl _) rfl (.cons (.refl _) rfl (.cons (.refl _) rfl (.cons (.refl _) rfl (.cons (.refl _) rfl (.cons (.refl _) rfl (.cons (.refl _) rfl (.cons (.refl _) rfl (.cons (.refl _) rfl (.cons (.refl _) rfl (.cons (.refl _) rfl (.cons (.refl _) rfl (.cons (.refl _) rfl (.cons (.refl _) rfl (.nil))))))))))))))))))))))))))))))))) rfl) ?_
      exact .ret (fin_gen0 none)
    · subst hj7
      refine .cond (fun hc9 => ?_) (fun hc9 => ?_)
      · replace h := (if_pos hc9).symm.trans h
        refine .seq ?_
        refine .region ?_
        refine .buildL (cs := [.int .i64 0, .sl 97 .full [], .int .i64 (aZ 0), .int .i64 (aZ 1), .int .i64 (aZ 2), .int .i64 (aZ 3), .int .i64 (aZ 4), .int .i64 0, .int .i64 (aZ 0), .int .i64 (aZ 1), .int .i64 (aZ 2), .int .i64 (aZ 3), .int .i64 (aZ 4), .int .i64 (aZ 5), .int .i64 (aZ 6), .int .i64 (aZ 7), .int .i64 (aZ 8), .int .i64 (aZ 9), .int .i64 (aZ 10), .int .i64 (aZ 11), .int .i64 (aZ 12), .int .i64 (aZ 13), .int .i64 (aZ 14), .int .i64 (aZ 15), .int .i64 (aZ 16), .int .i64 (aZ 17), .int .i64 (aZ 18), .int .i64 (aZ 19), .int .i64 (aZ 20), .int .i64 (aZ 21), .int .i64 (aZ 22), .int .i64 (aZ 23)]) ?_
        refine .wrL (cs := [.int .i64 0, .sl 97 .full [], .int .i64 (aZ 0), .int .i64 (aZ 1), .int .i64 (aZ 2), .int .i64 (aZ 3), .int .i64 (aZ 4), .int .i64 0, .int .i64 (aZ 0), .int .i64 (aZ 1), .int .i64 (aZ 2), .int .i64 (aZ 3), .int .i64 (aZ 4), .int .i64 (aZ 5), .int .i64 (aZ 6), .int .i64 (aZ 7), .int .i64 (aZ 8), .int .i64 (aZ 9), .int .i64 (aZ 10), .int .i64 (aZ 11), .int .i64 (aZ 12), .int .i64 (aZ 13), .int .i64 (aZ 14), .int .i64 (aZ 15), .int .i64 (aZ 16), .int .i64 (aZ 17), .int .i64 (aZ 18), .int .i64 (aZ 19), .int .i64 (aZ 20), .int .i64 (aZ 21), .int .i64 (aZ 22), .int .i64 (aZ 23)]) ?_
        refine .assign ?_
        refine .nil ?_
        cases h
        refine .imp (Imp.cell (.loc 0 0) (ds := [.int .i64 0, .sl 97 .ro (([] : List Glitch).map pv97), .int .i64 (aZ 0), .int .i64 (aZ 1), .int .i64 (aZ 2), .int .i64 (aZ 3), .int .i64 (aZ 4), .int .i64 0, .int .i64 (aZ 0), .int .i64 (aZ 1), .int .i64 (aZ 2), .int .i64 (aZ 3), .int .i64 (aZ 4), .int .i64 (aZ 5), .int .i64 (aZ 6), .int .i64 (aZ 7), .int .i64 (aZ 8), .int .i64 (aZ 9), .int .i64 (aZ 10), .int .i64 (aZ 11), .int .i64 (aZ 12), .int .i64 (aZ 13), .int .i64 (aZ 14), .int .i64 (aZ 15), .int .i64 (aZ 16), .int .i64 (aZ 17), .int .i64 (aZ 18), .int .i64 (aZ 19), .int .i64 (aZ 20), .int .i64 (aZ 21), .int .i64 (aZ 22), .int .i64 (aZ 23)]) (.cons (.refl _) rfl (.cons (.ro _ _) rfl (.cons (.refl _) rfl (.cons (.refl _) rfl (.cons (.refl _) rfl (.cons (.refl _) rfl (.cons (.refl _) rfl (.cons (.refl _) rfl (.cons (.refl _) rfl (.cons (.refl _) rfl (.cons (.refl _) rfl (.cons (.refl _) rfl (.cons (.refl _) rfl (.cons (.refl _) rfl (.cons (.refl _) rfl (.cons (.refl _) rfl (.cons (.refl _) rfl (.cons (.refl _) rfl (.cons (.refl _) rfl (.cons (.refl _) rfl (.cons (.refl _) rfl (.cons (.refl _) rfl (.cons (.refl _) rfl (.cons (.refl _) rfl (.cons (.refl _) rfl (.cons (.refl _) rfl (.cons (.refl _) rfl (.cons (.refl _) rfl (.cons (.refl _) rfl (.cons (.refl _) rfl (.cons (.refl _) rfl (.cons (.refl _) rfl (.nil))))))))))))))))))))))))))))))))) rfl) ?_
        exact .ret (fin_gen0 none)
      · replace h := (if_neg (nt hc9)).symm.trans h
        refine .skip ?_
        refine .seq ?_
        refine .region ?_
        refine .move ?_
        refine .buildL (cs := [.int .i64 a0, .sl 97 .full [], .int .i64 (aZ 0), .int .i64 (aZ 1), .int .i64 (aZ 2), .int .i64 (aZ 3), .int .i64 (aZ 4), .int .i64 0, .int .i64 (aZ 0), .int .i64 (aZ 1), .int .i64 (aZ 2), .int .i64 (aZ 3), .int .i64 (aZ 4), .int .i64 (aZ 5), .int .i64 (aZ 6), .int .i64 (aZ 7), .int .i64 (aZ 8), .int .i64 (aZ 9), .int .i64 (aZ 10), .int .i64 (aZ 11), .int .i64 (aZ 12), .int .i64 (aZ 13), .int .i64 (aZ 14), .int .i64 (aZ 15), .int .i64 (aZ 16), .int .i64 (aZ 17), .int .i64 (aZ 18), .int .i64 (aZ 19), .int .i64 (aZ 20), .int .i64 (aZ 21), .int .i64 (aZ 22), .int .i64 (aZ 23)]) ?_
        refine .wrL (cs := [.int .i64 a0, .sl 97 .full [], .int .i64 (aZ 0), .int .i64 (aZ 1), .int .i64 (aZ 2), .int .i64 (aZ 3), .int .i64 (aZ 4), .int .i64 0, .int .i64 (aZ 0), .int .i64 (aZ 1), .int .i64 (aZ 2), .int .i64 (aZ 3), .int .i64 (aZ 4), .int .i64 (aZ 5), .int .i64 (aZ 6), .int .i64 (aZ 7), .int .i64 (aZ 8), .int .i64 (aZ 9), .int .i64 (aZ 10), .int .i64 (aZ 11), .int .i64 (aZ 12), .int .i64 (aZ 13), .int .i64 (aZ 14), .int .i64 (aZ 15), .int .i64 (aZ 16), .int .i64 (aZ 17), .int .i64 (aZ 18), .int .i64 (aZ 19), .int .i64 (aZ 20), .int .i64 (aZ 21), .int .i64 (aZ 22), .int .i64 (aZ 23)]) ?_
        refine .assign ?_
        refine .nil ?_
        cases h
        refine .imp (Imp.cell (.loc 0 0) (ds := [.int .i64 a0, .sl 97 .ro (([] : List Glitch).map pv97), .int .i64 (aZ 0), .int .i64 (aZ 1), .int .i64 (aZ 2), .int .i64 (aZ 3), .int .i64 (aZ 4), .int .i64 0, .int .i64 (aZ 0), .int .i64 (aZ 1), .int .i64 (aZ 2), .int .i64 (aZ 3), .int .i64 (aZ 4), .int .i64 (aZ 5), .int .i64 (aZ 6), .int .i64 (aZ 7), .int .i64 (aZ 8), .int .i64 (aZ 9), .int .i64 (aZ 10), .int .i64 (aZ 11), .int .i64 (aZ 12), .int .i64 (aZ 13), .int .i64 (aZ 14), .int .i64 (aZ 15), .int .i64 (aZ 16), .int .i64 (aZ 17), .int .i64 (aZ 18), .int .i64 (aZ 19), .int .i64 (aZ 20), .int .i64 (aZ 21), .int .i64 (aZ 22), .int .i64 (aZ 23)]) (.cons (.refl _) rfl (.cons (.ro _ _) rfl (.cons (.refl _) rfl (.cons (.refl _) rfl (.cons (.refl _) rfl (.cons (.refl _) rfl (.cons (.refl _) rfl (.cons (.refl _) rfl (.cons (.refl _) rfl (.cons (.refl _) rfl (.cons (.refl _) rfl (.cons (.refl _) rfl (.cons (.refl _) rfl (.cons (.refl _) rfl (.cons (.refl _) rfl (.cons (.refl _) rfl (.cons (.refl _) rfl (.cons (.refl _) rfl (.cons (.refl _) rfl (.cons (.refl _) rfl (.cons (.refl _) rfl (.cons (.refl _) rfl (.cons (.refl _) rfl (.cons (.refl _) rfl (.cons (.refl _) rfl (.cons (.refl _) rfl (.cons (.refl _) rfl (.cons (.refl _) rfl (.cons (.refl _) rfl (.cons (.refl _) rfl (.cons (.refl _) rfl (.cons (.refl _) rfl (.nil))))))))))))))))))))))))))))))))) rfl) ?_
        exact .ret (fin_gen0 none)

/- soundservice/glitch.Valid -/
def f97 (_n : Nat) (a0 : Glitch) : Option Bool :=
  joinK (fun (_ : Unit) =>
  some false) fun j14 =>
  joinK (fun (_ : Unit) =>
  if decide (a0.Frames > (1099511627776 : Int)) then (
  some false)
  else (
  joinK (fun (v33 : Bool) =>
  if v33 then (
  if decide (a0.Stream ≥ (1 : Int)) then (
  some (a0.Device == (0 : Int)))
  else (
  some false))
  else (
  joinK (fun (v40 : Bool) =>
  if v40 then (
  if decide (a0.Device ≥ (1 : Int)) then (
  some (a0.Stream == (0 : Int)))
  else (
  some false))
  else (
  some false)) fun j41 =>
  if (a0.Kind == (3 : Int)) then (
  j41 (a0.Kind == (3 : Int)))
  else (
  j41 (a0.Kind == (4 : Int))))) fun j34 =>
  if (a0.Kind == (1 : Int)) then (
  j34 (a0.Kind == (1 : Int)))
  else (
  j34 (a0.Kind == (2 : Int))))) fun j15 =>
  if decide (a0.At < (0 : Int)) then (
  j14 ())
  else (
  if decide (a0.At > (1099511627776 : Int)) then (
  j14 ())
  else (
  if decide (a0.Quanta < (1 : Int)) then (
  j14 ())
  else (
  if decide (a0.Quanta > (4096 : Int)) then (
  j14 ())
  else (
  if decide (a0.Frames < (1 : Int)) then (
  j14 ())
  else (
  j15 ())))))
set_option maxHeartbeats 4000000 in
set_option maxRecDepth 100000 in
theorem g97 {n : Nat} {a0 : Glitch} {r : Bool} (h : f97 n a0 = some r) :
    Ab.Can Try.prog 97 [.agg [.int .i64 a0.Kind, .int .i64 a0.At, .int .i64 a0.Quanta, .int .i64 a0.Stream, .int .u64 a0.Device, .int .i64 a0.Frames]] H0 (.bool r) H0 := by
  refine can_of tabOK mix Try.call97 Try.func97 rfl (by kernel_rfl) (by show _ ≤ 55; simp) fun _ => ?_
  rw [f97] at h
  refine .seq ?_
  refine .region ?_
  refine .boxL (cs := [.int .i64 a0.Kind, .int .i64 a0.At, .int .i64 a0.Quanta, .int .i64 a0.Stream, .int .u64 a0.Device, .int .i64 a0.Frames]) ?_
  refine .assign ?_
  refine .nil ?_
  refine .seq ?_
  obtain ⟨j14, hj14, h⟩ := joinE h
  obtain ⟨j15, hj15, h⟩ := joinE h
  refine .cutI (fun T => (T = St.of [(1, .ptr (.loc 0 0) 0), (30, .bool true)] [((.loc 0 0), [.int .i64 a0.Kind, .int .i64 a0.At, .int .i64 a0.Quanta, .int .i64 a0.Stream, .int .u64 a0.Device, .int .i64 a0.Frames])] ∧ j14 () = some r) ∨ (T = St.of [(1, .ptr (.loc 0 0) 0), (30, .bool (decide (a0.Frames > (1099511627776 : Int))))] [((.loc 0 0), [.int .i64 a0.Kind, .int .i64 a0.At, .int .i64 a0.Quanta, .int .i64 a0.Stream, .int .u64 a0.Device, .int .i64 a0.Frames])] ∧ j15 () = some r)) ?_ ?_
  · refine .region ?_
    refine .val ?_
    refine .val ?_
    refine .val ?_
    refine .move ?_
    refine .caseG (fun hc16 => ?_) (fun hc16 => ?_)
    · replace h := (if_pos hc16).symm.trans h
      refine .skip ?_
      refine .skip ?_
      refine .skip ?_
      refine .brT ?_
      refine .move ?_
      refine .skip ?_
      refine .skip ?_
      refine .skip ?_
      refine .brT ?_
      refine .move ?_
      refine .skip ?_
      refine .skip ?_
      refine .skip ?_
      refine .brT ?_
      refine .move ?_
      refine .skip ?_
      refine .skip ?_
      refine .skip ?_
      refine .brT ?_
      refine .move ?_
      refine .skip ?_
      refine .skip ?_
      refine .skip ?_
      refine .brT ?_
      refine .nil ?_
      exact ⟨_, (.inl ⟨rfl, h⟩), (imp_of (.cons rfl (.cons rfl (.nil))) (.cons rfl (.nil)))⟩
    · replace h := (if_neg (nt hc16)).symm.trans h
      refine .val ?_
      refine .val ?_
      refine .val ?_
      refine .brF ?_
      refine .move ?_
      refine .caseG (fun hc17 => ?_) (fun hc17 => ?_)
      · replace h := (if_pos hc17).symm.trans h
        refine .skip ?_
        refine .skip ?_
        refine .skip ?_
        refine .brT ?_
        refine .move ?_
        refine .skip ?_
        refine .skip ?_
        refine .skip ?_
        refine .brT ?_
        refine .move ?_
        refine .skip ?_
        refine .skip ?_
        refine .skip ?_
        refine .brT ?_
        refine .move ?_
        refine .skip ?_
        refine .skip ?_
        refine .skip ?_
        refine .brT ?_
        refine .nil ?_
        exact ⟨_, (.inl ⟨rfl, h⟩), (imp_of (.cons rfl (.cons rfl (.nil))) (.cons rfl (.nil)))⟩
      · replace h := (if_neg (nt hc17)).symm.trans h
        refine .val ?_
        refine .val ?_
        refine .val ?_
        refine .brF ?_
        refine .move ?_
        refine .caseG (fun hc18 => ?_) (fun hc18 => ?_)
        · replace h := (if_pos hc18).symm.trans h
          refine .skip ?_
          refine .skip ?_
          refine .skip ?_
          refine .brT ?_
          refine .move ?_
          refine .skip ?_
          refine .skip ?_
          refine .skip ?_
          refine .brT ?_
          refine .move ?_
          refine .skip ?_
          refine .skip ?_
          refine .skip ?_
          refine .brT ?_
          refine .nil ?_
          exact ⟨_, (.inl ⟨rfl, h⟩), (imp_of (.cons rfl (.cons rfl (.nil))) (.cons rfl (.nil)))⟩
        · replace h := (if_neg (nt hc18)).symm.trans h
          refine .val ?_
          refine .val ?_
          refine .val ?_
          refine .brF ?_
          refine .move ?_
          refine .caseG (fun hc19 => ?_) (fun hc19 => ?_)
          · replace h := (if_pos hc19).symm.trans h
            refine .skip ?_
            refine .skip ?_
            refine .skip ?_
            refine .brT ?_
            refine .move ?_
            refine .skip ?_
            refine .skip ?_
            refine .skip ?_
            refine .brT ?_
            refine .nil ?_
            exact ⟨_, (.inl ⟨rfl, h⟩), (imp_of (.cons rfl (.cons rfl (.nil))) (.cons rfl (.nil)))⟩
          · replace h := (if_neg (nt hc19)).symm.trans h
            refine .val ?_
            refine .val ?_
            refine .val ?_
            refine .brF ?_
            refine .move ?_
            refine .caseG (fun hc20 => ?_) (fun hc20 => ?_)
            · replace h := (if_pos hc20).symm.trans h
              refine .skip ?_
              refine .skip ?_
              refine .skip ?_
              refine .brT ?_
              refine .nil ?_
              exact ⟨_, (.inl ⟨rfl, h⟩), (imp_of (.cons rfl (.cons rfl (.nil))) (.cons rfl (.nil)))⟩
            · replace h := (if_neg (nt hc20)).symm.trans h
              refine .val ?_
              refine .val ?_
              refine .val ?_
              refine .brF ?_
              refine .nil ?_
              exact ⟨_, (.inr (⟨rfl, h⟩)), (imp_of (.cons rfl (.cons rfl (.nil))) (.cons rfl (.nil)))⟩
  · rintro T (⟨rfl, h⟩ | ⟨rfl, h⟩)
    · subst hj14
      refine .condT ?_
      refine .seq ?_
      refine .region ?_
      refine .assign ?_
      refine .nil ?_
      cases h
      exact .ret (fin_gen0 none)
    · subst hj15
      refine .cond (fun hc21 => ?_) (fun hc21 => ?_)
      · replace h := (if_pos hc21).symm.trans h
        refine .seq ?_
        refine .region ?_
        refine .assign ?_
        refine .nil ?_
        cases h
        exact .ret (fin_gen0 none)
      · replace h := (if_neg (nt hc21)).symm.trans h
        refine .skip ?_
        refine .seq ?_
        refine .seq ?_
        refine .region ?_
        refine .val ?_
        refine .val ?_
        refine .nil ?_
        refine .block ?_
        obtain ⟨j34, hj34, h⟩ := joinE h
        refine .cutI (fun T => (∃ (v33 : Bool), T = St.of [(1, .ptr (.loc 0 0) 0), (32, .int .i64 a0.Kind), (33, .bool v33)] [((.loc 0 0), [.int .i64 a0.Kind, .int .i64 a0.At, .int .i64 a0.Quanta, .int .i64 a0.Stream, .int .u64 a0.Device, .int .i64 a0.Frames])] ∧ j34 v33 = some r)) ?_ ?_
        · refine .seq ?_
          refine .region ?_
          refine .val ?_
          refine .assign ?_
          refine .nil ?_
          refine .cond (fun hc35 => ?_) (fun hc35 => ?_)
          · replace h := (if_pos hc35).symm.trans h
            refine .skip ?_
            exact ⟨_, ⟨_, rfl, h⟩, (imp_of (.cons rfl (.cons rfl (.cons rfl (.nil)))) (.cons rfl (.nil)))⟩
          · replace h := (if_neg (nt hc35)).symm.trans h
            refine .region ?_
            refine .val ?_
            refine .assign ?_
            refine .nil ?_
            exact ⟨_, ⟨_, rfl, h⟩, (imp_of (.cons rfl (.cons rfl (.cons rfl (.nil)))) (.cons rfl (.nil)))⟩
        · rintro T ⟨v33, rfl, h⟩
          subst hj34
          refine .cond (fun hc36 => ?_) (fun hc36 => ?_)
          · replace h := (if_pos hc36).symm.trans h
            refine .seq ?_
            refine .region ?_
            refine .val ?_
            refine .val ?_
            refine .val ?_
            refine .move ?_
            refine .caseG (fun hc38 => ?_) (fun hc38 => ?_)
            · replace h := (if_pos hc38).symm.trans h
              refine .val ?_
              refine .val ?_
              refine .val ?_
              refine .brT ?_
              refine .assign ?_
              refine .nil ?_
              cases h
              exact .ret (fin_gen0 none)
            · replace h := (if_neg (nt hc38)).symm.trans h
              refine .skip ?_
              refine .skip ?_
              refine .skip ?_
              refine .brF ?_
              refine .assign ?_
              refine .nil ?_
              cases h
              exact .ret (fin_gen0 none)
          · replace h := (if_neg (nt hc36)).symm.trans h
            obtain ⟨j41, hj41, h⟩ := joinE h
            refine .cutI (fun T => (∃ (v40 : Bool), T = St.of [(1, .ptr (.loc 0 0) 0), (44, .bool v40)] [((.loc 0 0), [.int .i64 a0.Kind, .int .i64 a0.At, .int .i64 a0.Quanta, .int .i64 a0.Stream, .int .u64 a0.Device, .int .i64 a0.Frames])] ∧ j41 v40 = some r)) ?_ ?_
            · refine .seq ?_
              refine .region ?_
              refine .val ?_
              refine .assign ?_
              refine .nil ?_
              refine .cond (fun hc42 => ?_) (fun hc42 => ?_)
              · replace h := (if_pos hc42).symm.trans h
                refine .skip ?_
                exact ⟨_, ⟨_, rfl, h⟩, (imp_of (.cons rfl (.cons rfl (.nil))) (.cons rfl (.nil)))⟩
              · replace h := (if_neg (nt hc42)).symm.trans h
                refine .region ?_
                refine .val ?_
                refine .assign ?_
                refine .nil ?_
                exact ⟨_, ⟨_, rfl, h⟩, (imp_of (.cons rfl (.cons rfl (.nil))) (.cons rfl (.nil)))⟩
            · rintro T ⟨v40, rfl, h⟩
              subst hj41
              refine .cond (fun hc43 => ?_) (fun hc43 => ?_)
              · replace h := (if_pos hc43).symm.trans h
                refine .seq ?_
                refine .region ?_
                refine .val ?_
                refine .val ?_
                refine .val ?_
                refine .move ?_
                refine .caseG (fun hc45 => ?_) (fun hc45 => ?_)
                · replace h := (if_pos hc45).symm.trans h
                  refine .val ?_
                  refine .val ?_
                  refine .val ?_
                  refine .brT ?_
                  refine .assign ?_
                  refine .nil ?_
                  cases h
                  exact .ret (fin_gen0 none)
                · replace h := (if_neg (nt hc45)).symm.trans h
                  refine .skip ?_
                  refine .skip ?_
                  refine .skip ?_
                  refine .brF ?_
                  refine .assign ?_
                  refine .nil ?_
                  cases h
                  exact .ret (fin_gen0 none)
              · replace h := (if_neg (nt hc43)).symm.trans h
                refine .skip ?_
                refine .seq ?_
                refine .region ?_
                refine .assign ?_
                refine .nil ?_
                cases h
                exact .ret (fin_gen0 none)

/- soundservice/recorder.Valid$1 -/
def f96 (n : Nat) (a0 : Glitch) : Option Bool :=
  (f97 n (⟨a0.Kind, a0.At, a0.Quanta, a0.Stream, a0.Device, a0.Frames⟩ : Glitch)).bind fun y1 =>
  some (!y1)
set_option maxHeartbeats 4000000 in
set_option maxRecDepth 100000 in
theorem g96 {n : Nat} {a0 : Glitch} {r : Bool} (h : f96 n a0 = some r) :
    Ab.Can Try.prog 96 [.agg [.int .i64 a0.Kind, .int .i64 a0.At, .int .i64 a0.Quanta, .int .i64 a0.Stream, .int .u64 a0.Device, .int .i64 a0.Frames]] H0 (.bool r) H0 := by
  refine can_of tabOK mix Try.call96 Try.func96 rfl (by kernel_rfl) (by show _ ≤ 6; simp) fun _ => ?_
  rw [f96] at h
  refine .seq ?_
  refine .region ?_
  refine .boxL (cs := [.int .i64 a0.Kind, .int .i64 a0.At, .int .i64 a0.Quanta, .int .i64 a0.Stream, .int .u64 a0.Device, .int .i64 a0.Frames]) ?_
  refine .assign ?_
  refine .nil ?_
  refine .seq ?_
  refine .region ?_
  refine .val (v := .agg [.int .i64 a0.Kind, .int .i64 a0.At, .int .i64 a0.Quanta, .int .i64 a0.Stream, .int .u64 a0.Device, .int .i64 a0.Frames]) ?_
  obtain ⟨y1, hy1, h⟩ := bindE h
  refine .cP (g97 hy1) ?_
  refine .val ?_
  refine .assign ?_
  refine .nil ?_
  cases h
  exact .ret (fin_gen0 none)

/- slices.IndexFunc[[]soundservice/api.Glitch,soundservice/api.Glitch] -/
def f117_l1 (n : Nat) (a0 : (List Glitch)) (p1 : Glitch → Option Bool) (j15 : Unit → Option Int) : Nat → Int → Option Int
  | 0, _ => none
  | m26 + 1, v20 =>
    if decide (v20 < (a0.length : Int)) then (
    (lAt a0 v20).bind fun x32 =>
    (p1 x32).bind fun y33 =>
    if y33 then (
    some v20)
    else (
    f117_l1 n a0 p1 j15 m26 (w64 (v20 + (1 : Int)))))
    else (
    j15 ())
def f117 (n : Nat) (a0 : (List Glitch)) (p1 : Glitch → Option Bool) : Option Int :=
  joinK (fun (_ : Unit) =>
  some (-1)) fun j15 =>
  f117_l1 n a0 p1 j15 n 0
set_option maxHeartbeats 4000000 in
set_option maxRecDepth 100000 in
theorem g117 {n : Nat} {a0 : (List Glitch)} {p1 : Glitch → Option Bool} {c1 : Nat} {q1 : List PV} {hp : List (Ab.Id × List PV)} (hp1 : ∀ (x0 : Glitch) (b : Bool), p1 x0 = some b → Ab.Can Try.prog c1 ([.agg [.int .i64 x0.Kind, .int .i64 x0.At, .int .i64 x0.Quanta, .int .i64 x0.Stream, .int .u64 x0.Device, .int .i64 x0.Frames]] ++ q1) (lookH hp) (.bool b) (lookH hp)) (hq : CapOK q1 hp = true) (ho1 : PV.roDs q1 = q1) {r : Int} (h : f117 n a0 p1 = some r) :
    Ab.Can Try.prog 117 [.sl 97 .ro (a0.map pv97), .fn c1 q1] (lookH hp) (.int .i64 r) (lookH hp) := by
  refine can_of tabOK mix Try.call117 Try.func117 rfl (by kernel_rfl) (by show _ ≤ 19; simp) fun _ => ?_
  rw [f117] at h
  refine .seq ?_
  refine .region ?_
  refine .assign ?_
  refine .nil ?_
  obtain ⟨j15, hj15, h⟩ := joinE h
  refine .cutI (fun T => (T = St.of [] hp ∧ j15 () = some r)) ?_ ?_
  · refine .seq ?_
    refine .region ?_
    refine .move ?_
    refine .lenL (f := pv97) ?_
    refine .move ?_
    refine .nil ?_
    refine .block ?_
    refine .loopI (fun m T => ∃ (v20 : Int), T = St.of [(0, .sl 97 .ro (a0.map pv97)), (1, .fn c1 q1), (7, .int .i64 (a0.length : Int)), (8, .int .i64 v20)] hp ∧ f117_l1 n a0 p1 j15 m v20 = some r) _ _ ⟨_, rfl, h⟩ (imp_opq (.cons rfl (.cons rfl (.cons rfl (.cons rfl (.nil))))) rfl) ?_
    rintro m26 T ⟨v20, rfl, h⟩
    obtain _ | m26 := m26
    · rw [f117_l1] at h; cases h
    rw [f117_l1] at h
    refine .seq ?_
    refine .region ?_
    refine .val ?_
    refine .nil ?_
    refine .seq ?_
    refine .cond (fun hc28 => ?_) (fun hc28 => ?_)
    · replace h := (if_pos hc28).symm.trans h
      refine .skip ?_
      refine .seq ?_
      refine .block ?_
      refine .seq ?_
      refine .region ?_
      refine .move ?_
      refine .assign ?_
      refine .nil ?_
      refine .seq ?_
      refine .region ?_
      refine .move ?_
      refine .move ?_
      refine .move ?_
      obtain ⟨x32, hx32, h⟩ := bindE h
      refine .idxL (f := pv97) hx32 ?_
      refine .ldL hx32 (y := .agg [.int .i64 x32.Kind, .int .i64 x32.At, .int .i64 x32.Quanta, .int .i64 x32.Stream, .int .u64 x32.Device, .int .i64 x32.Frames]) ?_
      obtain ⟨y33, hy33, h⟩ := bindE h
      refine .cF (hp1 _ _ hy33) hq ho1 ?_
      refine .nil ?_
      refine .cond (fun hc34 => ?_) (fun hc34 => ?_)
      · replace h := (if_pos hc34).symm.trans h
        refine .seq ?_
        refine .region ?_
        refine .move ?_
        refine .assign ?_
        refine .nil ?_
        cases h
        exact .ret (fin_opq hq rfl)
      · replace h := (if_neg (nt hc34)).symm.trans h
        refine .skip ?_
        refine .region ?_
        refine .val ?_
        refine .move ?_
        refine .nil ?_
        exact ⟨m26, _, Nat.lt_succ_self m26, ⟨_, rfl, h⟩, (imp_opq (.cons rfl (.cons rfl (.cons rfl (.cons rfl (.nil))))) rfl)⟩
    · replace h := (if_neg (nt hc28)).symm.trans h
      refine .exit (.hit ?_)
      exact ⟨_, ⟨rfl, h⟩, (imp_opq (.nil) rfl)⟩
  · rintro T ⟨rfl, h⟩
    subst hj15
    refine .seq ?_
    refine .region ?_
    refine .assign ?_
    refine .nil ?_
    cases h
    exact .ret (fin_opq hq rfl)

/- slices.ContainsFunc[[]soundservice/api.Glitch,soundservice/api.Glitch] -/
def f98 (n : Nat) (a0 : (List Glitch)) (p1 : Glitch → Option Bool) : Option Bool :=
  (f117 n a0 p1).bind fun y1 =>
  some (decide (y1 ≥ (0 : Int)))
set_option maxHeartbeats 4000000 in
set_option maxRecDepth 100000 in
theorem g98 {n : Nat} {a0 : (List Glitch)} {p1 : Glitch → Option Bool} {c1 : Nat} {q1 : List PV} {hp : List (Ab.Id × List PV)} (hp1 : ∀ (x0 : Glitch) (b : Bool), p1 x0 = some b → Ab.Can Try.prog c1 ([.agg [.int .i64 x0.Kind, .int .i64 x0.At, .int .i64 x0.Quanta, .int .i64 x0.Stream, .int .u64 x0.Device, .int .i64 x0.Frames]] ++ q1) (lookH hp) (.bool b) (lookH hp)) (hq : CapOK q1 hp = true) (ho1 : PV.roDs q1 = q1) {r : Bool} (h : f98 n a0 p1 = some r) :
    Ab.Can Try.prog 98 [.sl 97 .ro (a0.map pv97), .fn c1 q1] (lookH hp) (.bool r) (lookH hp) := by
  refine can_of tabOK mix Try.call98 Try.func98 rfl (by kernel_rfl) (by show _ ≤ 9; simp) fun _ => ?_
  rw [f98] at h
  refine .seq ?_
  refine .region ?_
  refine .assign ?_
  refine .nil ?_
  refine .seq ?_
  refine .region ?_
  refine .move ?_
  refine .move ?_
  obtain ⟨y1, hy1, h⟩ := bindE h
  refine .cQ (g117 hp1 hq ho1 hy1) hq (fun i hi => by simpa [PV.idss, PV.ids] using hi) ?_
  refine .val ?_
  refine .assign ?_
  refine .nil ?_
  cases h
  exact .ret (fin_opq hq rfl)

/- slices.IndexFunc[[]int,int] -/
def f123_l1 (n : Nat) (a0 : (List Int)) (p1 : Int → Option Bool) (j15 : Unit → Option Int) : Nat → Int → Option Int
  | 0, _ => none
  | m26 + 1, v20 =>
    if decide (v20 < (a0.length : Int)) then (
    (lAt a0 v20).bind fun x32 =>
    (p1 x32).bind fun y33 =>
    if y33 then (
    some v20)
    else (
    f123_l1 n a0 p1 j15 m26 (w64 (v20 + (1 : Int)))))
    else (
    j15 ())
def f123 (n : Nat) (a0 : (List Int)) (p1 : Int → Option Bool) : Option Int :=
  joinK (fun (_ : Unit) =>
  some (-1)) fun j15 =>
  f123_l1 n a0 p1 j15 n 0
set_option maxHeartbeats 4000000 in
set_option maxRecDepth 100000 in
theorem g123 {n : Nat} {a0 : (List Int)} {p1 : Int → Option Bool} {c1 : Nat} {q1 : List PV} {hp : List (Ab.Id × List PV)} (hp1 : ∀ (x0 : Int) (b : Bool), p1 x0 = some b → Ab.Can Try.prog c1 ([.int .i64 x0] ++ q1) (lookH hp) (.bool b) (lookH hp)) (hq : CapOK q1 hp = true) (ho1 : PV.roDs q1 = q1) {r : Int} (h : f123 n a0 p1 = some r) :
    Ab.Can Try.prog 123 [.sl 3 .ro (a0.map (PV.int .i64)), .fn c1 q1] (lookH hp) (.int .i64 r) (lookH hp) := by
  refine can_of tabOK mix Try.call123 Try.func123 rfl (by kernel_rfl) (by show _ ≤ 19; simp) fun _ => ?_
  rw [f123] at h
  refine .seq ?_
  refine .region ?_
  refine .assign ?_
  refine .nil ?_
  obtain ⟨j15, hj15, h⟩ := joinE h
  refine .cutI (fun T => (T = St.of [] hp ∧ j15 () = some r)) ?_ ?_
  · refine .seq ?_
    refine .region ?_
    refine .move ?_
    refine .lenL (f := (PV.int .i64)) ?_
    refine .move ?_
    refine .nil ?_
    refine .block ?_
    refine .loopI (fun m T => ∃ (v20 : Int), T = St.of [(0, .sl 3 .ro (a0.map (PV.int .i64))), (1, .fn c1 q1), (7, .int .i64 (a0.length : Int)), (8, .int .i64 v20)] hp ∧ f123_l1 n a0 p1 j15 m v20 = some r) _ _ ⟨_, rfl, h⟩ (imp_opq (.cons rfl (.cons rfl (.cons rfl (.cons rfl (.nil))))) rfl) ?_
    rintro m26 T ⟨v20, rfl, h⟩
    obtain _ | m26 := m26
    · rw [f123_l1] at h; cases h
    rw [f123_l1] at h
    refine .seq ?_
    refine .region ?_
    refine .val ?_
    refine .nil ?_
    refine .seq ?_
    refine .cond (fun hc28 => ?_) (fun hc28 => ?_)
    · replace h := (if_pos hc28).symm.trans h
      refine .skip ?_
      refine .seq ?_
      refine .block ?_
      refine .seq ?_
      refine .region ?_
      refine .move ?_
      refine .assign ?_
      refine .nil ?_
      refine .seq ?_
      refine .region ?_
      refine .move ?_
      refine .move ?_
      refine .move ?_
      obtain ⟨x32, hx32, h⟩ := bindE h
      refine .idxL (f := (PV.int .i64)) hx32 ?_
      refine .ldL hx32 (y := .int .i64 x32) ?_
      obtain ⟨y33, hy33, h⟩ := bindE h
      refine .cF (hp1 _ _ hy33) hq ho1 ?_
      refine .nil ?_
      refine .cond (fun hc34 => ?_) (fun hc34 => ?_)
      · replace h := (if_pos hc34).symm.trans h
        refine .seq ?_
        refine .region ?_
        refine .move ?_
        refine .assign ?_
        refine .nil ?_
        cases h
        exact .ret (fin_opq hq rfl)
      · replace h := (if_neg (nt hc34)).symm.trans h
        refine .skip ?_
        refine .region ?_
        refine .val ?_
        refine .move ?_
        refine .nil ?_
        exact ⟨m26, _, Nat.lt_succ_self m26, ⟨_, rfl, h⟩, (imp_opq (.cons rfl (.cons rfl (.cons rfl (.cons rfl (.nil))))) rfl)⟩
    · replace h := (if_neg (nt hc28)).symm.trans h
      refine .exit (.hit ?_)
      exact ⟨_, ⟨rfl, h⟩, (imp_opq (.nil) rfl)⟩
  · rintro T ⟨rfl, h⟩
    subst hj15
    refine .seq ?_
    refine .region ?_
    refine .assign ?_
    refine .nil ?_
    cases h
    exact .ret (fin_opq hq rfl)

/- slices.ContainsFunc[[]int,int] -/
def f118 (n : Nat) (a0 : (List Int)) (p1 : Int → Option Bool) : Option Bool :=
  (f123 n a0 p1).bind fun y1 =>
  some (decide (y1 ≥ (0 : Int)))
set_option maxHeartbeats 4000000 in
set_option maxRecDepth 100000 in
theorem g118 {n : Nat} {a0 : (List Int)} {p1 : Int → Option Bool} {c1 : Nat} {q1 : List PV} {hp : List (Ab.Id × List PV)} (hp1 : ∀ (x0 : Int) (b : Bool), p1 x0 = some b → Ab.Can Try.prog c1 ([.int .i64 x0] ++ q1) (lookH hp) (.bool b) (lookH hp)) (hq : CapOK q1 hp = true) (ho1 : PV.roDs q1 = q1) {r : Bool} (h : f118 n a0 p1 = some r) :
    Ab.Can Try.prog 118 [.sl 3 .ro (a0.map (PV.int .i64)), .fn c1 q1] (lookH hp) (.bool r) (lookH hp) := by
  refine can_of tabOK mix Try.call118 Try.func118 rfl (by kernel_rfl) (by show _ ≤ 9; simp) fun _ => ?_
  rw [f118] at h
  refine .seq ?_
  refine .region ?_
  refine .assign ?_
  refine .nil ?_
  refine .seq ?_
  refine .region ?_
  refine .move ?_
  refine .move ?_
  obtain ⟨y1, hy1, h⟩ := bindE h
  refine .cQ (g123 hp1 hq ho1 hy1) hq (fun i hi => by simpa [PV.idss, PV.ids] using hi) ?_
  refine .val ?_
  refine .assign ?_
  refine .nil ?_
  cases h
  exact .ret (fin_opq hq rfl)

/- soundservice/recorder.counts$1 -/
def f119 (_n : Nat) (a0 : Int) : Option Bool :=
  if decide (a0 < (0 : Int)) then (
  some true)
  else (
  some (decide (a0 > (1099511627776 : Int))))
set_option maxHeartbeats 4000000 in
set_option maxRecDepth 100000 in
theorem g119 {n : Nat} {a0 : Int} {r : Bool} (h : f119 n a0 = some r) :
    Ab.Can Try.prog 119 [.int .i64 a0] H0 (.bool r) H0 := by
  refine can_of tabOK mix Try.call119 Try.func119 rfl (by kernel_rfl) (by show _ ≤ 9; simp) fun _ => ?_
  rw [f119] at h
  refine .seq ?_
  refine .region ?_
  refine .assign ?_
  refine .nil ?_
  refine .seq ?_
  refine .region ?_
  refine .move ?_
  refine .val ?_
  refine .move ?_
  refine .caseG (fun hc2 => ?_) (fun hc2 => ?_)
  · replace h := (if_pos hc2).symm.trans h
    refine .skip ?_
    refine .skip ?_
    refine .brT ?_
    refine .assign ?_
    refine .nil ?_
    cases h
    exact .ret (fin_gen0 none)
  · replace h := (if_neg (nt hc2)).symm.trans h
    refine .move ?_
    refine .val ?_
    refine .brF ?_
    refine .assign ?_
    refine .nil ?_
    cases h
    exact .ret (fin_gen0 none)

/- soundservice/recorder.counts -/
def f99 (n : Nat) (a0 : (List Int)) : Option Bool :=
  (f118 n a0 (fun z0 => f119 n z0)).bind fun y1 =>
  some (!y1)
set_option maxHeartbeats 4000000 in
set_option maxRecDepth 100000 in
theorem g99 {n : Nat} {a0 : (List Int)} {r : Bool} (h : f99 n a0 = some r) :
    Ab.Can Try.prog 99 [.sl 3 .ro (a0.map (PV.int .i64))] H0 (.bool r) H0 := by
  refine can_of tabOK mix Try.call99 Try.func99 rfl (by kernel_rfl) (by show _ ≤ 6; simp) fun _ => ?_
  rw [f99] at h
  refine .seq ?_
  refine .region ?_
  refine .assign ?_
  refine .nil ?_
  refine .seq ?_
  refine .region ?_
  refine .move ?_
  obtain ⟨y1, hy1, h⟩ := bindE h
  refine .cP (g118 (q1 := []) (hp := []) (fun _ _ hz => g119 hz) rfl rfl hy1) ?_
  refine .val ?_
  refine .assign ?_
  refine .nil ?_
  cases h
  exact .ret (fin_gen0 none)

/- soundservice/recorder.Valid -/
def f60 (n : Nat) (a0 : Recorder) : Option Bool :=
  if decide (a0.Limit ≥ (1 : Int)) then (
  if decide (a0.Limit ≤ (256 : Int)) then (
  if decide ((a0.Last.length : Int) ≤ a0.Limit) then (
  (f98 n a0.Last (fun z0 => f96 n z0)).bind fun y14 =>
  if !y14 then (
  (f99 n ([a0.Frames] : List Int)).bind fun y16 =>
  if y16 then (
  (f99 n (aLs a0.Counts 0 5)).bind fun y18 =>
  if y18 then (
  (f99 n (aLs a0.Buckets 0 24)).bind fun y20 =>
  some y20)
  else (
  some false))
  else (
  some false))
  else (
  some false))
  else (
  some false))
  else (
  some false))
  else (
  some false)
set_option maxHeartbeats 4000000 in
set_option maxRecDepth 100000 in
theorem g60 {n : Nat} {a0 : Recorder} {r : Bool} (h : f60 n a0 = some r) :
    Ab.Can Try.prog 60 [.agg [.int .i64 a0.Limit, .sl 97 .ro (a0.Last.map pv97), .int .i64 (a0.Counts 0), .int .i64 (a0.Counts 1), .int .i64 (a0.Counts 2), .int .i64 (a0.Counts 3), .int .i64 (a0.Counts 4), .int .i64 a0.Frames, .int .i64 (a0.Buckets 0), .int .i64 (a0.Buckets 1), .int .i64 (a0.Buckets 2), .int .i64 (a0.Buckets 3), .int .i64 (a0.Buckets 4), .int .i64 (a0.Buckets 5), .int .i64 (a0.Buckets 6), .int .i64 (a0.Buckets 7), .int .i64 (a0.Buckets 8), .int .i64 (a0.Buckets 9), .int .i64 (a0.Buckets 10), .int .i64 (a0.Buckets 11), .int .i64 (a0.Buckets 12), .int .i64 (a0.Buckets 13), .int .i64 (a0.Buckets 14), .int .i64 (a0.Buckets 15), .int .i64 (a0.Buckets 16), .int .i64 (a0.Buckets 17), .int .i64 (a0.Buckets 18), .int .i64 (a0.Buckets 19), .int .i64 (a0.Buckets 20), .int .i64 (a0.Buckets 21), .int .i64 (a0.Buckets 22), .int .i64 (a0.Buckets 23)]] H0 (.bool r) H0 := by
  refine can_of tabOK mix Try.call60 Try.func60 rfl (by kernel_rfl) (by show _ ≤ 43; simp) fun _ => ?_
  rw [f60] at h
  refine .seq ?_
  refine .region ?_
  refine .boxL (cs := [.int .i64 a0.Limit, .sl 97 .ro (a0.Last.map pv97), .int .i64 (a0.Counts 0), .int .i64 (a0.Counts 1), .int .i64 (a0.Counts 2), .int .i64 (a0.Counts 3), .int .i64 (a0.Counts 4), .int .i64 a0.Frames, .int .i64 (a0.Buckets 0), .int .i64 (a0.Buckets 1), .int .i64 (a0.Buckets 2), .int .i64 (a0.Buckets 3), .int .i64 (a0.Buckets 4), .int .i64 (a0.Buckets 5), .int .i64 (a0.Buckets 6), .int .i64 (a0.Buckets 7), .int .i64 (a0.Buckets 8), .int .i64 (a0.Buckets 9), .int .i64 (a0.Buckets 10), .int .i64 (a0.Buckets 11), .int .i64 (a0.Buckets 12), .int .i64 (a0.Buckets 13), .int .i64 (a0.Buckets 14), .int .i64 (a0.Buckets 15), .int .i64 (a0.Buckets 16), .int .i64 (a0.Buckets 17), .int .i64 (a0.Buckets 18), .int .i64 (a0.Buckets 19), .int .i64 (a0.Buckets 20), .int .i64 (a0.Buckets 21), .int .i64 (a0.Buckets 22), .int .i64 (a0.Buckets 23)]) ?_
  refine .assign ?_
  refine .nil ?_
  refine .seq ?_
  refine .region ?_
  refine .assign ?_
  refine .nil ?_
  refine .seq ?_
  refine .region ?_
  refine .val ?_
  refine .val ?_
  refine .val ?_
  refine .move ?_
  refine .caseG (fun hc11 => ?_) (fun hc11 => ?_)
  · replace h := (if_pos hc11).symm.trans h
    refine .val ?_
    refine .val ?_
    refine .val ?_
    refine .brT ?_
    refine .move ?_
    refine .caseG (fun hc12 => ?_) (fun hc12 => ?_)
    · replace h := (if_pos hc12).symm.trans h
      refine .val ?_
      refine .val ?_
      refine .lenL (f := pv97) ?_
      refine .val ?_
      refine .val ?_
      refine .val ?_
      refine .brT ?_
      refine .move ?_
      refine .caseG (fun hc13 => ?_) (fun hc13 => ?_)
      · replace h := (if_pos hc13).symm.trans h
        refine .val ?_
        refine .val ?_
        refine .move ?_
        obtain ⟨y14, hy14, h⟩ := bindE h
        refine .cP (g98 (q1 := []) (hp := []) (fun _ _ hz => g96 hz) rfl rfl hy14) ?_
        refine .val ?_
        refine .brT ?_
        refine .move ?_
        refine .caseG (fun hc15 => ?_) (fun hc15 => ?_)
        · replace h := (if_pos hc15).symm.trans h
          refine .val ?_
          refine .val ?_
          refine .litR (f := (PV.int .i64)) ([a0.Frames] : List Int) ?_
          obtain ⟨y16, hy16, h⟩ := bindE h
          refine .cP (g99 hy16) ?_
          refine .brT ?_
          refine .move ?_
          refine .caseG (fun hc17 => ?_) (fun hc17 => ?_)
          · replace h := (if_pos hc17).symm.trans h
            refine .val ?_
            refine .imp (T := St.of [(0, .agg [.int .i64 a0.Limit, .sl 97 .ro (a0.Last.map pv97), .int .i64 (a0.Counts 0), .int .i64 (a0.Counts 1), .int .i64 (a0.Counts 2), .int .i64 (a0.Counts 3), .int .i64 (a0.Counts 4), .int .i64 a0.Frames, .int .i64 (a0.Buckets 0), .int .i64 (a0.Buckets 1), .int .i64 (a0.Buckets 2), .int .i64 (a0.Buckets 3), .int .i64 (a0.Buckets 4), .int .i64 (a0.Buckets 5), .int .i64 (a0.Buckets 6), .int .i64 (a0.Buckets 7), .int .i64 (a0.Buckets 8), .int .i64 (a0.Buckets 9), .int .i64 (a0.Buckets 10), .int .i64 (a0.Buckets 11), .int .i64 (a0.Buckets 12), .int .i64 (a0.Buckets 13), .int .i64 (a0.Buckets 14), .int .i64 (a0.Buckets 15), .int .i64 (a0.Buckets 16), .int .i64 (a0.Buckets 17), .int .i64 (a0.Buckets 18), .int .i64 (a0.Buckets 19), .int .i64 (a0.Buckets 20), .int .i64 (a0.Buckets 21), .int .i64 (a0.Buckets 22), .int .i64 (a0.Buckets 23)]), (1, .rp [.int .i64 a0.Limit, .sl 97 .ro (a0.Last.map pv97), .int .i64 (a0.Counts 0), .int .i64 (a0.Counts 1), .int .i64 (a0.Counts 2), .int .i64 (a0.Counts 3), .int .i64 (a0.Counts 4), .int .i64 a0.Frames, .int .i64 (a0.Buckets 0), .int .i64 (a0.Buckets 1), .int .i64 (a0.Buckets 2), .int .i64 (a0.Buckets 3), .int .i64 (a0.Buckets 4), .int .i64 (a0.Buckets 5), .int .i64 (a0.Buckets 6), .int .i64 (a0.Buckets 7), .int .i64 (a0.Buckets 8), .int .i64 (a0.Buckets 9), .int .i64 (a0.Buckets 10), .int .i64 (a0.Buckets 11), .int .i64 (a0.Buckets 12), .int .i64 (a0.Buckets 13), .int .i64 (a0.Buckets 14), .int .i64 (a0.Buckets 15), .int .i64 (a0.Buckets 16), .int .i64 (a0.Buckets 17), .int .i64 (a0.Buckets 18), .int .i64 (a0.Buckets 19), .int .i64 (a0.Buckets 20), .int .i64 (a0.Buckets 21), .int .i64 (a0.Buckets 22), .int .i64 (a0.Buckets 23)] 0), (2, .bool false), (3, .fn 96 []), (4, .rp [.int .i64 a0.Limit, .sl 97 .ro (a0.Last.map pv97), .int .i64 (a0.Counts 0), .int .i64 (a0.Counts 1), .int .i64 (a0.Counts 2), .int .i64 (a0.Counts 3), .int .i64 (a0.Counts 4), .int .i64 a0.Frames, .int .i64 (a0.Buckets 0), .int .i64 (a0.Buckets 1), .int .i64 (a0.Buckets 2), .int .i64 (a0.Buckets 3), .int .i64 (a0.Buckets 4), .int .i64 (a0.Buckets 5), .int .i64 (a0.Buckets 6), .int .i64 (a0.Buckets 7), .int .i64 (a0.Buckets 8), .int .i64 (a0.Buckets 9), .int .i64 (a0.Buckets 10), .int .i64 (a0.Buckets 11), .int .i64 (a0.Buckets 12), .int .i64 (a0.Buckets 13), .int .i64 (a0.Buckets 14), .int .i64 (a0.Buckets 15), .int .i64 (a0.Buckets 16), .int .i64 (a0.Buckets 17), .int .i64 (a0.Buckets 18), .int .i64 (a0.Buckets 19), .int .i64 (a0.Buckets 20), .int .i64 (a0.Buckets 21), .int .i64 (a0.Buckets 22), .int .i64 (a0.Buckets 23)] 0), (5, .int .i64 a0.Limit), (6, .bool (decide (a0.Limit ≥ (1 : Int)))), (7, .bool true), (8, .rp [.int .i64 a0.Limit, .sl 97 .ro (a0.Last.map pv97), .int .i64 (a0.Counts 0), .int .i64 (a0.Counts 1), .int .i64 (a0.Counts 2), .int .i64 (a0.Counts 3), .int .i64 (a0.Counts 4), .int .i64 a0.Frames, .int .i64 (a0.Buckets 0), .int .i64 (a0.Buckets 1), .int .i64 (a0.Buckets 2), .int .i64 (a0.Buckets 3), .int .i64 (a0.Buckets 4), .int .i64 (a0.Buckets 5), .int .i64 (a0.Buckets 6), .int .i64 (a0.Buckets 7), .int .i64 (a0.Buckets 8), .int .i64 (a0.Buckets 9), .int .i64 (a0.Buckets 10), .int .i64 (a0.Buckets 11), .int .i64 (a0.Buckets 12), .int .i64 (a0.Buckets 13), .int .i64 (a0.Buckets 14), .int .i64 (a0.Buckets 15), .int .i64 (a0.Buckets 16), .int .i64 (a0.Buckets 17), .int .i64 (a0.Buckets 18), .int .i64 (a0.Buckets 19), .int .i64 (a0.Buckets 20), .int .i64 (a0.Buckets 21), .int .i64 (a0.Buckets 22), .int .i64 (a0.Buckets 23)] 0), (9, .int .i64 a0.Limit), (10, .bool (decide (a0.Limit ≤ (256 : Int)))), (11, .bool (decide (a0.Limit ≤ (256 : Int)))), (12, .bool true), (13, .rp [.int .i64 a0.Limit, .sl 97 .ro (a0.Last.map pv97), .int .i64 (a0.Counts 0), .int .i64 (a0.Counts 1), .int .i64 (a0.Counts 2), .int .i64 (a0.Counts 3), .int .i64 (a0.Counts 4), .int .i64 a0.Frames, .int .i64 (a0.Buckets 0), .int .i64 (a0.Buckets 1), .int .i64 (a0.Buckets 2), .int .i64 (a0.Buckets 3), .int .i64 (a0.Buckets 4), .int .i64 (a0.Buckets 5), .int .i64 (a0.Buckets 6), .int .i64 (a0.Buckets 7), .int .i64 (a0.Buckets 8), .int .i64 (a0.Buckets 9), .int .i64 (a0.Buckets 10), .int .i64 (a0.Buckets 11), .int .i64 (a0.Buckets 12), .int .i64 (a0.Buckets 13), .int .i64 (a0.Buckets 14), .int .i64 (a0.Buckets 15), .int .i64 (a0.Buckets 16), .int .i64 (a0.Buckets 17), .int .i64 (a0.Buckets 18), .int .i64 (a0.Buckets 19), .int .i64 (a0.Buckets 20), .int .i64 (a0.Buckets 21), .int .i64 (a0.Buckets 22), .int .i64 (a0.Buckets 23)] 1), (14, .sl 97 .ro (a0.Last.map pv97)), (15, .int .i64 (a0.Last.length : Int)), (16, .rp [.int .i64 a0.Limit, .sl 97 .ro (a0.Last.map pv97), .int .i64 (a0.Counts 0), .int .i64 (a0.Counts 1), .int .i64 (a0.Counts 2), .int .i64 (a0.Counts 3), .int .i64 (a0.Counts 4), .int .i64 a0.Frames, .int .i64 (a0.Buckets 0), .int .i64 (a0.Buckets 1), .int .i64 (a0.Buckets 2), .int .i64 (a0.Buckets 3), .int .i64 (a0.Buckets 4), .int .i64 (a0.Buckets 5), .int .i64 (a0.Buckets 6), .int .i64 (a0.Buckets 7), .int .i64 (a0.Buckets 8), .int .i64 (a0.Buckets 9), .int .i64 (a0.Buckets 10), .int .i64 (a0.Buckets 11), .int .i64 (a0.Buckets 12), .int .i64 (a0.Buckets 13), .int .i64 (a0.Buckets 14), .int .i64 (a0.Buckets 15), .int .i64 (a0.Buckets 16), .int .i64 (a0.Buckets 17), .int .i64 (a0.Buckets 18), .int .i64 (a0.Buckets 19), .int .i64 (a0.Buckets 20), .int .i64 (a0.Buckets 21), .int .i64 (a0.Buckets 22), .int .i64 (a0.Buckets 23)] 0), (17, .int .i64 a0.Limit), (18, .bool (decide ((a0.Last.length : Int) ≤ a0.Limit))), (19, .bool (decide ((a0.Last.length : Int) ≤ a0.Limit))), (20, .bool true), (21, .rp [.int .i64 a0.Limit, .sl 97 .ro (a0.Last.map pv97), .int .i64 (a0.Counts 0), .int .i64 (a0.Counts 1), .int .i64 (a0.Counts 2), .int .i64 (a0.Counts 3), .int .i64 (a0.Counts 4), .int .i64 a0.Frames, .int .i64 (a0.Buckets 0), .int .i64 (a0.Buckets 1), .int .i64 (a0.Buckets 2), .int .i64 (a0.Buckets 3), .int .i64 (a0.Buckets 4), .int .i64 (a0.Buckets 5), .int .i64 (a0.Buckets 6), .int .i64 (a0.Buckets 7), .int .i64 (a0.Buckets 8), .int .i64 (a0.Buckets 9), .int .i64 (a0.Buckets 10), .int .i64 (a0.Buckets 11), .int .i64 (a0.Buckets 12), .int .i64 (a0.Buckets 13), .int .i64 (a0.Buckets 14), .int .i64 (a0.Buckets 15), .int .i64 (a0.Buckets 16), .int .i64 (a0.Buckets 17), .int .i64 (a0.Buckets 18), .int .i64 (a0.Buckets 19), .int .i64 (a0.Buckets 20), .int .i64 (a0.Buckets 21), .int .i64 (a0.Buckets 22), .int .i64 (a0.Buckets 23)] 1), (22, .sl 97 .ro (a0.Last.map pv97)), (23, .fn 96 []), (24, .bool y14), (25, .bool (!y14)), (26, .bool (!y14)), (27, .bool true), (28, .rp [.int .i64 a0.Limit, .sl 97 .ro (a0.Last.map pv97), .int .i64 (a0.Counts 0), .int .i64 (a0.Counts 1), .int .i64 (a0.Counts 2), .int .i64 (a0.Counts 3), .int .i64 (a0.Counts 4), .int .i64 a0.Frames, .int .i64 (a0.Buckets 0), .int .i64 (a0.Buckets 1), .int .i64 (a0.Buckets 2), .int .i64 (a0.Buckets 3), .int .i64 (a0.Buckets 4), .int .i64 (a0.Buckets 5), .int .i64 (a0.Buckets 6), .int .i64 (a0.Buckets 7), .int .i64 (a0.Buckets 8), .int .i64 (a0.Buckets 9), .int .i64 (a0.Buckets 10), .int .i64 (a0.Buckets 11), .int .i64 (a0.Buckets 12), .int .i64 (a0.Buckets 13), .int .i64 (a0.Buckets 14), .int .i64 (a0.Buckets 15), .int .i64 (a0.Buckets 16), .int .i64 (a0.Buckets 17), .int .i64 (a0.Buckets 18), .int .i64 (a0.Buckets 19), .int .i64 (a0.Buckets 20), .int .i64 (a0.Buckets 21), .int .i64 (a0.Buckets 22), .int .i64 (a0.Buckets 23)] 7), (29, .int .i64 a0.Frames), (30, .sl 3 .ro (([a0.Frames] : List Int).map (PV.int .i64))), (31, .bool y16), (32, .bool y16), (33, .bool true), (34, .rp [.int .i64 a0.Limit, .sl 97 .ro (a0.Last.map pv97), .int .i64 (a0.Counts 0), .int .i64 (a0.Counts 1), .int .i64 (a0.Counts 2), .int .i64 (a0.Counts 3), .int .i64 (a0.Counts 4), .int .i64 a0.Frames, .int .i64 (a0.Buckets 0), .int .i64 (a0.Buckets 1), .int .i64 (a0.Buckets 2), .int .i64 (a0.Buckets 3), .int .i64 (a0.Buckets 4), .int .i64 (a0.Buckets 5), .int .i64 (a0.Buckets 6), .int .i64 (a0.Buckets 7), .int .i64 (a0.Buckets 8), .int .i64 (a0.Buckets 9), .int .i64 (a0.Buckets 10), .int .i64 (a0.Buckets 11), .int .i64 (a0.Buckets 12), .int .i64 (a0.Buckets 13), .int .i64 (a0.Buckets 14), .int .i64 (a0.Buckets 15), .int .i64 (a0.Buckets 16), .int .i64 (a0.Buckets 17), .int .i64 (a0.Buckets 18), .int .i64 (a0.Buckets 19), .int .i64 (a0.Buckets 20), .int .i64 (a0.Buckets 21), .int .i64 (a0.Buckets 22), .int .i64 (a0.Buckets 23)] 2)] []) (Imp.still (.loc 0 0) rfl (.cons rfl rfl (.ptr rfl (.cons rfl rfl (.cons rfl rfl (.ptr rfl (.cons rfl rfl (.cons rfl rfl (.cons rfl rfl (.ptr rfl (.cons rfl rfl (.cons rfl rfl (.cons rfl rfl (.cons rfl rfl (.ptr rfl (.cons rfl rfl (.cons rfl rfl (.ptr rfl (.cons rfl rfl (.cons rfl rfl (.cons rfl rfl (.cons rfl rfl (.ptr rfl (.cons rfl rfl (.cons rfl rfl (.cons rfl rfl (.cons rfl rfl (.cons rfl rfl (.cons rfl rfl (.ptr rfl (.cons rfl rfl (.cons rfl rfl (.cons rfl rfl (.cons rfl rfl (.cons rfl rfl (.ptr rfl (.nil)))))))))))))))))))))))))))))))))))) (.nil) rfl rfl) ?_
            refine .slA (A := a0.Counts) ?_
            obtain ⟨y18, hy18, h⟩ := bindE h
            refine .cP (g99 hy18) ?_
            refine .brT ?_
            refine .move ?_
            refine .caseG (fun hc19 => ?_) (fun hc19 => ?_)
            · replace h := (if_pos hc19).symm.trans h
              refine .val ?_
              refine .slA (A := a0.Buckets) ?_
              obtain ⟨y20, hy20, h⟩ := bindE h
              refine .cP (g99 hy20) ?_
              refine .brT ?_
              refine .assign ?_
              refine .nil ?_
              cases h
              exact .ret (fin_gen0 none)
            · replace h := (if_neg (nt hc19)).symm.trans h
              refine .skip ?_
              refine .skip ?_
              refine .skip ?_
              refine .brF ?_
              refine .assign ?_
              refine .nil ?_
              cases h
              exact .ret (fin_gen0 none)
          · replace h := (if_neg (nt hc17)).symm.trans h
            refine .skip ?_
            refine .skip ?_
            refine .skip ?_
            refine .brF ?_
            refine .move ?_
            refine .skip ?_
            refine .skip ?_
            refine .skip ?_
            refine .brF ?_
            refine .assign ?_
            refine .nil ?_
            cases h
            exact .ret (fin_gen0 none)
        · replace h := (if_neg (nt hc15)).symm.trans h
          refine .skip ?_
          refine .skip ?_
          refine .skip ?_
          refine .skip ?_
          refine .brF ?_
          refine .move ?_
          refine .skip ?_
          refine .skip ?_
          refine .skip ?_
          refine .brF ?_
          refine .move ?_
          refine .skip ?_
          refine .skip ?_
          refine .skip ?_
          refine .brF ?_
          refine .assign ?_
          refine .nil ?_
          cases h
          exact .ret (fin_gen0 none)
      · replace h := (if_neg (nt hc13)).symm.trans h
        refine .skip ?_
        refine .skip ?_
        refine .skip ?_
        refine .skip ?_
        refine .skip ?_
        refine .brF ?_
        refine .move ?_
        refine .skip ?_
        refine .skip ?_
        refine .skip ?_
        refine .skip ?_
        refine .brF ?_
        refine .move ?_
        refine .skip ?_
        refine .skip ?_
        refine .skip ?_
        refine .brF ?_
        refine .move ?_
        refine .skip ?_
        refine .skip ?_
        refine .skip ?_
        refine .brF ?_
        refine .assign ?_
        refine .nil ?_
        cases h
        exact .ret (fin_gen0 none)
    · replace h := (if_neg (nt hc12)).symm.trans h
      refine .skip ?_
      refine .skip ?_
      refine .skip ?_
      refine .skip ?_
      refine .skip ?_
      refine .skip ?_
      refine .brF ?_
      refine .move ?_
      refine .skip ?_
      refine .skip ?_
      refine .skip ?_
      refine .skip ?_
      refine .skip ?_
      refine .brF ?_
      refine .move ?_
      refine .skip ?_
      refine .skip ?_
      refine .skip ?_
      refine .skip ?_
      refine .brF ?_
      refine .move ?_
      refine .skip ?_
      refine .skip ?_
      refine .skip ?_
      refine .brF ?_
      refine .move ?_
      refine .skip ?_
      refine .skip ?_
      refine .skip ?_
      refine .brF ?_
      refine .assign ?_
      refine .nil ?_
      cases h
      exact .ret (fin_gen0 none)
  · replace h := (if_neg (nt hc11)).symm.trans h
    refine .skip ?_
    refine .skip ?_
    refine .skip ?_
    refine .brF ?_
    refine .move ?_
    refine .skip ?_
    refine .skip ?_
    refine .skip ?_
    refine .skip ?_
    refine .skip ?_
    refine .skip ?_
    refine .brF ?_
    refine .move ?_
    refine .skip ?_
    refine .skip ?_
    refine .skip ?_
    refine .skip ?_
    refine .skip ?_
    refine .brF ?_
    refine .move ?_
    refine .skip ?_
    refine .skip ?_
    refine .skip ?_
    refine .skip ?_
    refine .brF ?_
    refine .move ?_
    refine .skip ?_
    refine .skip ?_
    refine .skip ?_
    refine .brF ?_
    refine .move ?_
    refine .skip ?_
    refine .skip ?_
    refine .skip ?_
    refine .brF ?_
    refine .assign ?_
    refine .nil ?_
    cases h
    exact .ret (fin_gen0 none)

/- math/bits.Len64 -/
def f108 (_n : Nat) (a0 : Int) : Option Int :=
  joinK (fun (v2 : Int) (v3 : Int) =>
  joinK (fun (v7 : Int) (v8 : Int) =>
  joinK (fun (v12 : Int) (v13 : Int) =>
  (sAt (⟨#[0, 1, 2, 2, 3, 3, 3, 3, 4, 4, 4, 4, 4, 4, 4, 4, 5, 5, 5, 5, 5, 5, 5, 5, 5, 5, 5, 5, 5, 5, 5, 5, 6, 6, 6, 6, 6, 6, 6, 6, 6, 6, 6, 6, 6, 6, 6, 6, 6, 6, 6, 6, 6, 6, 6, 6, 6, 6, 6, 6, 6, 6, 6, 6, 7, 7, 7, 7, 7, 7, 7, 7, 7, 7, 7, 7, 7, 7, 7, 7, 7, 7, 7, 7, 7, 7, 7, 7, 7, 7, 7, 7, 7, 7, 7, 7, 7, 7, 7, 7, 7, 7, 7, 7, 7, 7, 7, 7, 7, 7, 7, 7, 7, 7, 7, 7, 7, 7, 7, 7, 7, 7, 7, 7, 7, 7, 7, 7, 8, 8, 8, 8, 8, 8, 8, 8, 8, 8, 8, 8, 8, 8, 8, 8, 8, 8, 8, 8, 8, 8, 8, 8, 8, 8, 8, 8, 8, 8, 8, 8, 8, 8, 8, 8, 8, 8, 8, 8, 8, 8, 8, 8, 8, 8, 8, 8, 8, 8, 8, 8, 8, 8, 8, 8, 8, 8, 8, 8, 8, 8, 8, 8, 8, 8, 8, 8, 8, 8, 8, 8, 8, 8, 8, 8, 8, 8, 8, 8, 8, 8, 8, 8, 8, 8, 8, 8, 8, 8, 8, 8, 8, 8, 8, 8, 8, 8, 8, 8, 8, 8, 8, 8, 8, 8, 8, 8, 8, 8, 8, 8, 8, 8, 8, 8, 8, 8, 8, 8, 8, 8, 8, 8, 8, 8, 8, 8]⟩ : ByteArray) (IntKind.wrap .u8 (v12))).bind fun x16 =>
  some (w64 (v13 + (w64 (x16))))) fun j14 =>
  if decide (v7 ≥ (256 : Int)) then (
  j14 (iShrT .u64 v7 (8 : Int)) (w64 (v8 + (8 : Int))))
  else (
  j14 v7 v8)) fun j9 =>
  if decide (v2 ≥ (65536 : Int)) then (
  j9 (iShrT .u64 v2 (16 : Int)) (w64 (v3 + (16 : Int))))
  else (
  j9 v2 v3)) fun j4 =>
  if decide (a0 ≥ (4294967296 : Int)) then (
  j4 (iShrT .u64 a0 (32 : Int)) 32)
  else (
  j4 a0 0)
set_option maxHeartbeats 4000000 in
set_option maxRecDepth 100000 in
theorem g108 {n : Nat} {a0 : Int} {r : Int} (h : f108 n a0 = some r) :
    Ab.Can Try.prog 108 [.int .u64 a0] H0 (.int .i64 r) H0 := by
  refine can_of tabOK mix Try.call108 Try.func108 rfl (by kernel_rfl) (by show _ ≤ 25; simp) fun _ => ?_
  rw [f108] at h
  refine .seq ?_
  refine .region ?_
  refine .assign ?_
  refine .nil ?_
  obtain ⟨j4, hj4, h⟩ := joinE h
  refine .cutI (fun T => (∃ (v2 : Int) (v3 : Int), T = St.of [(0, .int .u64 v2), (2, .int .i64 v3)] [] ∧ j4 v2 v3 = some r)) ?_ ?_
  · refine .seq ?_
    refine .region ?_
    refine .move ?_
    refine .val ?_
    refine .nil ?_
    refine .cond (fun hc5 => ?_) (fun hc5 => ?_)
    · replace h := (if_pos hc5).symm.trans h
      refine .seq ?_
      refine .region ?_
      refine .move ?_
      refine .val ?_ (hc := by decide)
      refine .assign ?_
      refine .nil ?_
      refine .region ?_
      refine .assign ?_
      refine .nil ?_
      exact ⟨_, ⟨_, _, rfl, h⟩, (imp_of (.cons rfl (.cons rfl (.nil))) (.nil))⟩
    · replace h := (if_neg (nt hc5)).symm.trans h
      refine .skip ?_
      exact ⟨_, ⟨_, _, rfl, h⟩, (imp_of (.cons rfl (.cons rfl (.nil))) (.nil))⟩
  · rintro T ⟨v2, v3, rfl, h⟩
    subst hj4
    obtain ⟨j9, hj9, h⟩ := joinE h
    refine .cutI (fun T => (∃ (v7 : Int) (v8 : Int), T = St.of [(0, .int .u64 v7), (2, .int .i64 v8)] [] ∧ j9 v7 v8 = some r)) ?_ ?_
    · refine .seq ?_
      refine .region ?_
      refine .move ?_
      refine .val ?_
      refine .nil ?_
      refine .cond (fun hc10 => ?_) (fun hc10 => ?_)
      · replace h := (if_pos hc10).symm.trans h
        refine .seq ?_
        refine .region ?_
        refine .move ?_
        refine .val ?_ (hc := by decide)
        refine .assign ?_
        refine .nil ?_
        refine .region ?_
        refine .move ?_
        refine .val ?_
        refine .assign ?_
        refine .nil ?_
        exact ⟨_, ⟨_, _, rfl, h⟩, (imp_of (.cons rfl (.cons rfl (.nil))) (.nil))⟩
      · replace h := (if_neg (nt hc10)).symm.trans h
        refine .skip ?_
        exact ⟨_, ⟨_, _, rfl, h⟩, (imp_of (.cons rfl (.cons rfl (.nil))) (.nil))⟩
    · rintro T ⟨v7, v8, rfl, h⟩
      subst hj9
      obtain ⟨j14, hj14, h⟩ := joinE h
      refine .cutI (fun T => (∃ (v12 : Int) (v13 : Int), T = St.of [(0, .int .u64 v12), (2, .int .i64 v13)] [] ∧ j14 v12 v13 = some r)) ?_ ?_
      · refine .seq ?_
        refine .region ?_
        refine .move ?_
        refine .val ?_
        refine .nil ?_
        refine .cond (fun hc15 => ?_) (fun hc15 => ?_)
        · replace h := (if_pos hc15).symm.trans h
          refine .seq ?_
          refine .region ?_
          refine .move ?_
          refine .val ?_ (hc := by decide)
          refine .assign ?_
          refine .nil ?_
          refine .region ?_
          refine .move ?_
          refine .val ?_
          refine .assign ?_
          refine .nil ?_
          exact ⟨_, ⟨_, _, rfl, h⟩, (imp_of (.cons rfl (.cons rfl (.nil))) (.nil))⟩
        · replace h := (if_neg (nt hc15)).symm.trans h
          refine .skip ?_
          exact ⟨_, ⟨_, _, rfl, h⟩, (imp_of (.cons rfl (.cons rfl (.nil))) (.nil))⟩
      · rintro T ⟨v12, v13, rfl, h⟩
        subst hj14
        refine .seq ?_
        refine .region ?_
        refine .move ?_
        refine .move ?_
        refine .val ?_
        obtain ⟨x16, hx16, h⟩ := bindE h
        refine .atS hx16 ?_
        refine .val ?_
        refine .val ?_
        refine .assign ?_
        refine .nil ?_
        cases h
        exact .ret (fin_gen0 none)

/- math/bits.Len -/
def f76 (n : Nat) (a0 : Int) : Option Int :=
  (f108 n a0).bind fun y1 =>
  some y1
set_option maxHeartbeats 4000000 in
set_option maxRecDepth 100000 in
theorem g76 {n : Nat} {a0 : Int} {r : Int} (h : f76 n a0 = some r) :
    Ab.Can Try.prog 76 [.int .u64 a0] H0 (.int .i64 r) H0 := by
  refine can_of tabOK mix Try.call76 Try.func76 rfl (by kernel_rfl) (by show _ ≤ 8; simp) fun _ => ?_
  rw [f76] at h
  refine .seq ?_
  refine .region ?_
  refine .assign ?_
  refine .nil ?_
  refine .seq ?_
  refine .condF ?_
  refine .skip ?_
  refine .seq ?_
  refine .region ?_
  refine .move ?_
  obtain ⟨y1, hy1, h⟩ := bindE h
  refine .cP (g108 hy1) ?_
  refine .assign ?_
  refine .nil ?_
  cases h
  exact .ret (fin_gen0 none)

/- soundservice/recorder.grow -/
def f77 (_n : Nat) (a0 : Int) (a1 : Int) : Option Int :=
  some (iMin (w64 (a0 + a1)) (1099511627776 : Int))
set_option maxHeartbeats 4000000 in
set_option maxRecDepth 100000 in
theorem g77 {n : Nat} {a0 : Int} {a1 : Int} {r : Int} (h : f77 n a0 a1 = some r) :
    Ab.Can Try.prog 77 [.int .i64 a0, .int .i64 a1] H0 (.int .i64 r) H0 := by
  refine can_of tabOK mix Try.call77 Try.func77 rfl (by kernel_rfl) (by show _ ≤ 9; simp) fun _ => ?_
  rw [f77] at h
  refine .seq ?_
  refine .region ?_
  refine .assign ?_
  refine .nil ?_
  refine .seq ?_
  refine .region ?_
  refine .move ?_
  refine .move ?_
  refine .val ?_
  refine .minL ?_
  refine .assign ?_
  refine .nil ?_
  cases h
  exact .ret (fin_gen0 none)

/- slices.Clone[[]soundservice/api.Glitch,soundservice/api.Glitch] -/
def f78 (_n : Nat) (a0 : (List Glitch)) : Option (List Glitch) :=
  (lApp ([] : List Glitch) a0).bind fun x6 =>
  some x6
set_option maxHeartbeats 4000000 in
set_option maxRecDepth 100000 in
theorem g78 {n : Nat} {a0 : (List Glitch)} {r : (List Glitch)} (h : f78 n a0 = some r) :
    Ab.Can Try.prog 78 [.sl 97 .ro (a0.map pv97)] H0 (.sl 97 (.own (.rrow 0)) (r.map pv97)) H0 := by
  refine can_of tabOK mix Try.call78 Try.func78 rfl (by kernel_rfl) (by show _ ≤ 8; simp) fun _ => ?_
  rw [f78] at h
  refine .seq ?_
  refine .region ?_
  refine .assign ?_
  refine .nil ?_
  refine .seq ?_
  refine .seq ?_
  refine .region ?_
  refine .move ?_
  refine .nd rfl rfl fun b3 hb4 => ?_
  rcases bool_em b3 with hc | hc
  · have h0 := hb4 hc
    rw [List.map_eq_nil_iff] at h0
    subst h0
    subst hc
    replace h : some ([] : List Glitch) = some r := Eq.trans (by simp [lApp]) h
    refine .nil ?_
    refine .condT ?_
    refine .seq ?_
    refine .region ?_
    refine .assign ?_
    refine .nil ?_
    cases h
    refine .imp (Imp.slot 2 (v := .sl 97 (.own (.row 0 0)) (([] : List Glitch).map pv97)) (.own _ (.row 0 0)) rfl) ?_
    exact .ret (fin_gen0 (some (.row 0 0)))
  · subst hc
    refine .nil ?_
    refine .condF ?_
    refine .skip ?_
    refine .seq ?_
    refine .region ?_
    refine .litE (.row 8005 0) ?_
    refine .move ?_
    obtain ⟨x6, hx6, h⟩ := bindE h
    refine .appL (f := pv97) hx6 ?_
    refine .assign ?_
    refine .nil ?_
    cases h
    exact .ret (fin_gen0 (some (.row 3 2)))
theorem g78r {n : Nat} {a0 : (List Glitch)} {r : (List Glitch)} (h : f78 n a0 = some r) :
    Ab.Can Try.prog 78 [.sl 97 .ro (a0.map pv97)] H0 (.sl 97 .ro (r.map pv97)) H0 := Can.frzR (hq := []) (g78 h)

/- soundservice/recorder.Measure -/
def f38 (n : Nat) (a0 : Recorder) (a1 : Int) : Option (Recorder × Int) :=
  (f60 n (⟨a0.Limit, a0.Last, a0.Counts, a0.Frames, a0.Buckets⟩ : Recorder)).bind fun y4 =>
  if !y4 then (
  some ((⟨0, ([] : List Glitch), aZ, 0, aZ⟩ : Recorder), 1))
  else (
  if decide (a1 < (0 : Int)) then (
  some ((⟨0, ([] : List Glitch), aZ, 0, aZ⟩ : Recorder), 2))
  else (
  (f76 n (IntKind.wrap .u64 (a1))).bind fun y7 =>
  (aIdx 24 (iMin y7 (23 : Int))).bind fun x8 =>
  (f77 n (a0.Buckets x8) (1 : Int)).bind fun y9 =>
  (aIdx 24 (iMin y7 (23 : Int))).bind fun x10 =>
  (f78 n a0.Last).bind fun y11 =>
  some ((⟨a0.Limit, y11, a0.Counts, a0.Frames, (aUp a0.Buckets x10 y9)⟩ : Recorder), 0)))
set_option maxHeartbeats 4000000 in
set_option maxRecDepth 100000 in
theorem g38 {n : Nat} {a0 : Recorder} {a1 : Int} {r : (Recorder × Int)} (h : f38 n a0 a1 = some r) :
    Ab.Can Try.prog 38 [.agg [.int .i64 a0.Limit, .sl 97 .ro (a0.Last.map pv97), .int .i64 (a0.Counts 0), .int .i64 (a0.Counts 1), .int .i64 (a0.Counts 2), .int .i64 (a0.Counts 3), .int .i64 (a0.Counts 4), .int .i64 a0.Frames, .int .i64 (a0.Buckets 0), .int .i64 (a0.Buckets 1), .int .i64 (a0.Buckets 2), .int .i64 (a0.Buckets 3), .int .i64 (a0.Buckets 4), .int .i64 (a0.Buckets 5), .int .i64 (a0.Buckets 6), .int .i64 (a0.Buckets 7), .int .i64 (a0.Buckets 8), .int .i64 (a0.Buckets 9), .int .i64 (a0.Buckets 10), .int .i64 (a0.Buckets 11), .int .i64 (a0.Buckets 12), .int .i64 (a0.Buckets 13), .int .i64 (a0.Buckets 14), .int .i64 (a0.Buckets 15), .int .i64 (a0.Buckets 16), .int .i64 (a0.Buckets 17), .int .i64 (a0.Buckets 18), .int .i64 (a0.Buckets 19), .int .i64 (a0.Buckets 20), .int .i64 (a0.Buckets 21), .int .i64 (a0.Buckets 22), .int .i64 (a0.Buckets 23)], .int .i64 a1] H0 (.tup [.agg [.int .i64 r.1.Limit, .sl 97 .ro (r.1.Last.map pv97), .int .i64 (r.1.Counts 0), .int .i64 (r.1.Counts 1), .int .i64 (r.1.Counts 2), .int .i64 (r.1.Counts 3), .int .i64 (r.1.Counts 4), .int .i64 r.1.Frames, .int .i64 (r.1.Buckets 0), .int .i64 (r.1.Buckets 1), .int .i64 (r.1.Buckets 2), .int .i64 (r.1.Buckets 3), .int .i64 (r.1.Buckets 4), .int .i64 (r.1.Buckets 5), .int .i64 (r.1.Buckets 6), .int .i64 (r.1.Buckets 7), .int .i64 (r.1.Buckets 8), .int .i64 (r.1.Buckets 9), .int .i64 (r.1.Buckets 10), .int .i64 (r.1.Buckets 11), .int .i64 (r.1.Buckets 12), .int .i64 (r.1.Buckets 13), .int .i64 (r.1.Buckets 14), .int .i64 (r.1.Buckets 15), .int .i64 (r.1.Buckets 16), .int .i64 (r.1.Buckets 17), .int .i64 (r.1.Buckets 18), .int .i64 (r.1.Buckets 19), .int .i64 (r.1.Buckets 20), .int .i64 (r.1.Buckets 21), .int .i64 (r.1.Buckets 22), .int .i64 (r.1.Buckets 23)], .int .i64 r.2]) H0 := by
  refine can_of tabOK mix Try.call38 Try.func38 rfl (by kernel_rfl) (by show _ ≤ 33; simp) fun _ => ?_
  rw [f38] at h
  refine .seq ?_
  refine .region ?_
  refine .boxL (cs := [.int .i64 a0.Limit, .sl 97 .ro (a0.Last.map pv97), .int .i64 (a0.Counts 0), .int .i64 (a0.Counts 1), .int .i64 (a0.Counts 2), .int .i64 (a0.Counts 3), .int .i64 (a0.Counts 4), .int .i64 a0.Frames, .int .i64 (a0.Buckets 0), .int .i64 (a0.Buckets 1), .int .i64 (a0.Buckets 2), .int .i64 (a0.Buckets 3), .int .i64 (a0.Buckets 4), .int .i64 (a0.Buckets 5), .int .i64 (a0.Buckets 6), .int .i64 (a0.Buckets 7), .int .i64 (a0.Buckets 8), .int .i64 (a0.Buckets 9), .int .i64 (a0.Buckets 10), .int .i64 (a0.Buckets 11), .int .i64 (a0.Buckets 12), .int .i64 (a0.Buckets 13), .int .i64 (a0.Buckets 14), .int .i64 (a0.Buckets 15), .int .i64 (a0.Buckets 16), .int .i64 (a0.Buckets 17), .int .i64 (a0.Buckets 18), .int .i64 (a0.Buckets 19), .int .i64 (a0.Buckets 20), .int .i64 (a0.Buckets 21), .int .i64 (a0.Buckets 22), .int .i64 (a0.Buckets 23)]) ?_
  refine .allocL (cs := [.int .i64 0, .sl 97 .full [], .int .i64 (aZ 0), .int .i64 (aZ 1), .int .i64 (aZ 2), .int .i64 (aZ 3), .int .i64 (aZ 4), .int .i64 0, .int .i64 (aZ 0), .int .i64 (aZ 1), .int .i64 (aZ 2), .int .i64 (aZ 3), .int .i64 (aZ 4), .int .i64 (aZ 5), .int .i64 (aZ 6), .int .i64 (aZ 7), .int .i64 (aZ 8), .int .i64 (aZ 9), .int .i64 (aZ 10), .int .i64 (aZ 11), .int .i64 (aZ 12), .int .i64 (aZ 13), .int .i64 (aZ 14), .int .i64 (aZ 15), .int .i64 (aZ 16), .int .i64 (aZ 17), .int .i64 (aZ 18), .int .i64 (aZ 19), .int .i64 (aZ 20), .int .i64 (aZ 21), .int .i64 (aZ 22), .int .i64 (aZ 23)]) ?_
  refine .assign ?_
  refine .nil ?_
  refine .seq ?_
  refine .block ?_
  refine .seq ?_
  refine .region ?_
  refine .val (v := .agg [.int .i64 a0.Limit, .sl 97 .ro (a0.Last.map pv97), .int .i64 (a0.Counts 0), .int .i64 (a0.Counts 1), .int .i64 (a0.Counts 2), .int .i64 (a0.Counts 3), .int .i64 (a0.Counts 4), .int .i64 a0.Frames, .int .i64 (a0.Buckets 0), .int .i64 (a0.Buckets 1), .int .i64 (a0.Buckets 2), .int .i64 (a0.Buckets 3), .int .i64 (a0.Buckets 4), .int .i64 (a0.Buckets 5), .int .i64 (a0.Buckets 6), .int .i64 (a0.Buckets 7), .int .i64 (a0.Buckets 8), .int .i64 (a0.Buckets 9), .int .i64 (a0.Buckets 10), .int .i64 (a0.Buckets 11), .int .i64 (a0.Buckets 12), .int .i64 (a0.Buckets 13), .int .i64 (a0.Buckets 14), .int .i64 (a0.Buckets 15), .int .i64 (a0.Buckets 16), .int .i64 (a0.Buckets 17), .int .i64 (a0.Buckets 18), .int .i64 (a0.Buckets 19), .int .i64 (a0.Buckets 20), .int .i64 (a0.Buckets 21), .int .i64 (a0.Buckets 22), .int .i64 (a0.Buckets 23)]) ?_
  obtain ⟨y4, hy4, h⟩ := bindE h
  refine .cP (g60 hy4) ?_
  refine .val ?_
  refine .assign ?_
  refine .nil ?_
  refine .cond (fun hc5 => ?_) (fun hc5 => ?_)
  · replace h := (if_pos hc5).symm.trans h
    refine .seq ?_
    refine .region ?_
    refine .buildL (cs := [.int .i64 0, .sl 97 .full [], .int .i64 (aZ 0), .int .i64 (aZ 1), .int .i64 (aZ 2), .int .i64 (aZ 3), .int .i64 (aZ 4), .int .i64 0, .int .i64 (aZ 0), .int .i64 (aZ 1), .int .i64 (aZ 2), .int .i64 (aZ 3), .int .i64 (aZ 4), .int .i64 (aZ 5), .int .i64 (aZ 6), .int .i64 (aZ 7), .int .i64 (aZ 8), .int .i64 (aZ 9), .int .i64 (aZ 10), .int .i64 (aZ 11), .int .i64 (aZ 12), .int .i64 (aZ 13), .int .i64 (aZ 14), .int .i64 (aZ 15), .int .i64 (aZ 16), .int .i64 (aZ 17), .int .i64 (aZ 18), .int .i64 (aZ 19), .int .i64 (aZ 20), .int .i64 (aZ 21), .int .i64 (aZ 22), .int .i64 (aZ 23)]) ?_
    refine .wrL (cs := [.int .i64 0, .sl 97 .full [], .int .i64 (aZ 0), .int .i64 (aZ 1), .int .i64 (aZ 2), .int .i64 (aZ 3), .int .i64 (aZ 4), .int .i64 0, .int .i64 (aZ 0), .int .i64 (aZ 1), .int .i64 (aZ 2), .int .i64 (aZ 3), .int .i64 (aZ 4), .int .i64 (aZ 5), .int .i64 (aZ 6), .int .i64 (aZ 7), .int .i64 (aZ 8), .int .i64 (aZ 9), .int .i64 (aZ 10), .int .i64 (aZ 11), .int .i64 (aZ 12), .int .i64 (aZ 13), .int .i64 (aZ 14), .int .i64 (aZ 15), .int .i64 (aZ 16), .int .i64 (aZ 17), .int .i64 (aZ 18), .int .i64 (aZ 19), .int .i64 (aZ 20), .int .i64 (aZ 21), .int .i64 (aZ 22), .int .i64 (aZ 23)]) ?_
    refine .assign ?_
    refine .nil ?_
    cases h
    refine .imp (Imp.cell (.loc 0 1) (ds := [.int .i64 0, .sl 97 .ro (([] : List Glitch).map pv97), .int .i64 (aZ 0), .int .i64 (aZ 1), .int .i64 (aZ 2), .int .i64 (aZ 3), .int .i64 (aZ 4), .int .i64 0, .int .i64 (aZ 0), .int .i64 (aZ 1), .int .i64 (aZ 2), .int .i64 (aZ 3), .int .i64 (aZ 4), .int .i64 (aZ 5), .int .i64 (aZ 6), .int .i64 (aZ 7), .int .i64 (aZ 8), .int .i64 (aZ 9), .int .i64 (aZ 10), .int .i64 (aZ 11), .int .i64 (aZ 12), .int .i64 (aZ 13), .int .i64 (aZ 14), .int .i64 (aZ 15), .int .i64 (aZ 16), .int .i64 (aZ 17), .int .i64 (aZ 18), .int .i64 (aZ 19), .int .i64 (aZ 20), .int .i64 (aZ 21), .int .i64 (aZ 22), .int .i64 (aZ 23)]) (.cons (.refl _) rfl (.cons (.ro _ _) rfl (.cons (.refl _) rfl (.cons (.refl _) rfl (.cons (.refl _) rfl (.cons (.refl _) rfl (.cons (.refl _) rfl (.cons (.refl _) rfl (.cons (.refl _) rfl (.cons (.refl _) rfl (.cons (.refl _) rfl (.cons (.refl _) rfl (.cons (.refl _) rfl (.cons (.refl _) rfl (.cons (.refl _) rfl (.cons (.refl _) rfl (.cons (.refl _) rfl (.cons (.refl _) rfl (.cons (.refl _) rfl (.cons (.refl _) rfl (.cons (.refl _) rfl (.cons (.refl _) rfl (.cons (.refl _) rfl (.cons (.refl _) rfl (.cons (.refl _) rfl (.cons (.refl _) rfl (.cons (.refl _) rfl (.cons (.refl _) rfl (.cons (.refl _) rfl (.cons (.refl _) rfl (.cons (.refl _) rfl (.cons (.refl _) rfl (.nil))))))))))))))))))))))))))))))))) rfl) ?_
    exact .ret (fin_gen0 none)
  · replace h := (if_neg (nt hc5)).symm.trans h
    refine .seq ?_
    refine .region ?_
    refine .move ?_
    refine .val ?_
    refine .assign ?_
    refine .nil ?_
    refine .cond (fun hc6 => ?_) (fun hc6 => ?_)
    · replace h := (if_pos hc6).symm.trans h
      refine .seq ?_
      refine .region ?_
      refine .buildL (cs := [.int .i64 0, .sl 97 .full [], .int .i64 (aZ 0), .int .i64 (aZ 1), .int .i64 (aZ 2), .int .i64 (aZ 3), .int .i64 (aZ 4), .int .i64 0, .int .i64 (aZ 0), .int .i64 (aZ 1), .int .i64 (aZ 2), .int .i64 (aZ 3), .int .i64 (aZ 4), .int .i64 (aZ 5), .int .i64 (aZ 6), .int .i64 (aZ 7), .int .i64 (aZ 8), .int .i64 (aZ 9), .int .i64 (aZ 10), .int .i64 (aZ 11), .int .i64 (aZ 12), .int .i64 (aZ 13), .int .i64 (aZ 14), .int .i64 (aZ 15), .int .i64 (aZ 16), .int .i64 (aZ 17), .int .i64 (aZ 18), .int .i64 (aZ 19), .int .i64 (aZ 20), .int .i64 (aZ 21), .int .i64 (aZ 22), .int .i64 (aZ 23)]) ?_
      refine .wrL (cs := [.int .i64 0, .sl 97 .full [], .int .i64 (aZ 0), .int .i64 (aZ 1), .int .i64 (aZ 2), .int .i64 (aZ 3), .int .i64 (aZ 4), .int .i64 0, .int .i64 (aZ 0), .int .i64 (aZ 1), .int .i64 (aZ 2), .int .i64 (aZ 3), .int .i64 (aZ 4), .int .i64 (aZ 5), .int .i64 (aZ 6), .int .i64 (aZ 7), .int .i64 (aZ 8), .int .i64 (aZ 9), .int .i64 (aZ 10), .int .i64 (aZ 11), .int .i64 (aZ 12), .int .i64 (aZ 13), .int .i64 (aZ 14), .int .i64 (aZ 15), .int .i64 (aZ 16), .int .i64 (aZ 17), .int .i64 (aZ 18), .int .i64 (aZ 19), .int .i64 (aZ 20), .int .i64 (aZ 21), .int .i64 (aZ 22), .int .i64 (aZ 23)]) ?_
      refine .assign ?_
      refine .nil ?_
      cases h
      refine .imp (Imp.cell (.loc 0 1) (ds := [.int .i64 0, .sl 97 .ro (([] : List Glitch).map pv97), .int .i64 (aZ 0), .int .i64 (aZ 1), .int .i64 (aZ 2), .int .i64 (aZ 3), .int .i64 (aZ 4), .int .i64 0, .int .i64 (aZ 0), .int .i64 (aZ 1), .int .i64 (aZ 2), .int .i64 (aZ 3), .int .i64 (aZ 4), .int .i64 (aZ 5), .int .i64 (aZ 6), .int .i64 (aZ 7), .int .i64 (aZ 8), .int .i64 (aZ 9), .int .i64 (aZ 10), .int .i64 (aZ 11), .int .i64 (aZ 12), .int .i64 (aZ 13), .int .i64 (aZ 14), .int .i64 (aZ 15), .int .i64 (aZ 16), .int .i64 (aZ 17), .int .i64 (aZ 18), .int .i64 (aZ 19), .int .i64 (aZ 20), .int .i64 (aZ 21), .int .i64 (aZ 22), .int .i64 (aZ 23)]) (.cons (.refl _) rfl (.cons (.ro _ _) rfl (.cons (.refl _) rfl (.cons (.refl _) rfl (.cons (.refl _) rfl (.cons (.refl _) rfl (.cons (.refl _) rfl (.cons (.refl _) rfl (.cons (.refl _) rfl (.cons (.refl _) rfl (.cons (.refl _) rfl (.cons (.refl _) rfl (.cons (.refl _) rfl (.cons (.refl _) rfl (.cons (.refl _) rfl (.cons (.refl _) rfl (.cons (.refl _) rfl (.cons (.refl _) rfl (.cons (.refl _) rfl (.cons (.refl _) rfl (.cons (.refl _) rfl (.cons (.refl _) rfl (.cons (.refl _) rfl (.cons (.refl _) rfl (.cons (.refl _) rfl (.cons (.refl _) rfl (.cons (.refl _) rfl (.cons (.refl _) rfl (.cons (.refl _) rfl (.cons (.refl _) rfl (.cons (.refl _) rfl (.cons (.refl _) rfl (.nil))))))))))))))))))))))))))))))))) rfl) ?_
      exact .ret (fin_gen0 none)
    · replace h := (if_neg (nt hc6)).symm.trans h
      refine .skip ?_
      refine .seq ?_
      refine .region ?_
      refine .move ?_
      refine .val ?_
      obtain ⟨y7, hy7, h⟩ := bindE h
      refine .cP (g76 hy7) ?_
      refine .minL ?_
      refine .assign ?_
      refine .nil ?_
      refine .seq ?_
      refine .region ?_
      refine .move ?_
      refine .move ?_
      refine .val ?_
      obtain ⟨x8, hx8, h⟩ := bindE h
      refine .idxA hx8 ?_
      refine .ldA hx8 (A := a0.Buckets) ?_
      obtain ⟨y9, hy9, h⟩ := bindE h
      refine .cP (g77 hy9) ?_
      refine .val ?_
      obtain ⟨x10, hx10, h⟩ := bindE h
      refine .idxA hx10 ?_
      refine .stA hx10 (A := a0.Buckets) (cs' := [.int .i64 a0.Limit, .sl 97 .ro (a0.Last.map pv97), .int .i64 (a0.Counts 0), .int .i64 (a0.Counts 1), .int .i64 (a0.Counts 2), .int .i64 (a0.Counts 3), .int .i64 (a0.Counts 4), .int .i64 a0.Frames, .int .i64 ((aUp a0.Buckets x10 y9) 0), .int .i64 ((aUp a0.Buckets x10 y9) 1), .int .i64 ((aUp a0.Buckets x10 y9) 2), .int .i64 ((aUp a0.Buckets x10 y9) 3), .int .i64 ((aUp a0.Buckets x10 y9) 4), .int .i64 ((aUp a0.Buckets x10 y9) 5), .int .i64 ((aUp a0.Buckets x10 y9) 6), .int .i64 ((aUp a0.Buckets x10 y9) 7), .int .i64 ((aUp a0.Buckets x10 y9) 8), .int .i64 ((aUp a0.Buckets x10 y9) 9), .int .i64 ((aUp a0.Buckets x10 y9) 10), .int .i64 ((aUp a0.Buckets x10 y9) 11), .int .i64 ((aUp a0.Buckets x10 y9) 12), .int .i64 ((aUp a0.Buckets x10 y9) 13), .int .i64 ((aUp a0.Buckets x10 y9) 14), .int .i64 ((aUp a0.Buckets x10 y9) 15), .int .i64 ((aUp a0.Buckets x10 y9) 16), .int .i64 ((aUp a0.Buckets x10 y9) 17), .int .i64 ((aUp a0.Buckets x10 y9) 18), .int .i64 ((aUp a0.Buckets x10 y9) 19), .int .i64 ((aUp a0.Buckets x10 y9) 20), .int .i64 ((aUp a0.Buckets x10 y9) 21), .int .i64 ((aUp a0.Buckets x10 y9) 22), .int .i64 ((aUp a0.Buckets x10 y9) 23)]) ?_
      refine .nil ?_
      refine .seq ?_
      refine .region ?_
      refine .val ?_
      refine .val ?_
      obtain ⟨y11, hy11, h⟩ := bindE h
      refine .cP (g78r hy11) ?_
      refine .val ?_
      refine .wrL (cs := [.int .i64 a0.Limit, .sl 97 .ro (y11.map pv97), .int .i64 (a0.Counts 0), .int .i64 (a0.Counts 1), .int .i64 (a0.Counts 2), .int .i64 (a0.Counts 3), .int .i64 (a0.Counts 4), .int .i64 a0.Frames, .int .i64 ((aUp a0.Buckets x10 y9) 0), .int .i64 ((aUp a0.Buckets x10 y9) 1), .int .i64 ((aUp a0.Buckets x10 y9) 2), .int .i64 ((aUp a0.Buckets x10 y9) 3), .int .i64 ((aUp a0.Buckets x10 y9) 4), .int .i64 ((aUp a0.Buckets x10 y9) 5), .int .i64 ((aUp a0.Buckets x10 y9) 6), .int .i64 ((aUp a0.Buckets x10 y9) 7), .int .i64 ((aUp a0.Buckets x10 y9) 8), .int .i64 ((aUp a0.Buckets x10 y9) 9), .int .i64 ((aUp a0.Buckets x10 y9) 10), .int .i64 ((aUp a0.Buckets x10 y9) 11), .int .i64 ((aUp a0.Buckets x10 y9) 12), .int .i64 ((aUp a0.Buckets x10 y9) 13), .int .i64 ((aUp a0.Buckets x10 y9) 14), .int .i64 ((aUp a0.Buckets x10 y9) 15), .int .i64 ((aUp a0.Buckets x10 y9) 16), .int .i64 ((aUp a0.Buckets x10 y9) 17), .int .i64 ((aUp a0.Buckets x10 y9) 18), .int .i64 ((aUp a0.Buckets x10 y9) 19), .int .i64 ((aUp a0.Buckets x10 y9) 20), .int .i64 ((aUp a0.Buckets x10 y9) 21), .int .i64 ((aUp a0.Buckets x10 y9) 22), .int .i64 ((aUp a0.Buckets x10 y9) 23)]) ?_
      refine .nil ?_
      refine .imp (T := St.of [(2, .ptr (.loc 0 0) 0), (4, .ptr (.loc 0 1) 0)] [((.loc 0 0), [.int .i64 a0.Limit, .sl 97 .ro (y11.map pv97), .int .i64 (a0.Counts 0), .int .i64 (a0.Counts 1), .int .i64 (a0.Counts 2), .int .i64 (a0.Counts 3), .int .i64 (a0.Counts 4), .int .i64 a0.Frames, .int .i64 ((aUp a0.Buckets x10 y9) 0), .int .i64 ((aUp a0.Buckets x10 y9) 1), .int .i64 ((aUp a0.Buckets x10 y9) 2), .int .i64 ((aUp a0.Buckets x10 y9) 3), .int .i64 ((aUp a0.Buckets x10 y9) 4), .int .i64 ((aUp a0.Buckets x10 y9) 5), .int .i64 ((aUp a0.Buckets x10 y9) 6), .int .i64 ((aUp a0.Buckets x10 y9) 7), .int .i64 ((aUp a0.Buckets x10 y9) 8), .int .i64 ((aUp a0.Buckets x10 y9) 9), .int .i64 ((aUp a0.Buckets x10 y9) 10), .int .i64 ((aUp a0.Buckets x10 y9) 11), .int .i64 ((aUp a0.Buckets x10 y9) 12), .int .i64 ((aUp a0.Buckets x10 y9) 13), .int .i64 ((aUp a0.Buckets x10 y9) 14), .int .i64 ((aUp a0.Buckets x10 y9) 15), .int .i64 ((aUp a0.Buckets x10 y9) 16), .int .i64 ((aUp a0.Buckets x10 y9) 17), .int .i64 ((aUp a0.Buckets x10 y9) 18), .int .i64 ((aUp a0.Buckets x10 y9) 19), .int .i64 ((aUp a0.Buckets x10 y9) 20), .int .i64 ((aUp a0.Buckets x10 y9) 21), .int .i64 ((aUp a0.Buckets x10 y9) 22), .int .i64 ((aUp a0.Buckets x10 y9) 23)]), ((.loc 0 1), [.int .i64 0, .sl 97 .full [], .int .i64 (aZ 0), .int .i64 (aZ 1), .int .i64 (aZ 2), .int .i64 (aZ 3), .int .i64 (aZ 4), .int .i64 0, .int .i64 (aZ 0), .int .i64 (aZ 1), .int .i64 (aZ 2), .int .i64 (aZ 3), .int .i64 (aZ 4), .int .i64 (aZ 5), .int .i64 (aZ 6), .int .i64 (aZ 7), .int .i64 (aZ 8), .int .i64 (aZ 9), .int .i64 (aZ 10), .int .i64 (aZ 11), .int .i64 (aZ 12), .int .i64 (aZ 13), .int .i64 (aZ 14), .int .i64 (aZ 15), .int .i64 (aZ 16), .int .i64 (aZ 17), .int .i64 (aZ 18), .int .i64 (aZ 19), .int .i64 (aZ 20), .int .i64 (aZ 21), .int .i64 (aZ 22), .int .i64 (aZ 23)])]) (imp_of (.cons rfl (.cons rfl (.nil))) (.cons rfl (.cons rfl (.nil)))) ?_
      refine .seq ?_
      refine .region ?_
      refine .val (v := .agg [.int .i64 a0.Limit, .sl 97 .ro (y11.map pv97), .int .i64 (a0.Counts 0), .int .i64 (a0.Counts 1), .int .i64 (a0.Counts 2), .int .i64 (a0.Counts 3), .int .i64 (a0.Counts 4), .int .i64 a0.Frames, .int .i64 ((aUp a0.Buckets x10 y9) 0), .int .i64 ((aUp a0.Buckets x10 y9) 1), .int .i64 ((aUp a0.Buckets x10 y9) 2), .int .i64 ((aUp a0.Buckets x10 y9) 3), .int .i64 ((aUp a0.Buckets x10 y9) 4), .int .i64 ((aUp a0.Buckets x10 y9) 5), .int .i64 ((aUp a0.Buckets x10 y9) 6), .int .i64 ((aUp a0.Buckets x10 y9) 7), .int .i64 ((aUp a0.Buckets x10 y9) 8), .int .i64 ((aUp a0.Buckets x10 y9) 9), .int .i64 ((aUp a0.Buckets x10 y9) 10), .int .i64 ((aUp a0.Buckets x10 y9) 11), .int .i64 ((aUp a0.Buckets x10 y9) 12), .int .i64 ((aUp a0.Buckets x10 y9) 13), .int .i64 ((aUp a0.Buckets x10 y9) 14), .int .i64 ((aUp a0.Buckets x10 y9) 15), .int .i64 ((aUp a0.Buckets x10 y9) 16), .int .i64 ((aUp a0.Buckets x10 y9) 17), .int .i64 ((aUp a0.Buckets x10 y9) 18), .int .i64 ((aUp a0.Buckets x10 y9) 19), .int .i64 ((aUp a0.Buckets x10 y9) 20), .int .i64 ((aUp a0.Buckets x10 y9) 21), .int .i64 ((aUp a0.Buckets x10 y9) 22), .int .i64 ((aUp a0.Buckets x10 y9) 23)]) ?_
      refine .wrL (cs := [.int .i64 a0.Limit, .sl 97 .ro (y11.map pv97), .int .i64 (a0.Counts 0), .int .i64 (a0.Counts 1), .int .i64 (a0.Counts 2), .int .i64 (a0.Counts 3), .int .i64 (a0.Counts 4), .int .i64 a0.Frames, .int .i64 ((aUp a0.Buckets x10 y9) 0), .int .i64 ((aUp a0.Buckets x10 y9) 1), .int .i64 ((aUp a0.Buckets x10 y9) 2), .int .i64 ((aUp a0.Buckets x10 y9) 3), .int .i64 ((aUp a0.Buckets x10 y9) 4), .int .i64 ((aUp a0.Buckets x10 y9) 5), .int .i64 ((aUp a0.Buckets x10 y9) 6), .int .i64 ((aUp a0.Buckets x10 y9) 7), .int .i64 ((aUp a0.Buckets x10 y9) 8), .int .i64 ((aUp a0.Buckets x10 y9) 9), .int .i64 ((aUp a0.Buckets x10 y9) 10), .int .i64 ((aUp a0.Buckets x10 y9) 11), .int .i64 ((aUp a0.Buckets x10 y9) 12), .int .i64 ((aUp a0.Buckets x10 y9) 13), .int .i64 ((aUp a0.Buckets x10 y9) 14), .int .i64 ((aUp a0.Buckets x10 y9) 15), .int .i64 ((aUp a0.Buckets x10 y9) 16), .int .i64 ((aUp a0.Buckets x10 y9) 17), .int .i64 ((aUp a0.Buckets x10 y9) 18), .int .i64 ((aUp a0.Buckets x10 y9) 19), .int .i64 ((aUp a0.Buckets x10 y9) 20), .int .i64 ((aUp a0.Buckets x10 y9) 21), .int .i64 ((aUp a0.Buckets x10 y9) 22), .int .i64 ((aUp a0.Buckets x10 y9) 23)]) ?_
      refine .assign ?_
      refine .nil ?_
      cases h
      exact .ret (fin_gen0 none)

/- soundservice/recorder.Most -/
def f40_l1 (n : Nat) (a0 : Recorder) (j12 : Int → Option Int) : Nat → Int → Int → Option Int
  | 0, _, _ => none
  | m21 + 1, v15, v16 =>
    if decide (v16 < (24 : Int)) then (
    (aIdx 24 v16).bind fun x25 =>
    f40_l1 n a0 j12 m21 (w64 (v15 + (a0.Buckets x25))) (w64 (v16 + (1 : Int))))
    else (
    j12 v15)
def f40_l2 (n : Nat) (a0 : Recorder) (a1 : Int) (v11 : Int) (j59 : Unit → Option Int) : Nat → Int → Int → Option Int
  | 0, _, _ => none
  | m71 + 1, v63, v64 =>
    if decide (v64 < (24 : Int)) then (
    (aIdx 24 v64).bind fun x77 =>
    if decide ((w64 ((w64 (v63 + (a0.Buckets x77))) * (100 : Int))) ≥ (w64 (a1 * v11))) then (
    (iShl .i64 (1 : Int) v64).bind fun x79 =>
    some (w64 (x79 - (1 : Int))))
    else (
    f40_l2 n a0 a1 v11 j59 m71 (w64 (v63 + (a0.Buckets x77))) (w64 (v64 + (1 : Int)))))
    else (
    j59 ())
def f40 (n : Nat) (a0 : Recorder) (a1 : Int) : Option Int :=
  joinK (fun (v11 : Int) =>
  joinK (fun (_ : Unit) =>
  some 0) fun j37 =>
  joinK (fun (_ : Unit) =>
  if (v11 == (0 : Int)) then (
  some 0)
  else (
  joinK (fun (_ : Unit) =>
  some 0) fun j59 =>
  f40_l2 n a0 a1 v11 j59 n 0 0)) fun j38 =>
  (f60 n (⟨a0.Limit, a0.Last, a0.Counts, a0.Frames, a0.Buckets⟩ : Recorder)).bind fun y39 =>
  if !y39 then (
  j37 ())
  else (
  if decide (a1 < (0 : Int)) then (
  j37 ())
  else (
  if decide (a1 > (100 : Int)) then (
  j37 ())
  else (
  j38 ())))) fun j12 =>
  f40_l1 n a0 j12 n 0 0
set_option maxHeartbeats 4000000 in
set_option maxRecDepth 100000 in
theorem g40 {n : Nat} {a0 : Recorder} {a1 : Int} {r : Int} (h : f40 n a0 a1 = some r) :
    Ab.Can Try.prog 40 [.agg [.int .i64 a0.Limit, .sl 97 .ro (a0.Last.map pv97), .int .i64 (a0.Counts 0), .int .i64 (a0.Counts 1), .int .i64 (a0.Counts 2), .int .i64 (a0.Counts 3), .int .i64 (a0.Counts 4), .int .i64 a0.Frames, .int .i64 (a0.Buckets 0), .int .i64 (a0.Buckets 1), .int .i64 (a0.Buckets 2), .int .i64 (a0.Buckets 3), .int .i64 (a0.Buckets 4), .int .i64 (a0.Buckets 5), .int .i64 (a0.Buckets 6), .int .i64 (a0.Buckets 7), .int .i64 (a0.Buckets 8), .int .i64 (a0.Buckets 9), .int .i64 (a0.Buckets 10), .int .i64 (a0.Buckets 11), .int .i64 (a0.Buckets 12), .int .i64 (a0.Buckets 13), .int .i64 (a0.Buckets 14), .int .i64 (a0.Buckets 15), .int .i64 (a0.Buckets 16), .int .i64 (a0.Buckets 17), .int .i64 (a0.Buckets 18), .int .i64 (a0.Buckets 19), .int .i64 (a0.Buckets 20), .int .i64 (a0.Buckets 21), .int .i64 (a0.Buckets 22), .int .i64 (a0.Buckets 23)], .int .i64 a1] H0 (.int .i64 r) H0 := by
  refine can_of tabOK mix Try.call40 Try.func40 rfl (by kernel_rfl) (by show _ ≤ 54; simp) fun _ => ?_
  rw [f40] at h
  refine .seq ?_
  refine .region ?_
  refine .boxL (cs := [.int .i64 a0.Limit, .sl 97 .ro (a0.Last.map pv97), .int .i64 (a0.Counts 0), .int .i64 (a0.Counts 1), .int .i64 (a0.Counts 2), .int .i64 (a0.Counts 3), .int .i64 (a0.Counts 4), .int .i64 a0.Frames, .int .i64 (a0.Buckets 0), .int .i64 (a0.Buckets 1), .int .i64 (a0.Buckets 2), .int .i64 (a0.Buckets 3), .int .i64 (a0.Buckets 4), .int .i64 (a0.Buckets 5), .int .i64 (a0.Buckets 6), .int .i64 (a0.Buckets 7), .int .i64 (a0.Buckets 8), .int .i64 (a0.Buckets 9), .int .i64 (a0.Buckets 10), .int .i64 (a0.Buckets 11), .int .i64 (a0.Buckets 12), .int .i64 (a0.Buckets 13), .int .i64 (a0.Buckets 14), .int .i64 (a0.Buckets 15), .int .i64 (a0.Buckets 16), .int .i64 (a0.Buckets 17), .int .i64 (a0.Buckets 18), .int .i64 (a0.Buckets 19), .int .i64 (a0.Buckets 20), .int .i64 (a0.Buckets 21), .int .i64 (a0.Buckets 22), .int .i64 (a0.Buckets 23)]) ?_
  refine .assign ?_
  refine .nil ?_
  refine .seq ?_
  refine .region ?_
  refine .assign ?_
  refine .nil ?_
  obtain ⟨j12, hj12, h⟩ := joinE h
  refine .cutI (fun T => (∃ (v11 : Int), T = St.of [(1, .int .i64 a1), (2, .ptr (.loc 0 0) 0), (5, .int .i64 v11)] [((.loc 0 0), [.int .i64 a0.Limit, .sl 97 .ro (a0.Last.map pv97), .int .i64 (a0.Counts 0), .int .i64 (a0.Counts 1), .int .i64 (a0.Counts 2), .int .i64 (a0.Counts 3), .int .i64 (a0.Counts 4), .int .i64 a0.Frames, .int .i64 (a0.Buckets 0), .int .i64 (a0.Buckets 1), .int .i64 (a0.Buckets 2), .int .i64 (a0.Buckets 3), .int .i64 (a0.Buckets 4), .int .i64 (a0.Buckets 5), .int .i64 (a0.Buckets 6), .int .i64 (a0.Buckets 7), .int .i64 (a0.Buckets 8), .int .i64 (a0.Buckets 9), .int .i64 (a0.Buckets 10), .int .i64 (a0.Buckets 11), .int .i64 (a0.Buckets 12), .int .i64 (a0.Buckets 13), .int .i64 (a0.Buckets 14), .int .i64 (a0.Buckets 15), .int .i64 (a0.Buckets 16), .int .i64 (a0.Buckets 17), .int .i64 (a0.Buckets 18), .int .i64 (a0.Buckets 19), .int .i64 (a0.Buckets 20), .int .i64 (a0.Buckets 21), .int .i64 (a0.Buckets 22), .int .i64 (a0.Buckets 23)])] ∧ j12 v11 = some r)) ?_ ?_
  · refine .seq ?_
    refine .region ?_
    refine .val ?_
    refine .val (v := .agg [.int .i64 (a0.Buckets 0), .int .i64 (a0.Buckets 1), .int .i64 (a0.Buckets 2), .int .i64 (a0.Buckets 3), .int .i64 (a0.Buckets 4), .int .i64 (a0.Buckets 5), .int .i64 (a0.Buckets 6), .int .i64 (a0.Buckets 7), .int .i64 (a0.Buckets 8), .int .i64 (a0.Buckets 9), .int .i64 (a0.Buckets 10), .int .i64 (a0.Buckets 11), .int .i64 (a0.Buckets 12), .int .i64 (a0.Buckets 13), .int .i64 (a0.Buckets 14), .int .i64 (a0.Buckets 15), .int .i64 (a0.Buckets 16), .int .i64 (a0.Buckets 17), .int .i64 (a0.Buckets 18), .int .i64 (a0.Buckets 19), .int .i64 (a0.Buckets 20), .int .i64 (a0.Buckets 21), .int .i64 (a0.Buckets 22), .int .i64 (a0.Buckets 23)]) ?_
    refine .move ?_
    refine .nil ?_
    refine .block ?_
    refine .loopI (fun m T => ∃ (v15 : Int) (v16 : Int), T = St.of [(1, .int .i64 a1), (2, .ptr (.loc 0 0) 0), (5, .int .i64 v15), (12, .agg [.int .i64 (a0.Buckets 0), .int .i64 (a0.Buckets 1), .int .i64 (a0.Buckets 2), .int .i64 (a0.Buckets 3), .int .i64 (a0.Buckets 4), .int .i64 (a0.Buckets 5), .int .i64 (a0.Buckets 6), .int .i64 (a0.Buckets 7), .int .i64 (a0.Buckets 8), .int .i64 (a0.Buckets 9), .int .i64 (a0.Buckets 10), .int .i64 (a0.Buckets 11), .int .i64 (a0.Buckets 12), .int .i64 (a0.Buckets 13), .int .i64 (a0.Buckets 14), .int .i64 (a0.Buckets 15), .int .i64 (a0.Buckets 16), .int .i64 (a0.Buckets 17), .int .i64 (a0.Buckets 18), .int .i64 (a0.Buckets 19), .int .i64 (a0.Buckets 20), .int .i64 (a0.Buckets 21), .int .i64 (a0.Buckets 22), .int .i64 (a0.Buckets 23)]), (13, .int .i64 v16)] [((.loc 0 0), [.int .i64 a0.Limit, .sl 97 .ro (a0.Last.map pv97), .int .i64 (a0.Counts 0), .int .i64 (a0.Counts 1), .int .i64 (a0.Counts 2), .int .i64 (a0.Counts 3), .int .i64 (a0.Counts 4), .int .i64 a0.Frames, .int .i64 (a0.Buckets 0), .int .i64 (a0.Buckets 1), .int .i64 (a0.Buckets 2), .int .i64 (a0.Buckets 3), .int .i64 (a0.Buckets 4), .int .i64 (a0.Buckets 5), .int .i64 (a0.Buckets 6), .int .i64 (a0.Buckets 7), .int .i64 (a0.Buckets 8), .int .i64 (a0.Buckets 9), .int .i64 (a0.Buckets 10), .int .i64 (a0.Buckets 11), .int .i64 (a0.Buckets 12), .int .i64 (a0.Buckets 13), .int .i64 (a0.Buckets 14), .int .i64 (a0.Buckets 15), .int .i64 (a0.Buckets 16), .int .i64 (a0.Buckets 17), .int .i64 (a0.Buckets 18), .int .i64 (a0.Buckets 19), .int .i64 (a0.Buckets 20), .int .i64 (a0.Buckets 21), .int .i64 (a0.Buckets 22), .int .i64 (a0.Buckets 23)])] ∧ f40_l1 n a0 j12 m v15 v16 = some r) _ _ ⟨_, _, rfl, h⟩ (imp_of (.cons rfl (.cons rfl (.cons rfl (.cons rfl (.cons rfl (.nil)))))) (.cons rfl (.nil))) ?_
    rintro m21 T ⟨v15, v16, rfl, h⟩
    obtain _ | m21 := m21
    · rw [f40_l1] at h; cases h
    rw [f40_l1] at h
    refine .seq ?_
    refine .region ?_
    refine .val ?_
    refine .nil ?_
    refine .seq ?_
    refine .cond (fun hc23 => ?_) (fun hc23 => ?_)
    · replace h := (if_pos hc23).symm.trans h
      refine .skip ?_
      refine .seq ?_
      refine .block ?_
      refine .seq ?_
      refine .region ?_
      obtain ⟨x25, hx25, h⟩ := bindE h
      refine .ixV hx25 (A := a0.Buckets) ?_
      refine .assign ?_
      refine .nil ?_
      refine .region ?_
      refine .move ?_
      refine .move ?_
      refine .val ?_
      refine .assign ?_
      refine .nil ?_
      refine .region ?_
      refine .val ?_
      refine .move ?_
      refine .nil ?_
      exact ⟨m21, _, Nat.lt_succ_self m21, ⟨_, _, rfl, h⟩, (imp_of (.cons rfl (.cons rfl (.cons rfl (.cons rfl (.cons rfl (.nil)))))) (.cons rfl (.nil)))⟩
    · replace h := (if_neg (nt hc23)).symm.trans h
      refine .exit (.hit ?_)
      exact ⟨_, ⟨_, rfl, h⟩, (imp_of (.cons rfl (.cons rfl (.cons rfl (.nil)))) (.cons rfl (.nil)))⟩
  · rintro T ⟨v11, rfl, h⟩
    subst hj12
    refine .seq ?_
    obtain ⟨j37, hj37, h⟩ := joinE h
    obtain ⟨j38, hj38, h⟩ := joinE h
    refine .cutI (fun T => (T = St.of [(1, .int .i64 a1), (2, .ptr (.loc 0 0) 0), (5, .int .i64 v11), (34, .bool true)] [((.loc 0 0), [.int .i64 a0.Limit, .sl 97 .ro (a0.Last.map pv97), .int .i64 (a0.Counts 0), .int .i64 (a0.Counts 1), .int .i64 (a0.Counts 2), .int .i64 (a0.Counts 3), .int .i64 (a0.Counts 4), .int .i64 a0.Frames, .int .i64 (a0.Buckets 0), .int .i64 (a0.Buckets 1), .int .i64 (a0.Buckets 2), .int .i64 (a0.Buckets 3), .int .i64 (a0.Buckets 4), .int .i64 (a0.Buckets 5), .int .i64 (a0.Buckets 6), .int .i64 (a0.Buckets 7), .int .i64 (a0.Buckets 8), .int .i64 (a0.Buckets 9), .int .i64 (a0.Buckets 10), .int .i64 (a0.Buckets 11), .int .i64 (a0.Buckets 12), .int .i64 (a0.Buckets 13), .int .i64 (a0.Buckets 14), .int .i64 (a0.Buckets 15), .int .i64 (a0.Buckets 16), .int .i64 (a0.Buckets 17), .int .i64 (a0.Buckets 18), .int .i64 (a0.Buckets 19), .int .i64 (a0.Buckets 20), .int .i64 (a0.Buckets 21), .int .i64 (a0.Buckets 22), .int .i64 (a0.Buckets 23)])] ∧ j37 () = some r) ∨ (T = St.of [(1, .int .i64 a1), (2, .ptr (.loc 0 0) 0), (5, .int .i64 v11), (34, .bool (v11 == (0 : Int)))] [((.loc 0 0), [.int .i64 a0.Limit, .sl 97 .ro (a0.Last.map pv97), .int .i64 (a0.Counts 0), .int .i64 (a0.Counts 1), .int .i64 (a0.Counts 2), .int .i64 (a0.Counts 3), .int .i64 (a0.Counts 4), .int .i64 a0.Frames, .int .i64 (a0.Buckets 0), .int .i64 (a0.Buckets 1), .int .i64 (a0.Buckets 2), .int .i64 (a0.Buckets 3), .int .i64 (a0.Buckets 4), .int .i64 (a0.Buckets 5), .int .i64 (a0.Buckets 6), .int .i64 (a0.Buckets 7), .int .i64 (a0.Buckets 8), .int .i64 (a0.Buckets 9), .int .i64 (a0.Buckets 10), .int .i64 (a0.Buckets 11), .int .i64 (a0.Buckets 12), .int .i64 (a0.Buckets 13), .int .i64 (a0.Buckets 14), .int .i64 (a0.Buckets 15), .int .i64 (a0.Buckets 16), .int .i64 (a0.Buckets 17), .int .i64 (a0.Buckets 18), .int .i64 (a0.Buckets 19), .int .i64 (a0.Buckets 20), .int .i64 (a0.Buckets 21), .int .i64 (a0.Buckets 22), .int .i64 (a0.Buckets 23)])] ∧ j38 () = some r)) ?_ ?_
    · refine .region ?_
      refine .val (v := .agg [.int .i64 a0.Limit, .sl 97 .ro (a0.Last.map pv97), .int .i64 (a0.Counts 0), .int .i64 (a0.Counts 1), .int .i64 (a0.Counts 2), .int .i64 (a0.Counts 3), .int .i64 (a0.Counts 4), .int .i64 a0.Frames, .int .i64 (a0.Buckets 0), .int .i64 (a0.Buckets 1), .int .i64 (a0.Buckets 2), .int .i64 (a0.Buckets 3), .int .i64 (a0.Buckets 4), .int .i64 (a0.Buckets 5), .int .i64 (a0.Buckets 6), .int .i64 (a0.Buckets 7), .int .i64 (a0.Buckets 8), .int .i64 (a0.Buckets 9), .int .i64 (a0.Buckets 10), .int .i64 (a0.Buckets 11), .int .i64 (a0.Buckets 12), .int .i64 (a0.Buckets 13), .int .i64 (a0.Buckets 14), .int .i64 (a0.Buckets 15), .int .i64 (a0.Buckets 16), .int .i64 (a0.Buckets 17), .int .i64 (a0.Buckets 18), .int .i64 (a0.Buckets 19), .int .i64 (a0.Buckets 20), .int .i64 (a0.Buckets 21), .int .i64 (a0.Buckets 22), .int .i64 (a0.Buckets 23)]) ?_
      obtain ⟨y39, hy39, h⟩ := bindE h
      refine .cP (g60 hy39) ?_
      refine .val ?_
      refine .move ?_
      refine .caseG (fun hc40 => ?_) (fun hc40 => ?_)
      · replace h := (if_pos hc40).symm.trans h
        refine .skip ?_
        refine .skip ?_
        refine .brT ?_
        refine .move ?_
        refine .skip ?_
        refine .skip ?_
        refine .brT ?_
        refine .move ?_
        refine .skip ?_
        refine .skip ?_
        refine .brT ?_
        refine .nil ?_
        exact ⟨_, (.inl ⟨rfl, h⟩), (imp_of (.cons rfl (.cons rfl (.cons rfl (.cons rfl (.nil))))) (.cons rfl (.nil)))⟩
      · replace h := (if_neg (nt hc40)).symm.trans h
        refine .move ?_
        refine .val ?_
        refine .brF ?_
        refine .move ?_
        refine .caseG (fun hc41 => ?_) (fun hc41 => ?_)
        · replace h := (if_pos hc41).symm.trans h
          refine .skip ?_
          refine .skip ?_
          refine .brT ?_
          refine .move ?_
          refine .skip ?_
          refine .skip ?_
          refine .brT ?_
          refine .nil ?_
          exact ⟨_, (.inl ⟨rfl, h⟩), (imp_of (.cons rfl (.cons rfl (.cons rfl (.cons rfl (.nil))))) (.cons rfl (.nil)))⟩
        · replace h := (if_neg (nt hc41)).symm.trans h
          refine .move ?_
          refine .val ?_
          refine .brF ?_
          refine .move ?_
          refine .caseG (fun hc42 => ?_) (fun hc42 => ?_)
          · replace h := (if_pos hc42).symm.trans h
            refine .skip ?_
            refine .skip ?_
            refine .brT ?_
            refine .nil ?_
            exact ⟨_, (.inl ⟨rfl, h⟩), (imp_of (.cons rfl (.cons rfl (.cons rfl (.cons rfl (.nil))))) (.cons rfl (.nil)))⟩
          · replace h := (if_neg (nt hc42)).symm.trans h
            refine .move ?_
            refine .val ?_
            refine .brF ?_
            refine .nil ?_
            exact ⟨_, (.inr (⟨rfl, h⟩)), (imp_of (.cons rfl (.cons rfl (.cons rfl (.cons rfl (.nil))))) (.cons rfl (.nil)))⟩
    · rintro T (⟨rfl, h⟩ | ⟨rfl, h⟩)
      · subst hj37
        refine .condT ?_
        refine .seq ?_
        refine .region ?_
        refine .assign ?_
        refine .nil ?_
        cases h
        exact .ret (fin_gen0 none)
      · subst hj38
        refine .cond (fun hc43 => ?_) (fun hc43 => ?_)
        · replace h := (if_pos hc43).symm.trans h
          refine .seq ?_
          refine .region ?_
          refine .assign ?_
          refine .nil ?_
          cases h
          exact .ret (fin_gen0 none)
        · replace h := (if_neg (nt hc43)).symm.trans h
          refine .skip ?_
          refine .seq ?_
          refine .region ?_
          refine .assign ?_
          refine .nil ?_
          obtain ⟨j59, hj59, h⟩ := joinE h
          refine .cutI (fun T => (T = St.of [] [] ∧ j59 () = some r)) ?_ ?_
          · refine .seq ?_
            refine .region ?_
            refine .val ?_
            refine .val (v := .agg [.int .i64 (a0.Buckets 0), .int .i64 (a0.Buckets 1), .int .i64 (a0.Buckets 2), .int .i64 (a0.Buckets 3), .int .i64 (a0.Buckets 4), .int .i64 (a0.Buckets 5), .int .i64 (a0.Buckets 6), .int .i64 (a0.Buckets 7), .int .i64 (a0.Buckets 8), .int .i64 (a0.Buckets 9), .int .i64 (a0.Buckets 10), .int .i64 (a0.Buckets 11), .int .i64 (a0.Buckets 12), .int .i64 (a0.Buckets 13), .int .i64 (a0.Buckets 14), .int .i64 (a0.Buckets 15), .int .i64 (a0.Buckets 16), .int .i64 (a0.Buckets 17), .int .i64 (a0.Buckets 18), .int .i64 (a0.Buckets 19), .int .i64 (a0.Buckets 20), .int .i64 (a0.Buckets 21), .int .i64 (a0.Buckets 22), .int .i64 (a0.Buckets 23)]) ?_
            refine .move ?_
            refine .nil ?_
            refine .block ?_
            refine .loopI (fun m T => ∃ (v63 : Int) (v64 : Int), T = St.of [(1, .int .i64 a1), (5, .int .i64 v11), (8, .int .i64 v63), (36, .agg [.int .i64 (a0.Buckets 0), .int .i64 (a0.Buckets 1), .int .i64 (a0.Buckets 2), .int .i64 (a0.Buckets 3), .int .i64 (a0.Buckets 4), .int .i64 (a0.Buckets 5), .int .i64 (a0.Buckets 6), .int .i64 (a0.Buckets 7), .int .i64 (a0.Buckets 8), .int .i64 (a0.Buckets 9), .int .i64 (a0.Buckets 10), .int .i64 (a0.Buckets 11), .int .i64 (a0.Buckets 12), .int .i64 (a0.Buckets 13), .int .i64 (a0.Buckets 14), .int .i64 (a0.Buckets 15), .int .i64 (a0.Buckets 16), .int .i64 (a0.Buckets 17), .int .i64 (a0.Buckets 18), .int .i64 (a0.Buckets 19), .int .i64 (a0.Buckets 20), .int .i64 (a0.Buckets 21), .int .i64 (a0.Buckets 22), .int .i64 (a0.Buckets 23)]), (37, .int .i64 v64)] [] ∧ f40_l2 n a0 a1 v11 j59 m v63 v64 = some r) _ _ ⟨_, _, rfl, h⟩ (imp_of (.cons rfl (.cons rfl (.cons rfl (.cons rfl (.cons rfl (.nil)))))) (.nil)) ?_
            rintro m71 T ⟨v63, v64, rfl, h⟩
            obtain _ | m71 := m71
            · rw [f40_l2] at h; cases h
            rw [f40_l2] at h
            refine .seq ?_
            refine .region ?_
            refine .val ?_
            refine .nil ?_
            refine .seq ?_
            refine .cond (fun hc73 => ?_) (fun hc73 => ?_)
            · replace h := (if_pos hc73).symm.trans h
              refine .skip ?_
              refine .seq ?_
              refine .block ?_
              refine .seq ?_
              refine .region ?_
              refine .move ?_
              obtain ⟨x77, hx77, h⟩ := bindE h
              refine .ixV hx77 (A := a0.Buckets) ?_
              refine .assign ?_
              refine .assign ?_
              refine .nil ?_
              refine .seq ?_
              refine .region ?_
              refine .move ?_
              refine .move ?_
              refine .val ?_
              refine .assign ?_
              refine .nil ?_
              refine .seq ?_
              refine .region ?_
              refine .move ?_
              refine .val ?_
              refine .move ?_
              refine .move ?_
              refine .val ?_
              refine .val ?_
              refine .nil ?_
              refine .cond (fun hc78 => ?_) (fun hc78 => ?_)
              · replace h := (if_pos hc78).symm.trans h
                refine .seq ?_
                refine .region ?_
                refine .move ?_
                obtain ⟨x79, hx79, h⟩ := bindE h
                refine .shlL hx79 ?_
                refine .val ?_
                refine .assign ?_
                refine .nil ?_
                cases h
                exact .ret (fin_gen0 none)
              · replace h := (if_neg (nt hc78)).symm.trans h
                refine .skip ?_
                refine .region ?_
                refine .val ?_
                refine .move ?_
                refine .nil ?_
                exact ⟨m71, _, Nat.lt_succ_self m71, ⟨_, _, rfl, h⟩, (imp_of (.cons rfl (.cons rfl (.cons rfl (.cons rfl (.cons rfl (.nil)))))) (.nil))⟩
            · replace h := (if_neg (nt hc73)).symm.trans h
              refine .exit (.hit ?_)
              exact ⟨_, ⟨rfl, h⟩, (imp_of (.nil) (.nil))⟩
          · rintro T ⟨rfl, h⟩
            subst hj59
            refine .seq ?_
            refine .region ?_
            refine .assign ?_
            refine .nil ?_
            cases h
            exact .ret (fin_gen0 none)

/- soundservice/soundservicelaw38.sane -/
def f36_l1 (n : Nat) (j28 : Int → (List Glitch) → (Nat → Int) → Int → (Nat → Int) → Option Bool) : Nat → Int → (List Glitch) → (Nat → Int) → Int → (Nat → Int) → Int → Option Bool
  | 0, _, _, _, _, _, _ => none
  | m47 + 1, v32, v33, v34, v35, v36, v37 =>
    if decide (v37 < (([100, 200, 1000] : List Int).length : Int)) then (
    (lAt ([100, 200, 1000] : List Int) v37).bind fun x52 =>
    (f38 n (⟨v32, v33, v34, v35, v36⟩ : Recorder) x52).bind fun y53 =>
    f36_l1 n j28 m47 y53.1.Limit y53.1.Last y53.1.Counts y53.1.Frames y53.1.Buckets (w64 (v37 + (1 : Int))))
    else (
    j28 v32 v33 v34 v35 v36)
def f36 (n : Nat)  : Option Bool :=
  (f37 n (4 : Int)).bind fun y1 =>
  joinK (fun (v23 : Int) (v24 : (List Glitch)) (v25 : (Nat → Int)) (v26 : Int) (v27 : (Nat → Int)) =>
  if (y1.2 == (0 : Int)) then (
  (f40 n (⟨v23, v24, v25, v26, v27⟩ : Recorder) (50 : Int)).bind fun y59 =>
  if (y59 == (255 : Int)) then (
  (f60 n (⟨v23, v24, v25, v26, v27⟩ : Recorder)).bind fun y61 =>
  some y61)
  else (
  some false))
  else (
  some false)) fun j28 =>
  f36_l1 n j28 n y1.1.Limit y1.1.Last y1.1.Counts y1.1.Frames y1.1.Buckets 0
set_option maxHeartbeats 4000000 in
set_option maxRecDepth 100000 in
theorem g36 {n : Nat}  {r : Bool} (h : f36 n  = some r) :
    Ab.Can Try.prog 36 [] H0 (.bool r) H0 := by
  refine can_of tabOK mix Try.call36 Try.func36 rfl (by kernel_rfl) (by show _ ≤ 33; simp) fun _ => ?_
  rw [f36] at h
  refine .seq ?_
  refine .region ?_
  refine .assign ?_
  refine .nil ?_
  refine .seq ?_
  refine .region ?_
  obtain ⟨y1, hy1, h⟩ := bindE h
  refine .cP (g37 hy1) ?_
  refine .move ?_
  refine .val ?_
  refine .val ?_
  refine .allocL (cs := [.int .i64 0, .sl 97 .full [], .int .i64 (aZ 0), .int .i64 (aZ 1), .int .i64 (aZ 2), .int .i64 (aZ 3), .int .i64 (aZ 4), .int .i64 0, .int .i64 (aZ 0), .int .i64 (aZ 1), .int .i64 (aZ 2), .int .i64 (aZ 3), .int .i64 (aZ 4), .int .i64 (aZ 5), .int .i64 (aZ 6), .int .i64 (aZ 7), .int .i64 (aZ 8), .int .i64 (aZ 9), .int .i64 (aZ 10), .int .i64 (aZ 11), .int .i64 (aZ 12), .int .i64 (aZ 13), .int .i64 (aZ 14), .int .i64 (aZ 15), .int .i64 (aZ 16), .int .i64 (aZ 17), .int .i64 (aZ 18), .int .i64 (aZ 19), .int .i64 (aZ 20), .int .i64 (aZ 21), .int .i64 (aZ 22), .int .i64 (aZ 23)]) ?_
  refine .wrL (cs := [.int .i64 y1.1.Limit, .sl 97 .ro (y1.1.Last.map pv97), .int .i64 (y1.1.Counts 0), .int .i64 (y1.1.Counts 1), .int .i64 (y1.1.Counts 2), .int .i64 (y1.1.Counts 3), .int .i64 (y1.1.Counts 4), .int .i64 y1.1.Frames, .int .i64 (y1.1.Buckets 0), .int .i64 (y1.1.Buckets 1), .int .i64 (y1.1.Buckets 2), .int .i64 (y1.1.Buckets 3), .int .i64 (y1.1.Buckets 4), .int .i64 (y1.1.Buckets 5), .int .i64 (y1.1.Buckets 6), .int .i64 (y1.1.Buckets 7), .int .i64 (y1.1.Buckets 8), .int .i64 (y1.1.Buckets 9), .int .i64 (y1.1.Buckets 10), .int .i64 (y1.1.Buckets 11), .int .i64 (y1.1.Buckets 12), .int .i64 (y1.1.Buckets 13), .int .i64 (y1.1.Buckets 14), .int .i64 (y1.1.Buckets 15), .int .i64 (y1.1.Buckets 16), .int .i64 (y1.1.Buckets 17), .int .i64 (y1.1.Buckets 18), .int .i64 (y1.1.Buckets 19), .int .i64 (y1.1.Buckets 20), .int .i64 (y1.1.Buckets 21), .int .i64 (y1.1.Buckets 22), .int .i64 (y1.1.Buckets 23)]) ?_
  refine .assign ?_
  refine .nil ?_
  obtain ⟨j28, hj28, h⟩ := joinE h
  refine .cutI (fun T => (∃ (v23 : Int) (v24 : (List Glitch)) (v25 : (Nat → Int)) (v26 : Int) (v27 : (Nat → Int)), T = St.of [(1, .ptr (.loc 1 4) 0), (2, .int .i64 y1.2)] [((.loc 1 4), [.int .i64 v23, .sl 97 .ro (v24.map pv97), .int .i64 (v25 0), .int .i64 (v25 1), .int .i64 (v25 2), .int .i64 (v25 3), .int .i64 (v25 4), .int .i64 v26, .int .i64 (v27 0), .int .i64 (v27 1), .int .i64 (v27 2), .int .i64 (v27 3), .int .i64 (v27 4), .int .i64 (v27 5), .int .i64 (v27 6), .int .i64 (v27 7), .int .i64 (v27 8), .int .i64 (v27 9), .int .i64 (v27 10), .int .i64 (v27 11), .int .i64 (v27 12), .int .i64 (v27 13), .int .i64 (v27 14), .int .i64 (v27 15), .int .i64 (v27 16), .int .i64 (v27 17), .int .i64 (v27 18), .int .i64 (v27 19), .int .i64 (v27 20), .int .i64 (v27 21), .int .i64 (v27 22), .int .i64 (v27 23)])] ∧ j28 v23 v24 v25 v26 v27 = some r)) ?_ ?_
  · refine .seq ?_
    refine .region ?_
    refine .litR (f := (PV.int .i64)) ([100, 200, 1000] : List Int) ?_
    refine .lenL (f := (PV.int .i64)) ?_
    refine .move ?_
    refine .nil ?_
    refine .block ?_
    refine .loopI (fun m T => ∃ (v32 : Int) (v33 : (List Glitch)) (v34 : (Nat → Int)) (v35 : Int) (v36 : (Nat → Int)) (v37 : Int), T = St.of [(1, .ptr (.loc 1 4) 0), (2, .int .i64 y1.2), (9, .sl 3 .ro (([100, 200, 1000] : List Int).map (PV.int .i64))), (10, .int .i64 (([100, 200, 1000] : List Int).length : Int)), (11, .int .i64 v37)] [((.loc 1 4), [.int .i64 v32, .sl 97 .ro (v33.map pv97), .int .i64 (v34 0), .int .i64 (v34 1), .int .i64 (v34 2), .int .i64 (v34 3), .int .i64 (v34 4), .int .i64 v35, .int .i64 (v36 0), .int .i64 (v36 1), .int .i64 (v36 2), .int .i64 (v36 3), .int .i64 (v36 4), .int .i64 (v36 5), .int .i64 (v36 6), .int .i64 (v36 7), .int .i64 (v36 8), .int .i64 (v36 9), .int .i64 (v36 10), .int .i64 (v36 11), .int .i64 (v36 12), .int .i64 (v36 13), .int .i64 (v36 14), .int .i64 (v36 15), .int .i64 (v36 16), .int .i64 (v36 17), .int .i64 (v36 18), .int .i64 (v36 19), .int .i64 (v36 20), .int .i64 (v36 21), .int .i64 (v36 22), .int .i64 (v36 23)])] ∧ f36_l1 n j28 m v32 v33 v34 v35 v36 v37 = some r) _ _ ⟨_, _, _, _, _, _, rfl, h⟩ (imp_of (.cons rfl (.cons rfl (.cons rfl (.cons rfl (.cons rfl (.nil)))))) (.cons rfl (.nil))) ?_
    rintro m47 T ⟨v32, v33, v34, v35, v36, v37, rfl, h⟩
    obtain _ | m47 := m47
    · rw [f36_l1] at h; cases h
    rw [f36_l1] at h
    refine .seq ?_
    refine .region ?_
    refine .val ?_
    refine .nil ?_
    refine .seq ?_
    refine .cond (fun hc49 => ?_) (fun hc49 => ?_)
    · replace h := (if_pos hc49).symm.trans h
      refine .skip ?_
      refine .seq ?_
      refine .block ?_
      refine .seq ?_
      refine .region ?_
      obtain ⟨x52, hx52, h⟩ := bindE h
      refine .idxL (f := (PV.int .i64)) hx52 ?_
      refine .ldL hx52 (y := .int .i64 x52) ?_
      refine .assign ?_
      refine .nil ?_
      refine .region ?_
      refine .val (v := .agg [.int .i64 v32, .sl 97 .ro (v33.map pv97), .int .i64 (v34 0), .int .i64 (v34 1), .int .i64 (v34 2), .int .i64 (v34 3), .int .i64 (v34 4), .int .i64 v35, .int .i64 (v36 0), .int .i64 (v36 1), .int .i64 (v36 2), .int .i64 (v36 3), .int .i64 (v36 4), .int .i64 (v36 5), .int .i64 (v36 6), .int .i64 (v36 7), .int .i64 (v36 8), .int .i64 (v36 9), .int .i64 (v36 10), .int .i64 (v36 11), .int .i64 (v36 12), .int .i64 (v36 13), .int .i64 (v36 14), .int .i64 (v36 15), .int .i64 (v36 16), .int .i64 (v36 17), .int .i64 (v36 18), .int .i64 (v36 19), .int .i64 (v36 20), .int .i64 (v36 21), .int .i64 (v36 22), .int .i64 (v36 23)]) ?_
      refine .move ?_
      obtain ⟨y53, hy53, h⟩ := bindE h
      refine .cP (g38 hy53) ?_
      refine .move ?_
      refine .val ?_
      refine .val ?_
      refine .wrL (cs := [.int .i64 y53.1.Limit, .sl 97 .ro (y53.1.Last.map pv97), .int .i64 (y53.1.Counts 0), .int .i64 (y53.1.Counts 1), .int .i64 (y53.1.Counts 2), .int .i64 (y53.1.Counts 3), .int .i64 (y53.1.Counts 4), .int .i64 y53.1.Frames, .int .i64 (y53.1.Buckets 0), .int .i64 (y53.1.Buckets 1), .int .i64 (y53.1.Buckets 2), .int .i64 (y53.1.Buckets 3), .int .i64 (y53.1.Buckets 4), .int .i64 (y53.1.Buckets 5), .int .i64 (y53.1.Buckets 6), .int .i64 (y53.1.Buckets 7), .int .i64 (y53.1.Buckets 8), .int .i64 (y53.1.Buckets 9), .int .i64 (y53.1.Buckets 10), .int .i64 (y53.1.Buckets 11), .int .i64 (y53.1.Buckets 12), .int .i64 (y53.1.Buckets 13), .int .i64 (y53.1.Buckets 14), .int .i64 (y53.1.Buckets 15), .int .i64 (y53.1.Buckets 16), .int .i64 (y53.1.Buckets 17), .int .i64 (y53.1.Buckets 18), .int .i64 (y53.1.Buckets 19), .int .i64 (y53.1.Buckets 20), .int .i64 (y53.1.Buckets 21), .int .i64 (y53.1.Buckets 22), .int .i64 (y53.1.Buckets 23)]) ?_
      refine .nil ?_
      refine .region ?_
      refine .val ?_
      refine .move ?_
      refine .nil ?_
      exact ⟨m47, _, Nat.lt_succ_self m47, ⟨_, _, _, _, _, _, rfl, h⟩, (imp_of (.cons rfl (.cons rfl (.cons rfl (.cons rfl (.cons rfl (.nil)))))) (.cons rfl (.nil)))⟩
    · replace h := (if_neg (nt hc49)).symm.trans h
      refine .exit (.hit ?_)
      exact ⟨_, ⟨_, _, _, _, _, rfl, h⟩, (imp_of (.cons rfl (.cons rfl (.nil))) (.cons rfl (.nil)))⟩
  · rintro T ⟨v23, v24, v25, v26, v27, rfl, h⟩
    subst hj28
    refine .seq ?_
    refine .region ?_
    refine .move ?_
    refine .val ?_
    refine .move ?_
    refine .caseG (fun hc58 => ?_) (fun hc58 => ?_)
    · replace h := (if_pos hc58).symm.trans h
      refine .val (v := .agg [.int .i64 v23, .sl 97 .ro (v24.map pv97), .int .i64 (v25 0), .int .i64 (v25 1), .int .i64 (v25 2), .int .i64 (v25 3), .int .i64 (v25 4), .int .i64 v26, .int .i64 (v27 0), .int .i64 (v27 1), .int .i64 (v27 2), .int .i64 (v27 3), .int .i64 (v27 4), .int .i64 (v27 5), .int .i64 (v27 6), .int .i64 (v27 7), .int .i64 (v27 8), .int .i64 (v27 9), .int .i64 (v27 10), .int .i64 (v27 11), .int .i64 (v27 12), .int .i64 (v27 13), .int .i64 (v27 14), .int .i64 (v27 15), .int .i64 (v27 16), .int .i64 (v27 17), .int .i64 (v27 18), .int .i64 (v27 19), .int .i64 (v27 20), .int .i64 (v27 21), .int .i64 (v27 22), .int .i64 (v27 23)]) ?_
      obtain ⟨y59, hy59, h⟩ := bindE h
      refine .cP (g40 hy59) ?_
      refine .val ?_
      refine .brT ?_
      refine .move ?_
      refine .caseG (fun hc60 => ?_) (fun hc60 => ?_)
      · replace h := (if_pos hc60).symm.trans h
        refine .val (v := .agg [.int .i64 v23, .sl 97 .ro (v24.map pv97), .int .i64 (v25 0), .int .i64 (v25 1), .int .i64 (v25 2), .int .i64 (v25 3), .int .i64 (v25 4), .int .i64 v26, .int .i64 (v27 0), .int .i64 (v27 1), .int .i64 (v27 2), .int .i64 (v27 3), .int .i64 (v27 4), .int .i64 (v27 5), .int .i64 (v27 6), .int .i64 (v27 7), .int .i64 (v27 8), .int .i64 (v27 9), .int .i64 (v27 10), .int .i64 (v27 11), .int .i64 (v27 12), .int .i64 (v27 13), .int .i64 (v27 14), .int .i64 (v27 15), .int .i64 (v27 16), .int .i64 (v27 17), .int .i64 (v27 18), .int .i64 (v27 19), .int .i64 (v27 20), .int .i64 (v27 21), .int .i64 (v27 22), .int .i64 (v27 23)]) ?_
        obtain ⟨y61, hy61, h⟩ := bindE h
        refine .cP (g60 hy61) ?_
        refine .brT ?_
        refine .assign ?_
        refine .nil ?_
        cases h
        exact .ret (fin_gen0 none)
      · replace h := (if_neg (nt hc60)).symm.trans h
        refine .skip ?_
        refine .skip ?_
        refine .brF ?_
        refine .assign ?_
        refine .nil ?_
        cases h
        exact .ret (fin_gen0 none)
    · replace h := (if_neg (nt hc58)).symm.trans h
      refine .skip ?_
      refine .skip ?_
      refine .skip ?_
      refine .brF ?_
      refine .move ?_
      refine .skip ?_
      refine .skip ?_
      refine .brF ?_
      refine .assign ?_
      refine .nil ?_
      cases h
      exact .ret (fin_gen0 none)

/- soundservice/soundserviceref38.New -/
def f67 (_n : Nat) (a0 : Int) : Option (Recorder × Int) :=
  joinK (fun (_ : Unit) =>
  some ((⟨0, ([] : List Glitch), aZ, 0, aZ⟩ : Recorder), 2)) fun j6 =>
  joinK (fun (_ : Unit) =>
  if decide (a0 > (256 : Int)) then (
  some ((⟨0, ([] : List Glitch), aZ, 0, aZ⟩ : Recorder), 2))
  else (
  some ((⟨a0, ([] : List Glitch), aZ, 0, aZ⟩ : Recorder), 0))) fun j7 =>
  if decide (a0 < (1 : Int)) then (
  j6 ())
  else (
  j7 ())
set_option maxHeartbeats 4000000 in
set_option maxRecDepth 100000 in
theorem g67 {n : Nat} {a0 : Int} {r : (Recorder × Int)} (h : f67 n a0 = some r) :
    Ab.Can Try.prog 67 [.int .i64 a0] H0 (.tup [.agg [.int .i64 r.1.Limit, .sl 97 .ro (r.1.Last.map pv97), .int .i64 (r.1.Counts 0), .int .i64 (r.1.Counts 1), .int .i64 (r.1.Counts 2), .int .i64 (r.1.Counts 3), .int .i64 (r.1.Counts 4), .int .i64 r.1.Frames, .int .i64 (r.1.Buckets 0), .int .i64 (r.1.Buckets 1), .int .i64 (r.1.Buckets 2), .int .i64 (r.1.Buckets 3), .int .i64 (r.1.Buckets 4), .int .i64 (r.1.Buckets 5), .int .i64 (r.1.Buckets 6), .int .i64 (r.1.Buckets 7), .int .i64 (r.1.Buckets 8), .int .i64 (r.1.Buckets 9), .int .i64 (r.1.Buckets 10), .int .i64 (r.1.Buckets 11), .int .i64 (r.1.Buckets 12), .int .i64 (r.1.Buckets 13), .int .i64 (r.1.Buckets 14), .int .i64 (r.1.Buckets 15), .int .i64 (r.1.Buckets 16), .int .i64 (r.1.Buckets 17), .int .i64 (r.1.Buckets 18), .int .i64 (r.1.Buckets 19), .int .i64 (r.1.Buckets 20), .int .i64 (r.1.Buckets 21), .int .i64 (r.1.Buckets 22), .int .i64 (r.1.Buckets 23)], .int .i64 r.2]) H0 := by
  refine can_of tabOK mix Try.call67 Try.func67 rfl (by kernel_rfl) (by show _ ≤ 13; simp) fun _ => ?_
  rw [f67] at h
  refine .seq ?_
  refine .region ?_
  refine .allocL (cs := [.int .i64 0, .sl 97 .full [], .int .i64 (aZ 0), .int .i64 (aZ 1), .int .i64 (aZ 2), .int .i64 (aZ 3), .int .i64 (aZ 4), .int .i64 0, .int .i64 (aZ 0), .int .i64 (aZ 1), .int .i64 (aZ 2), .int .i64 (aZ 3), .int .i64 (aZ 4), .int .i64 (aZ 5), .int .i64 (aZ 6), .int .i64 (aZ 7), .int .i64 (aZ 8), .int .i64 (aZ 9), .int .i64 (aZ 10), .int .i64 (aZ 11), .int .i64 (aZ 12), .int .i64 (aZ 13), .int .i64 (aZ 14), .int .i64 (aZ 15), .int .i64 (aZ 16), .int .i64 (aZ 17), .int .i64 (aZ 18), .int .i64 (aZ 19), .int .i64 (aZ 20), .int .i64 (aZ 21), .int .i64 (aZ 22), .int .i64 (aZ 23)]) ?_
  refine .assign ?_
  refine .nil ?_
  refine .seq ?_
  obtain ⟨j6, hj6, h⟩ := joinE h
  obtain ⟨j7, hj7, h⟩ := joinE h
  refine .cutI (fun T => (T = St.of [(0, .int .i64 a0), (2, .ptr (.loc 0 0) 0), (9, .bool true)] [((.loc 0 0), [.int .i64 0, .sl 97 .full [], .int .i64 (aZ 0), .int .i64 (aZ 1), .int .i64 (aZ 2), .int .i64 (aZ 3), .int .i64 (aZ 4), .int .i64 0, .int .i64 (aZ 0), .int .i64 (aZ 1), .int .i64 (aZ 2), .int .i64 (aZ 3), .int .i64 (aZ 4), .int .i64 (aZ 5), .int .i64 (aZ 6), .int .i64 (aZ 7), .int .i64 (aZ 8), .int .i64 (aZ 9), .int .i64 (aZ 10), .int .i64 (aZ 11), .int .i64 (aZ 12), .int .i64 (aZ 13), .int .i64 (aZ 14), .int .i64 (aZ 15), .int .i64 (aZ 16), .int .i64 (aZ 17), .int .i64 (aZ 18), .int .i64 (aZ 19), .int .i64 (aZ 20), .int .i64 (aZ 21), .int .i64 (aZ 22), .int .i64 (aZ 23)])] ∧ j6 () = some r) ∨ (T = St.of [(0, .int .i64 a0), (2, .ptr (.loc 0 0) 0), (9, .bool (decide (a0 > (256 : Int))))] [((.loc 0 0), [.int .i64 0, .sl 97 .full [], .int .i64 (aZ 0), .int .i64 (aZ 1), .int .i64 (aZ 2), .int .i64 (aZ 3), .int .i64 (aZ 4), .int .i64 0, .int .i64 (aZ 0), .int .i64 (aZ 1), .int .i64 (aZ 2), .int .i64 (aZ 3), .int .i64 (aZ 4), .int .i64 (aZ 5), .int .i64 (aZ 6), .int .i64 (aZ 7), .int .i64 (aZ 8), .int .i64 (aZ 9), .int .i64 (aZ 10), .int .i64 (aZ 11), .int .i64 (aZ 12), .int .i64 (aZ 13), .int .i64 (aZ 14), .int .i64 (aZ 15), .int .i64 (aZ 16), .int .i64 (aZ 17), .int .i64 (aZ 18), .int .i64 (aZ 19), .int .i64 (aZ 20), .int .i64 (aZ 21), .int .i64 (aZ 22), .int .i64 (aZ 23)])] ∧ j7 () = some r)) ?_ ?_
  · refine .region ?_
    refine .move ?_
    refine .val ?_
    refine .move ?_
    refine .caseG (fun hc8 => ?_) (fun hc8 => ?_)
    · replace h := (if_pos hc8).symm.trans h
      refine .skip ?_
      refine .skip ?_
      refine .brT ?_
      refine .nil ?_
      exact ⟨_, (.inl ⟨rfl, h⟩), (imp_of (.cons rfl (.cons rfl (.cons rfl (.nil)))) (.cons rfl (.nil)))⟩
    · replace h := (if_neg (nt hc8)).symm.trans h
      refine .move ?_
      refine .val ?_
      refine .brF ?_
      refine .nil ?_
      exact ⟨_, (.inr (⟨rfl, h⟩)), (imp_of (.cons rfl (.cons rfl (.cons rfl (.nil)))) (.cons rfl (.nil)))⟩
  · rintro T (⟨rfl, h⟩ | ⟨rfl, h⟩)
    · subst hj6
      refine .condT ?_
      refine .seq ?_
      refine .region ?_
      refine .buildL (cs := [.int .i64 0, .sl 97 .full [], .int .i64 (aZ 0), .int .i64 (aZ 1), .int .i64 (aZ 2), .int .i64 (aZ 3), .int .i64 (aZ 4), .int .i64 0, .int .i64 (aZ 0), .int .i64 (aZ 1), .int .i64 (aZ 2), .int .i64 (aZ 3), .int .i64 (aZ 4), .int .i64 (aZ 5), .int .i64 (aZ 6), .int .i64 (aZ 7), .int .i64 (aZ 8), .int .i64 (aZ 9), .int .i64 (aZ 10), .int .i64 (aZ 11), .int .i64 (aZ 12), .int .i64 (aZ 13), .int .i64 (aZ 14), .int .i64 (aZ 15), .int .i64 (aZ 16), .int .i64 (aZ 17), .int .i64 (aZ 18), .int .i64 (aZ 19), .int .i64 (aZ 20), .int .i64 (aZ 21), .int .i64 (aZ 22), .int .i64 (aZ 23)]) ?_
      refine .wrL (cs := [.int .i64 0, .sl 97 .full [], .int .i64 (aZ 0), .int .i64 (aZ 1), .int .i64 (aZ 2), .int .i64 (aZ 3), .int .i64 (aZ 4), .int .i64 0, .int .i64 (aZ 0), .int .i64 (aZ 1), .int .i64 (aZ 2), .int .i64 (aZ 3), .int .i64 (aZ 4), .int .i64 (aZ 5), .int .i64 (aZ 6), .int .i64 (aZ 7), .int .i64 (aZ 8), .int .i64 (aZ 9), .int .i64 (aZ 10), .int .i64 (aZ 11), .int .i64 (aZ 12), .int .i64 (aZ 13), .int .i64 (aZ 14), .int .i64 (aZ 15), .int .i64 (aZ 16), .int .i64 (aZ 17), .int .i64 (aZ 18), .int .i64 (aZ 19), .int .i64 (aZ 20), .int .i64 (aZ 21), .int .i64 (aZ 22), .int .i64 (aZ 23)]) ?_
      refine .assign ?_
      refine .nil ?_
      cases h
      refine .imp (Imp.cell (.loc 0 0) (ds := [.int .i64 0, .sl 97 .ro (([] : List Glitch).map pv97), .int .i64 (aZ 0), .int .i64 (aZ 1), .int .i64 (aZ 2), .int .i64 (aZ 3), .int .i64 (aZ 4), .int .i64 0, .int .i64 (aZ 0), .int .i64 (aZ 1), .int .i64 (aZ 2), .int .i64 (aZ 3), .int .i64 (aZ 4), .int .i64 (aZ 5), .int .i64 (aZ 6), .int .i64 (aZ 7), .int .i64 (aZ 8), .int .i64 (aZ 9), .int .i64 (aZ 10), .int .i64 (aZ 11), .int .i64 (aZ 12), .int .i64 (aZ 13), .int .i64 (aZ 14), .int .i64 (aZ 15), .int .i64 (aZ 16), .int .i64 (aZ 17), .int .i64 (aZ 18), .int .i64 (aZ 19), .int .i64 (aZ 20), .int .i64 (aZ 21), .int .i64 (aZ 22), .int .i64 (aZ 23)]) (.cons (.refl _) rfl (.cons (.ro _ _) rfl (.cons (.refl _) rfl (.cons (.refl _) rfl (.cons (.refl _) rfl (.cons (.refl _) rfl (.cons (.refl _) rfl (.cons (.refl _) rfl (.cons (.refl _) rfl (.cons (.refl _) rfl (.cons (.refl _) rfl (.cons (.refl _) rfl (.cons (.refl _) rfl (.cons (.refl _) rfl (.cons (.refl _) rfl (.cons (.refl _) rfl (.cons (.refl _) rfl (.cons (.refl _) rfl (.cons (.refl _) rfl (.cons (.refl _) rfl (.cons (.refl _) rfl (.cons (.refl _) rfl (.cons (.refl _) rfl (.cons (.refl _) rfl (.cons (.refl _) rfl (.cons (.refl _) rfl (.cons (.refl _) rfl (.cons (.refl _) rfl (.cons (.refl _) rfl (.cons (.refl _) rfl (.cons (.refl _) rfl (.cons (.refl _) rfl (.nil))))))))))))))))))))))))))))))))) rfl) ?_
      exact .ret (fin_gen0 none)
    · subst hj7
      refine .cond (fun hc9 => ?_) (fun hc9 => ?_)
      · replace h := (if_pos hc9).symm.trans h
        refine .seq ?_
        refine .region ?_
        refine .buildL (cs := [.int .i64 0, .sl 97 .full [], .int .i64 (aZ 0), .int .i64 (aZ 1), .int .i64 (aZ 2), .int .i64 (aZ 3), .int .i64 (aZ 4), .int .i64 0, .int .i64 (aZ 0), .int .i64 (aZ 1), .int .i64 (aZ 2), .int .i64 (aZ 3), .int .i64 (aZ 4), .int .i64 (aZ 5), .int .i64 (aZ 6), .int .i64 (aZ 7), .int .i64 (aZ 8), .int .i64 (aZ 9), .int .i64 (aZ 10), .int .i64 (aZ 11), .int .i64 (aZ 12), .int .i64 (aZ 13), .int .i64 (aZ 14), .int .i64 (aZ 15), .int .i64 (aZ 16), .int .i64 (aZ 17), .int .i64 (aZ 18), .int .i64 (aZ 19), .int .i64 (aZ 20), .int .i64 (aZ 21), .int .i64 (aZ 22), .int .i64 (aZ 23)]) ?_
        refine .wrL (cs := [.int .i64 0, .sl 97 .full [], .int .i64 (aZ 0), .int .i64 (aZ 1), .int .i64 (aZ 2), .int .i64 (aZ 3), .int .i64 (aZ 4), .int .i64 0, .int .i64 (aZ 0), .int .i64 (aZ 1), .int .i64 (aZ 2), .int .i64 (aZ 3), .int .i64 (aZ 4), .int .i64 (aZ 5), .int .i64 (aZ 6), .int .i64 (aZ 7), .int .i64 (aZ 8), .int .i64 (aZ 9), .int .i64 (aZ 10), .int .i64 (aZ 11), .int .i64 (aZ 12), .int .i64 (aZ 13), .int .i64 (aZ 14), .int .i64 (aZ 15), .int .i64 (aZ 16), .int .i64 (aZ 17), .int .i64 (aZ 18), .int .i64 (aZ 19), .int .i64 (aZ 20), .int .i64 (aZ 21), .int .i64 (aZ 22), .int .i64 (aZ 23)]) ?_
        refine .assign ?_
        refine .nil ?_
        cases h
        refine .imp (Imp.cell (.loc 0 0) (ds := [.int .i64 0, .sl 97 .ro (([] : List Glitch).map pv97), .int .i64 (aZ 0), .int .i64 (aZ 1), .int .i64 (aZ 2), .int .i64 (aZ 3), .int .i64 (aZ 4), .int .i64 0, .int .i64 (aZ 0), .int .i64 (aZ 1), .int .i64 (aZ 2), .int .i64 (aZ 3), .int .i64 (aZ 4), .int .i64 (aZ 5), .int .i64 (aZ 6), .int .i64 (aZ 7), .int .i64 (aZ 8), .int .i64 (aZ 9), .int .i64 (aZ 10), .int .i64 (aZ 11), .int .i64 (aZ 12), .int .i64 (aZ 13), .int .i64 (aZ 14), .int .i64 (aZ 15), .int .i64 (aZ 16), .int .i64 (aZ 17), .int .i64 (aZ 18), .int .i64 (aZ 19), .int .i64 (aZ 20), .int .i64 (aZ 21), .int .i64 (aZ 22), .int .i64 (aZ 23)]) (.cons (.refl _) rfl (.cons (.ro _ _) rfl (.cons (.refl _) rfl (.cons (.refl _) rfl (.cons (.refl _) rfl (.cons (.refl _) rfl (.cons (.refl _) rfl (.cons (.refl _) rfl (.cons (.refl _) rfl (.cons (.refl _) rfl (.cons (.refl _) rfl (.cons (.refl _) rfl (.cons (.refl _) rfl (.cons (.refl _) rfl (.cons (.refl _) rfl (.cons (.refl _) rfl (.cons (.refl _) rfl (.cons (.refl _) rfl (.cons (.refl _) rfl (.cons (.refl _) rfl (.cons (.refl _) rfl (.cons (.refl _) rfl (.cons (.refl _) rfl (.cons (.refl _) rfl (.cons (.refl _) rfl (.cons (.refl _) rfl (.cons (.refl _) rfl (.cons (.refl _) rfl (.cons (.refl _) rfl (.cons (.refl _) rfl (.cons (.refl _) rfl (.cons (.refl _) rfl (.nil))))))))))))))))))))))))))))))))) rfl) ?_
        exact .ret (fin_gen0 none)
      · replace h := (if_neg (nt hc9)).symm.trans h
        refine .skip ?_
        refine .seq ?_
        refine .region ?_
        refine .move ?_
        refine .buildL (cs := [.int .i64 a0, .sl 97 .full [], .int .i64 (aZ 0), .int .i64 (aZ 1), .int .i64 (aZ 2), .int .i64 (aZ 3), .int .i64 (aZ 4), .int .i64 0, .int .i64 (aZ 0), .int .i64 (aZ 1), .int .i64 (aZ 2), .int .i64 (aZ 3), .int .i64 (aZ 4), .int .i64 (aZ 5), .int .i64 (aZ 6), .int .i64 (aZ 7), .int .i64 (aZ 8), .int .i64 (aZ 9), .int .i64 (aZ 10), .int .i64 (aZ 11), .int .i64 (aZ 12), .int .i64 (aZ 13), .int .i64 (aZ 14), .int .i64 (aZ 15), .int .i64 (aZ 16), .int .i64 (aZ 17), .int .i64 (aZ 18), .int .i64 (aZ 19), .int .i64 (aZ 20), .int .i64 (aZ 21), .int .i64 (aZ 22), .int .i64 (aZ 23)]) ?_
        refine .wrL (cs := [.int .i64 a0, .sl 97 .full [], .int .i64 (aZ 0), .int .i64 (aZ 1), .int .i64 (aZ 2), .int .i64 (aZ 3), .int .i64 (aZ 4), .int .i64 0, .int .i64 (aZ 0), .int .i64 (aZ 1), .int .i64 (aZ 2), .int .i64 (aZ 3), .int .i64 (aZ 4), .int .i64 (aZ 5), .int .i64 (aZ 6), .int .i64 (aZ 7), .int .i64 (aZ 8), .int .i64 (aZ 9), .int .i64 (aZ 10), .int .i64 (aZ 11), .int .i64 (aZ 12), .int .i64 (aZ 13), .int .i64 (aZ 14), .int .i64 (aZ 15), .int .i64 (aZ 16), .int .i64 (aZ 17), .int .i64 (aZ 18), .int .i64 (aZ 19), .int .i64 (aZ 20), .int .i64 (aZ 21), .int .i64 (aZ 22), .int .i64 (aZ 23)]) ?_
        refine .assign ?_
        refine .nil ?_
        cases h
        refine .imp (Imp.cell (.loc 0 0) (ds := [.int .i64 a0, .sl 97 .ro (([] : List Glitch).map pv97), .int .i64 (aZ 0), .int .i64 (aZ 1), .int .i64 (aZ 2), .int .i64 (aZ 3), .int .i64 (aZ 4), .int .i64 0, .int .i64 (aZ 0), .int .i64 (aZ 1), .int .i64 (aZ 2), .int .i64 (aZ 3), .int .i64 (aZ 4), .int .i64 (aZ 5), .int .i64 (aZ 6), .int .i64 (aZ 7), .int .i64 (aZ 8), .int .i64 (aZ 9), .int .i64 (aZ 10), .int .i64 (aZ 11), .int .i64 (aZ 12), .int .i64 (aZ 13), .int .i64 (aZ 14), .int .i64 (aZ 15), .int .i64 (aZ 16), .int .i64 (aZ 17), .int .i64 (aZ 18), .int .i64 (aZ 19), .int .i64 (aZ 20), .int .i64 (aZ 21), .int .i64 (aZ 22), .int .i64 (aZ 23)]) (.cons (.refl _) rfl (.cons (.ro _ _) rfl (.cons (.refl _) rfl (.cons (.refl _) rfl (.cons (.refl _) rfl (.cons (.refl _) rfl (.cons (.refl _) rfl (.cons (.refl _) rfl (.cons (.refl _) rfl (.cons (.refl _) rfl (.cons (.refl _) rfl (.cons (.refl _) rfl (.cons (.refl _) rfl (.cons (.refl _) rfl (.cons (.refl _) rfl (.cons (.refl _) rfl (.cons (.refl _) rfl (.cons (.refl _) rfl (.cons (.refl _) rfl (.cons (.refl _) rfl (.cons (.refl _) rfl (.cons (.refl _) rfl (.cons (.refl _) rfl (.cons (.refl _) rfl (.cons (.refl _) rfl (.cons (.refl _) rfl (.cons (.refl _) rfl (.cons (.refl _) rfl (.cons (.refl _) rfl (.cons (.refl _) rfl (.cons (.refl _) rfl (.cons (.refl _) rfl (.nil))))))))))))))))))))))))))))))))) rfl) ?_
        exact .ret (fin_gen0 none)

/- soundservice/soundserviceref38.count -/
def f100 (_n : Nat) (a0 : Int) : Option Bool :=
  if decide (a0 ≥ (0 : Int)) then (
  some (decide (a0 ≤ (1099511627776 : Int))))
  else (
  some false)
set_option maxHeartbeats 4000000 in
set_option maxRecDepth 100000 in
theorem g100 {n : Nat} {a0 : Int} {r : Bool} (h : f100 n a0 = some r) :
    Ab.Can Try.prog 100 [.int .i64 a0] H0 (.bool r) H0 := by
  refine can_of tabOK mix Try.call100 Try.func100 rfl (by kernel_rfl) (by show _ ≤ 9; simp) fun _ => ?_
  rw [f100] at h
  refine .seq ?_
  refine .region ?_
  refine .assign ?_
  refine .nil ?_
  refine .seq ?_
  refine .region ?_
  refine .move ?_
  refine .val ?_
  refine .move ?_
  refine .caseG (fun hc2 => ?_) (fun hc2 => ?_)
  · replace h := (if_pos hc2).symm.trans h
    refine .move ?_
    refine .val ?_
    refine .brT ?_
    refine .assign ?_
    refine .nil ?_
    cases h
    exact .ret (fin_gen0 none)
  · replace h := (if_neg (nt hc2)).symm.trans h
    refine .skip ?_
    refine .skip ?_
    refine .brF ?_
    refine .assign ?_
    refine .nil ?_
    cases h
    exact .ret (fin_gen0 none)

/- soundservice/soundserviceref37.Valid -/
def f101 (_n : Nat) (a0 : Glitch) : Option Bool :=
  joinK (fun (_ : Unit) =>
  some false) fun j14 =>
  joinK (fun (_ : Unit) =>
  if decide (a0.Frames > (1099511627776 : Int)) then (
  some false)
  else (
  joinK (fun (v33 : Bool) =>
  if v33 then (
  if decide (a0.Stream ≥ (1 : Int)) then (
  some (a0.Device == (0 : Int)))
  else (
  some false))
  else (
  joinK (fun (v40 : Bool) =>
  if v40 then (
  if decide (a0.Device ≥ (1 : Int)) then (
  some (a0.Stream == (0 : Int)))
  else (
  some false))
  else (
  some false)) fun j41 =>
  if (a0.Kind == (3 : Int)) then (
  j41 (a0.Kind == (3 : Int)))
  else (
  j41 (a0.Kind == (4 : Int))))) fun j34 =>
  if (a0.Kind == (1 : Int)) then (
  j34 (a0.Kind == (1 : Int)))
  else (
  j34 (a0.Kind == (2 : Int))))) fun j15 =>
  if decide (a0.At < (0 : Int)) then (
  j14 ())
  else (
  if decide (a0.At > (1099511627776 : Int)) then (
  j14 ())
  else (
  if decide (a0.Quanta < (1 : Int)) then (
  j14 ())
  else (
  if decide (a0.Quanta > (4096 : Int)) then (
  j14 ())
  else (
  if decide (a0.Frames < (1 : Int)) then (
  j14 ())
  else (
  j15 ())))))
set_option maxHeartbeats 4000000 in
set_option maxRecDepth 100000 in
theorem g101 {n : Nat} {a0 : Glitch} {r : Bool} (h : f101 n a0 = some r) :
    Ab.Can Try.prog 101 [.agg [.int .i64 a0.Kind, .int .i64 a0.At, .int .i64 a0.Quanta, .int .i64 a0.Stream, .int .u64 a0.Device, .int .i64 a0.Frames]] H0 (.bool r) H0 := by
  refine can_of tabOK mix Try.call101 Try.func101 rfl (by kernel_rfl) (by show _ ≤ 55; simp) fun _ => ?_
  rw [f101] at h
  refine .seq ?_
  refine .region ?_
  refine .boxL (cs := [.int .i64 a0.Kind, .int .i64 a0.At, .int .i64 a0.Quanta, .int .i64 a0.Stream, .int .u64 a0.Device, .int .i64 a0.Frames]) ?_
  refine .assign ?_
  refine .nil ?_
  refine .seq ?_
  obtain ⟨j14, hj14, h⟩ := joinE h
  obtain ⟨j15, hj15, h⟩ := joinE h
  refine .cutI (fun T => (T = St.of [(1, .ptr (.loc 0 0) 0), (30, .bool true)] [((.loc 0 0), [.int .i64 a0.Kind, .int .i64 a0.At, .int .i64 a0.Quanta, .int .i64 a0.Stream, .int .u64 a0.Device, .int .i64 a0.Frames])] ∧ j14 () = some r) ∨ (T = St.of [(1, .ptr (.loc 0 0) 0), (30, .bool (decide (a0.Frames > (1099511627776 : Int))))] [((.loc 0 0), [.int .i64 a0.Kind, .int .i64 a0.At, .int .i64 a0.Quanta, .int .i64 a0.Stream, .int .u64 a0.Device, .int .i64 a0.Frames])] ∧ j15 () = some r)) ?_ ?_
  · refine .region ?_
    refine .val ?_
    refine .val ?_
    refine .val ?_
    refine .move ?_
    refine .caseG (fun hc16 => ?_) (fun hc16 => ?_)
    · replace h := (if_pos hc16).symm.trans h
      refine .skip ?_
      refine .skip ?_
      refine .skip ?_
      refine .brT ?_
      refine .move ?_
      refine .skip ?_
      refine .skip ?_
      refine .skip ?_
      refine .brT ?_
      refine .move ?_
      refine .skip ?_
      refine .skip ?_
      refine .skip ?_
      refine .brT ?_
      refine .move ?_
      refine .skip ?_
      refine .skip ?_
      refine .skip ?_
      refine .brT ?_
      refine .move ?_
      refine .skip ?_
      refine .skip ?_
      refine .skip ?_
      refine .brT ?_
      refine .nil ?_
      exact ⟨_, (.inl ⟨rfl, h⟩), (imp_of (.cons rfl (.cons rfl (.nil))) (.cons rfl (.nil)))⟩
    · replace h := (if_neg (nt hc16)).symm.trans h
      refine .val ?_
      refine .val ?_
      refine .val ?_
      refine .brF ?_
      refine .move ?_
      refine .caseG (fun hc17 => ?_) (fun hc17 => ?_)
      · replace h := (if_pos hc17).symm.trans h
        refine .skip ?_
        refine .skip ?_
        refine .skip ?_
        refine .brT ?_
        refine .move ?_
        refine .skip ?_
        refine .skip ?_
        refine .skip ?_
        refine .brT ?_
        refine .move ?_
        refine .skip ?_
        refine .skip ?_
        refine .skip ?_
        refine .brT ?_
        refine .move ?_
        refine .skip ?_
        refine .skip ?_
        refine .skip ?_
        refine .brT ?_
        refine .nil ?_
        exact ⟨_, (.inl ⟨rfl, h⟩), (imp_of (.cons rfl (.cons rfl (.nil))) (.cons rfl (.nil)))⟩
      · replace h := (if_neg (nt hc17)).symm.trans h
        refine .val ?_
        refine .val ?_
        refine .val ?_
        refine .brF ?_
        refine .move ?_
        refine .caseG (fun hc18 => ?_) (fun hc18 => ?_)
        · replace h := (if_pos hc18).symm.trans h
          refine .skip ?_
          refine .skip ?_
          refine .skip ?_
          refine .brT ?_
          refine .move ?_
          refine .skip ?_
          refine .skip ?_
          refine .skip ?_
          refine .brT ?_
          refine .move ?_
          refine .skip ?_
          refine .skip ?_
          refine .skip ?_
          refine .brT ?_
          refine .nil ?_
          exact ⟨_, (.inl ⟨rfl, h⟩), (imp_of (.cons rfl (.cons rfl (.nil))) (.cons rfl (.nil)))⟩
        · replace h := (if_neg (nt hc18)).symm.trans h
          refine .val ?_
          refine .val ?_
          refine .val ?_
          refine .brF ?_
          refine .move ?_
          refine .caseG (fun hc19 => ?_) (fun hc19 => ?_)
          · replace h := (if_pos hc19).symm.trans h
            refine .skip ?_
            refine .skip ?_
            refine .skip ?_
            refine .brT ?_
            refine .move ?_
            refine .skip ?_
            refine .skip ?_
            refine .skip ?_
            refine .brT ?_
            refine .nil ?_
            exact ⟨_, (.inl ⟨rfl, h⟩), (imp_of (.cons rfl (.cons rfl (.nil))) (.cons rfl (.nil)))⟩
          · replace h := (if_neg (nt hc19)).symm.trans h
            refine .val ?_
            refine .val ?_
            refine .val ?_
            refine .brF ?_
            refine .move ?_
            refine .caseG (fun hc20 => ?_) (fun hc20 => ?_)
            · replace h := (if_pos hc20).symm.trans h
              refine .skip ?_
              refine .skip ?_
              refine .skip ?_
              refine .brT ?_
              refine .nil ?_
              exact ⟨_, (.inl ⟨rfl, h⟩), (imp_of (.cons rfl (.cons rfl (.nil))) (.cons rfl (.nil)))⟩
            · replace h := (if_neg (nt hc20)).symm.trans h
              refine .val ?_
              refine .val ?_
              refine .val ?_
              refine .brF ?_
              refine .nil ?_
              exact ⟨_, (.inr (⟨rfl, h⟩)), (imp_of (.cons rfl (.cons rfl (.nil))) (.cons rfl (.nil)))⟩
  · rintro T (⟨rfl, h⟩ | ⟨rfl, h⟩)
    · subst hj14
      refine .condT ?_
      refine .seq ?_
      refine .region ?_
      refine .assign ?_
      refine .nil ?_
      cases h
      exact .ret (fin_gen0 none)
    · subst hj15
      refine .cond (fun hc21 => ?_) (fun hc21 => ?_)
      · replace h := (if_pos hc21).symm.trans h
        refine .seq ?_
        refine .region ?_
        refine .assign ?_
        refine .nil ?_
        cases h
        exact .ret (fin_gen0 none)
      · replace h := (if_neg (nt hc21)).symm.trans h
        refine .skip ?_
        refine .seq ?_
        refine .seq ?_
        refine .region ?_
        refine .val ?_
        refine .val ?_
        refine .nil ?_
        refine .block ?_
        obtain ⟨j34, hj34, h⟩ := joinE h
        refine .cutI (fun T => (∃ (v33 : Bool), T = St.of [(1, .ptr (.loc 0 0) 0), (32, .int .i64 a0.Kind), (33, .bool v33)] [((.loc 0 0), [.int .i64 a0.Kind, .int .i64 a0.At, .int .i64 a0.Quanta, .int .i64 a0.Stream, .int .u64 a0.Device, .int .i64 a0.Frames])] ∧ j34 v33 = some r)) ?_ ?_
        · refine .seq ?_
          refine .region ?_
          refine .val ?_
          refine .assign ?_
          refine .nil ?_
          refine .cond (fun hc35 => ?_) (fun hc35 => ?_)
          · replace h := (if_pos hc35).symm.trans h
            refine .skip ?_
            exact ⟨_, ⟨_, rfl, h⟩, (imp_of (.cons rfl (.cons rfl (.cons rfl (.nil)))) (.cons rfl (.nil)))⟩
          · replace h := (if_neg (nt hc35)).symm.trans h
            refine .region ?_
            refine .val ?_
            refine .assign ?_
            refine .nil ?_
            exact ⟨_, ⟨_, rfl, h⟩, (imp_of (.cons rfl (.cons rfl (.cons rfl (.nil)))) (.cons rfl (.nil)))⟩
        · rintro T ⟨v33, rfl, h⟩
          subst hj34
          refine .cond (fun hc36 => ?_) (fun hc36 => ?_)
          · replace h := (if_pos hc36).symm.trans h
            refine .seq ?_
            refine .region ?_
            refine .val ?_
            refine .val ?_
            refine .val ?_
            refine .move ?_
            refine .caseG (fun hc38 => ?_) (fun hc38 => ?_)
            · replace h := (if_pos hc38).symm.trans h
              refine .val ?_
              refine .val ?_
              refine .val ?_
              refine .brT ?_
              refine .assign ?_
              refine .nil ?_
              cases h
              exact .ret (fin_gen0 none)
            · replace h := (if_neg (nt hc38)).symm.trans h
              refine .skip ?_
              refine .skip ?_
              refine .skip ?_
              refine .brF ?_
              refine .assign ?_
              refine .nil ?_
              cases h
              exact .ret (fin_gen0 none)
          · replace h := (if_neg (nt hc36)).symm.trans h
            obtain ⟨j41, hj41, h⟩ := joinE h
            refine .cutI (fun T => (∃ (v40 : Bool), T = St.of [(1, .ptr (.loc 0 0) 0), (44, .bool v40)] [((.loc 0 0), [.int .i64 a0.Kind, .int .i64 a0.At, .int .i64 a0.Quanta, .int .i64 a0.Stream, .int .u64 a0.Device, .int .i64 a0.Frames])] ∧ j41 v40 = some r)) ?_ ?_
            · refine .seq ?_
              refine .region ?_
              refine .val ?_
              refine .assign ?_
              refine .nil ?_
              refine .cond (fun hc42 => ?_) (fun hc42 => ?_)
              · replace h := (if_pos hc42).symm.trans h
                refine .skip ?_
                exact ⟨_, ⟨_, rfl, h⟩, (imp_of (.cons rfl (.cons rfl (.nil))) (.cons rfl (.nil)))⟩
              · replace h := (if_neg (nt hc42)).symm.trans h
                refine .region ?_
                refine .val ?_
                refine .assign ?_
                refine .nil ?_
                exact ⟨_, ⟨_, rfl, h⟩, (imp_of (.cons rfl (.cons rfl (.nil))) (.cons rfl (.nil)))⟩
            · rintro T ⟨v40, rfl, h⟩
              subst hj41
              refine .cond (fun hc43 => ?_) (fun hc43 => ?_)
              · replace h := (if_pos hc43).symm.trans h
                refine .seq ?_
                refine .region ?_
                refine .val ?_
                refine .val ?_
                refine .val ?_
                refine .move ?_
                refine .caseG (fun hc45 => ?_) (fun hc45 => ?_)
                · replace h := (if_pos hc45).symm.trans h
                  refine .val ?_
                  refine .val ?_
                  refine .val ?_
                  refine .brT ?_
                  refine .assign ?_
                  refine .nil ?_
                  cases h
                  exact .ret (fin_gen0 none)
                · replace h := (if_neg (nt hc45)).symm.trans h
                  refine .skip ?_
                  refine .skip ?_
                  refine .skip ?_
                  refine .brF ?_
                  refine .assign ?_
                  refine .nil ?_
                  cases h
                  exact .ret (fin_gen0 none)
              · replace h := (if_neg (nt hc43)).symm.trans h
                refine .skip ?_
                refine .seq ?_
                refine .region ?_
                refine .assign ?_
                refine .nil ?_
                cases h
                exact .ret (fin_gen0 none)

/- soundservice/soundserviceref38.Valid -/
def f61_l1 (n : Nat) (a0 : Recorder) (j35 : Unit → Option Bool) : Nat → Int → Option Bool
  | 0, _ => none
  | m46 + 1, v40 =>
    if decide (v40 < (a0.Last.length : Int)) then (
    (lAt a0.Last v40).bind fun x52 =>
    (f101 n x52).bind fun y53 =>
    if !y53 then (
    some false)
    else (
    f61_l1 n a0 j35 m46 (w64 (v40 + (1 : Int)))))
    else (
    j35 ())
def f61_l2 (n : Nat) (a0 : Recorder) (j69 : Unit → Option Bool) : Nat → Int → Option Bool
  | 0, _ => none
  | m80 + 1, v74 =>
    if decide (v74 < (5 : Int)) then (
    (aIdx 5 v74).bind fun x86 =>
    (f100 n (a0.Counts x86)).bind fun y87 =>
    if !y87 then (
    some false)
    else (
    f61_l2 n a0 j69 m80 (w64 (v74 + (1 : Int)))))
    else (
    j69 ())
def f61_l3 (n : Nat) (a0 : Recorder) (j103 : Unit → Option Bool) : Nat → Int → Option Bool
  | 0, _ => none
  | m114 + 1, v108 =>
    if decide (v108 < (24 : Int)) then (
    (aIdx 24 v108).bind fun x120 =>
    (f100 n (a0.Buckets x120)).bind fun y121 =>
    if !y121 then (
    some false)
    else (
    f61_l3 n a0 j103 m114 (w64 (v108 + (1 : Int)))))
    else (
    j103 ())
def f61 (n : Nat) (a0 : Recorder) : Option Bool :=
  joinK (fun (_ : Unit) =>
  some false) fun j13 =>
  joinK (fun (v14 : Bool) =>
  if v14 then (
  some false)
  else (
  joinK (fun (_ : Unit) =>
  joinK (fun (_ : Unit) =>
  joinK (fun (_ : Unit) =>
  some true) fun j103 =>
  f61_l3 n a0 j103 n 0) fun j69 =>
  f61_l2 n a0 j69 n 0) fun j35 =>
  f61_l1 n a0 j35 n 0)) fun j15 =>
  if decide (a0.Limit < (1 : Int)) then (
  j13 ())
  else (
  if decide (a0.Limit > (256 : Int)) then (
  j13 ())
  else (
  if decide ((a0.Last.length : Int) > a0.Limit) then (
  j13 ())
  else (
  (f100 n a0.Frames).bind fun y19 =>
  j15 (!y19))))
set_option maxHeartbeats 4000000 in
set_option maxRecDepth 100000 in
theorem g61 {n : Nat} {a0 : Recorder} {r : Bool} (h : f61 n a0 = some r) :
    Ab.Can Try.prog 61 [.agg [.int .i64 a0.Limit, .sl 97 .ro (a0.Last.map pv97), .int .i64 (a0.Counts 0), .int .i64 (a0.Counts 1), .int .i64 (a0.Counts 2), .int .i64 (a0.Counts 3), .int .i64 (a0.Counts 4), .int .i64 a0.Frames, .int .i64 (a0.Buckets 0), .int .i64 (a0.Buckets 1), .int .i64 (a0.Buckets 2), .int .i64 (a0.Buckets 3), .int .i64 (a0.Buckets 4), .int .i64 (a0.Buckets 5), .int .i64 (a0.Buckets 6), .int .i64 (a0.Buckets 7), .int .i64 (a0.Buckets 8), .int .i64 (a0.Buckets 9), .int .i64 (a0.Buckets 10), .int .i64 (a0.Buckets 11), .int .i64 (a0.Buckets 12), .int .i64 (a0.Buckets 13), .int .i64 (a0.Buckets 14), .int .i64 (a0.Buckets 15), .int .i64 (a0.Buckets 16), .int .i64 (a0.Buckets 17), .int .i64 (a0.Buckets 18), .int .i64 (a0.Buckets 19), .int .i64 (a0.Buckets 20), .int .i64 (a0.Buckets 21), .int .i64 (a0.Buckets 22), .int .i64 (a0.Buckets 23)]] H0 (.bool r) H0 := by
  refine can_of tabOK mix Try.call61 Try.func61 rfl (by kernel_rfl) (by show _ ≤ 62; simp) fun _ => ?_
  rw [f61] at h
  refine .seq ?_
  refine .region ?_
  refine .boxL (cs := [.int .i64 a0.Limit, .sl 97 .ro (a0.Last.map pv97), .int .i64 (a0.Counts 0), .int .i64 (a0.Counts 1), .int .i64 (a0.Counts 2), .int .i64 (a0.Counts 3), .int .i64 (a0.Counts 4), .int .i64 a0.Frames, .int .i64 (a0.Buckets 0), .int .i64 (a0.Buckets 1), .int .i64 (a0.Buckets 2), .int .i64 (a0.Buckets 3), .int .i64 (a0.Buckets 4), .int .i64 (a0.Buckets 5), .int .i64 (a0.Buckets 6), .int .i64 (a0.Buckets 7), .int .i64 (a0.Buckets 8), .int .i64 (a0.Buckets 9), .int .i64 (a0.Buckets 10), .int .i64 (a0.Buckets 11), .int .i64 (a0.Buckets 12), .int .i64 (a0.Buckets 13), .int .i64 (a0.Buckets 14), .int .i64 (a0.Buckets 15), .int .i64 (a0.Buckets 16), .int .i64 (a0.Buckets 17), .int .i64 (a0.Buckets 18), .int .i64 (a0.Buckets 19), .int .i64 (a0.Buckets 20), .int .i64 (a0.Buckets 21), .int .i64 (a0.Buckets 22), .int .i64 (a0.Buckets 23)]) ?_
  refine .assign ?_
  refine .nil ?_
  refine .seq ?_
  obtain ⟨j13, hj13, h⟩ := joinE h
  obtain ⟨j15, hj15, h⟩ := joinE h
  refine .cutI (fun T => (T = St.of [(1, .ptr (.loc 0 0) 0), (27, .bool true)] [((.loc 0 0), [.int .i64 a0.Limit, .sl 97 .ro (a0.Last.map pv97), .int .i64 (a0.Counts 0), .int .i64 (a0.Counts 1), .int .i64 (a0.Counts 2), .int .i64 (a0.Counts 3), .int .i64 (a0.Counts 4), .int .i64 a0.Frames, .int .i64 (a0.Buckets 0), .int .i64 (a0.Buckets 1), .int .i64 (a0.Buckets 2), .int .i64 (a0.Buckets 3), .int .i64 (a0.Buckets 4), .int .i64 (a0.Buckets 5), .int .i64 (a0.Buckets 6), .int .i64 (a0.Buckets 7), .int .i64 (a0.Buckets 8), .int .i64 (a0.Buckets 9), .int .i64 (a0.Buckets 10), .int .i64 (a0.Buckets 11), .int .i64 (a0.Buckets 12), .int .i64 (a0.Buckets 13), .int .i64 (a0.Buckets 14), .int .i64 (a0.Buckets 15), .int .i64 (a0.Buckets 16), .int .i64 (a0.Buckets 17), .int .i64 (a0.Buckets 18), .int .i64 (a0.Buckets 19), .int .i64 (a0.Buckets 20), .int .i64 (a0.Buckets 21), .int .i64 (a0.Buckets 22), .int .i64 (a0.Buckets 23)])] ∧ j13 () = some r) ∨ (∃ (v14 : Bool), T = St.of [(1, .ptr (.loc 0 0) 0), (27, .bool v14)] [((.loc 0 0), [.int .i64 a0.Limit, .sl 97 .ro (a0.Last.map pv97), .int .i64 (a0.Counts 0), .int .i64 (a0.Counts 1), .int .i64 (a0.Counts 2), .int .i64 (a0.Counts 3), .int .i64 (a0.Counts 4), .int .i64 a0.Frames, .int .i64 (a0.Buckets 0), .int .i64 (a0.Buckets 1), .int .i64 (a0.Buckets 2), .int .i64 (a0.Buckets 3), .int .i64 (a0.Buckets 4), .int .i64 (a0.Buckets 5), .int .i64 (a0.Buckets 6), .int .i64 (a0.Buckets 7), .int .i64 (a0.Buckets 8), .int .i64 (a0.Buckets 9), .int .i64 (a0.Buckets 10), .int .i64 (a0.Buckets 11), .int .i64 (a0.Buckets 12), .int .i64 (a0.Buckets 13), .int .i64 (a0.Buckets 14), .int .i64 (a0.Buckets 15), .int .i64 (a0.Buckets 16), .int .i64 (a0.Buckets 17), .int .i64 (a0.Buckets 18), .int .i64 (a0.Buckets 19), .int .i64 (a0.Buckets 20), .int .i64 (a0.Buckets 21), .int .i64 (a0.Buckets 22), .int .i64 (a0.Buckets 23)])] ∧ j15 v14 = some r)) ?_ ?_
  · refine .region ?_
    refine .val ?_
    refine .val ?_
    refine .val ?_
    refine .move ?_
    refine .caseG (fun hc16 => ?_) (fun hc16 => ?_)
    · replace h := (if_pos hc16).symm.trans h
      refine .skip ?_
      refine .skip ?_
      refine .skip ?_
      refine .brT ?_
      refine .move ?_
      refine .skip ?_
      refine .skip ?_
      refine .skip ?_
      refine .skip ?_
      refine .skip ?_
      refine .skip ?_
      refine .brT ?_
      refine .move ?_
      refine .skip ?_
      refine .skip ?_
      refine .skip ?_
      refine .skip ?_
      refine .brT ?_
      refine .nil ?_
      exact ⟨_, (.inl ⟨rfl, h⟩), (imp_of (.cons rfl (.cons rfl (.nil))) (.cons rfl (.nil)))⟩
    · replace h := (if_neg (nt hc16)).symm.trans h
      refine .val ?_
      refine .val ?_
      refine .val ?_
      refine .brF ?_
      refine .move ?_
      refine .caseG (fun hc17 => ?_) (fun hc17 => ?_)
      · replace h := (if_pos hc17).symm.trans h
        refine .skip ?_
        refine .skip ?_
        refine .skip ?_
        refine .skip ?_
        refine .skip ?_
        refine .skip ?_
        refine .brT ?_
        refine .move ?_
        refine .skip ?_
        refine .skip ?_
        refine .skip ?_
        refine .skip ?_
        refine .brT ?_
        refine .nil ?_
        exact ⟨_, (.inl ⟨rfl, h⟩), (imp_of (.cons rfl (.cons rfl (.nil))) (.cons rfl (.nil)))⟩
      · replace h := (if_neg (nt hc17)).symm.trans h
        refine .val ?_
        refine .val ?_
        refine .lenL (f := pv97) ?_
        refine .val ?_
        refine .val ?_
        refine .val ?_
        refine .brF ?_
        refine .move ?_
        refine .caseG (fun hc18 => ?_) (fun hc18 => ?_)
        · replace h := (if_pos hc18).symm.trans h
          refine .skip ?_
          refine .skip ?_
          refine .skip ?_
          refine .skip ?_
          refine .brT ?_
          refine .nil ?_
          exact ⟨_, (.inl ⟨rfl, h⟩), (imp_of (.cons rfl (.cons rfl (.nil))) (.cons rfl (.nil)))⟩
        · replace h := (if_neg (nt hc18)).symm.trans h
          refine .val ?_
          refine .val ?_
          obtain ⟨y19, hy19, h⟩ := bindE h
          refine .cP (g100 hy19) ?_
          refine .val ?_
          refine .brF ?_
          refine .nil ?_
          exact ⟨_, (.inr (⟨_, rfl, h⟩)), (imp_of (.cons rfl (.cons rfl (.nil))) (.cons rfl (.nil)))⟩
  · rintro T (⟨rfl, h⟩ | ⟨v14, rfl, h⟩)
    · subst hj13
      refine .condT ?_
      refine .seq ?_
      refine .region ?_
      refine .assign ?_
      refine .nil ?_
      cases h
      exact .ret (fin_gen0 none)
    · subst hj15
      refine .cond (fun hc20 => ?_) (fun hc20 => ?_)
      · replace h := (if_pos hc20).symm.trans h
        refine .seq ?_
        refine .region ?_
        refine .assign ?_
        refine .nil ?_
        cases h
        exact .ret (fin_gen0 none)
      · replace h := (if_neg (nt hc20)).symm.trans h
        refine .skip ?_
        obtain ⟨j35, hj35, h⟩ := joinE h
        refine .cutI (fun T => (T = St.of [(1, .ptr (.loc 0 0) 0)] [((.loc 0 0), [.int .i64 a0.Limit, .sl 97 .ro (a0.Last.map pv97), .int .i64 (a0.Counts 0), .int .i64 (a0.Counts 1), .int .i64 (a0.Counts 2), .int .i64 (a0.Counts 3), .int .i64 (a0.Counts 4), .int .i64 a0.Frames, .int .i64 (a0.Buckets 0), .int .i64 (a0.Buckets 1), .int .i64 (a0.Buckets 2), .int .i64 (a0.Buckets 3), .int .i64 (a0.Buckets 4), .int .i64 (a0.Buckets 5), .int .i64 (a0.Buckets 6), .int .i64 (a0.Buckets 7), .int .i64 (a0.Buckets 8), .int .i64 (a0.Buckets 9), .int .i64 (a0.Buckets 10), .int .i64 (a0.Buckets 11), .int .i64 (a0.Buckets 12), .int .i64 (a0.Buckets 13), .int .i64 (a0.Buckets 14), .int .i64 (a0.Buckets 15), .int .i64 (a0.Buckets 16), .int .i64 (a0.Buckets 17), .int .i64 (a0.Buckets 18), .int .i64 (a0.Buckets 19), .int .i64 (a0.Buckets 20), .int .i64 (a0.Buckets 21), .int .i64 (a0.Buckets 22), .int .i64 (a0.Buckets 23)])] ∧ j35 () = some r)) ?_ ?_
        · refine .seq ?_
          refine .region ?_
          refine .assign ?_
          refine .nil ?_
          refine .block ?_
          refine .loopI (fun m T => ∃ (v40 : Int), T = St.of [(1, .ptr (.loc 0 0) 0), (3, .int .i64 v40)] [((.loc 0 0), [.int .i64 a0.Limit, .sl 97 .ro (a0.Last.map pv97), .int .i64 (a0.Counts 0), .int .i64 (a0.Counts 1), .int .i64 (a0.Counts 2), .int .i64 (a0.Counts 3), .int .i64 (a0.Counts 4), .int .i64 a0.Frames, .int .i64 (a0.Buckets 0), .int .i64 (a0.Buckets 1), .int .i64 (a0.Buckets 2), .int .i64 (a0.Buckets 3), .int .i64 (a0.Buckets 4), .int .i64 (a0.Buckets 5), .int .i64 (a0.Buckets 6), .int .i64 (a0.Buckets 7), .int .i64 (a0.Buckets 8), .int .i64 (a0.Buckets 9), .int .i64 (a0.Buckets 10), .int .i64 (a0.Buckets 11), .int .i64 (a0.Buckets 12), .int .i64 (a0.Buckets 13), .int .i64 (a0.Buckets 14), .int .i64 (a0.Buckets 15), .int .i64 (a0.Buckets 16), .int .i64 (a0.Buckets 17), .int .i64 (a0.Buckets 18), .int .i64 (a0.Buckets 19), .int .i64 (a0.Buckets 20), .int .i64 (a0.Buckets 21), .int .i64 (a0.Buckets 22), .int .i64 (a0.Buckets 23)])] ∧ f61_l1 n a0 j35 m v40 = some r) _ _ ⟨_, rfl, h⟩ (imp_of (.cons rfl (.cons rfl (.nil))) (.cons rfl (.nil))) ?_
          rintro m46 T ⟨v40, rfl, h⟩
          obtain _ | m46 := m46
          · rw [f61_l1] at h; cases h
          rw [f61_l1] at h
          refine .seq ?_
          refine .seq ?_
          refine .region ?_
          refine .move ?_
          refine .val ?_
          refine .val ?_
          refine .lenL (f := pv97) ?_
          refine .val ?_
          refine .nil ?_
          refine .cond (fun hc48 => ?_) (fun hc48 => ?_)
          · replace h := (if_pos hc48).symm.trans h
            refine .skip ?_
            refine .seq ?_
            refine .block ?_
            refine .seq ?_
            refine .region ?_
            refine .val ?_
            refine .val ?_
            refine .move ?_
            obtain ⟨x52, hx52, h⟩ := bindE h
            refine .idxL (f := pv97) hx52 ?_
            refine .ldL hx52 (y := .agg [.int .i64 x52.Kind, .int .i64 x52.At, .int .i64 x52.Quanta, .int .i64 x52.Stream, .int .u64 x52.Device, .int .i64 x52.Frames]) ?_
            obtain ⟨y53, hy53, h⟩ := bindE h
            refine .cP (g101 hy53) ?_
            refine .val ?_
            refine .nil ?_
            refine .cond (fun hc54 => ?_) (fun hc54 => ?_)
            · replace h := (if_pos hc54).symm.trans h
              refine .seq ?_
              refine .region ?_
              refine .assign ?_
              refine .nil ?_
              cases h
              exact .ret (fin_gen0 none)
            · replace h := (if_neg (nt hc54)).symm.trans h
              refine .skip ?_
              refine .region ?_
              refine .move ?_
              refine .val ?_
              refine .assign ?_
              refine .nil ?_
              exact ⟨m46, _, Nat.lt_succ_self m46, ⟨_, rfl, h⟩, (imp_of (.cons rfl (.cons rfl (.nil))) (.cons rfl (.nil)))⟩
          · replace h := (if_neg (nt hc48)).symm.trans h
            refine .exit (.hit ?_)
            exact ⟨_, ⟨rfl, h⟩, (imp_of (.cons rfl (.nil)) (.cons rfl (.nil)))⟩
        · rintro T ⟨rfl, h⟩
          subst hj35
          obtain ⟨j69, hj69, h⟩ := joinE h
          refine .cutI (fun T => (T = St.of [(1, .ptr (.loc 0 0) 0)] [((.loc 0 0), [.int .i64 a0.Limit, .sl 97 .ro (a0.Last.map pv97), .int .i64 (a0.Counts 0), .int .i64 (a0.Counts 1), .int .i64 (a0.Counts 2), .int .i64 (a0.Counts 3), .int .i64 (a0.Counts 4), .int .i64 a0.Frames, .int .i64 (a0.Buckets 0), .int .i64 (a0.Buckets 1), .int .i64 (a0.Buckets 2), .int .i64 (a0.Buckets 3), .int .i64 (a0.Buckets 4), .int .i64 (a0.Buckets 5), .int .i64 (a0.Buckets 6), .int .i64 (a0.Buckets 7), .int .i64 (a0.Buckets 8), .int .i64 (a0.Buckets 9), .int .i64 (a0.Buckets 10), .int .i64 (a0.Buckets 11), .int .i64 (a0.Buckets 12), .int .i64 (a0.Buckets 13), .int .i64 (a0.Buckets 14), .int .i64 (a0.Buckets 15), .int .i64 (a0.Buckets 16), .int .i64 (a0.Buckets 17), .int .i64 (a0.Buckets 18), .int .i64 (a0.Buckets 19), .int .i64 (a0.Buckets 20), .int .i64 (a0.Buckets 21), .int .i64 (a0.Buckets 22), .int .i64 (a0.Buckets 23)])] ∧ j69 () = some r)) ?_ ?_
          · refine .seq ?_
            refine .region ?_
            refine .assign ?_
            refine .nil ?_
            refine .block ?_
            refine .loopI (fun m T => ∃ (v74 : Int), T = St.of [(1, .ptr (.loc 0 0) 0), (4, .int .i64 v74)] [((.loc 0 0), [.int .i64 a0.Limit, .sl 97 .ro (a0.Last.map pv97), .int .i64 (a0.Counts 0), .int .i64 (a0.Counts 1), .int .i64 (a0.Counts 2), .int .i64 (a0.Counts 3), .int .i64 (a0.Counts 4), .int .i64 a0.Frames, .int .i64 (a0.Buckets 0), .int .i64 (a0.Buckets 1), .int .i64 (a0.Buckets 2), .int .i64 (a0.Buckets 3), .int .i64 (a0.Buckets 4), .int .i64 (a0.Buckets 5), .int .i64 (a0.Buckets 6), .int .i64 (a0.Buckets 7), .int .i64 (a0.Buckets 8), .int .i64 (a0.Buckets 9), .int .i64 (a0.Buckets 10), .int .i64 (a0.Buckets 11), .int .i64 (a0.Buckets 12), .int .i64 (a0.Buckets 13), .int .i64 (a0.Buckets 14), .int .i64 (a0.Buckets 15), .int .i64 (a0.Buckets 16), .int .i64 (a0.Buckets 17), .int .i64 (a0.Buckets 18), .int .i64 (a0.Buckets 19), .int .i64 (a0.Buckets 20), .int .i64 (a0.Buckets 21), .int .i64 (a0.Buckets 22), .int .i64 (a0.Buckets 23)])] ∧ f61_l2 n a0 j69 m v74 = some r) _ _ ⟨_, rfl, h⟩ (imp_of (.cons rfl (.cons rfl (.nil))) (.cons rfl (.nil))) ?_
            rintro m80 T ⟨v74, rfl, h⟩
            obtain _ | m80 := m80
            · rw [f61_l2] at h; cases h
            rw [f61_l2] at h
            refine .seq ?_
            refine .seq ?_
            refine .region ?_
            refine .move ?_
            refine .val ?_
            refine .nil ?_
            refine .cond (fun hc82 => ?_) (fun hc82 => ?_)
            · replace h := (if_pos hc82).symm.trans h
              refine .skip ?_
              refine .seq ?_
              refine .block ?_
              refine .seq ?_
              refine .region ?_
              refine .move ?_
              refine .val ?_
              obtain ⟨x86, hx86, h⟩ := bindE h
              refine .idxA hx86 ?_
              refine .ldA hx86 (A := a0.Counts) ?_
              obtain ⟨y87, hy87, h⟩ := bindE h
              refine .cP (g100 hy87) ?_
              refine .val ?_
              refine .nil ?_
              refine .cond (fun hc88 => ?_) (fun hc88 => ?_)
              · replace h := (if_pos hc88).symm.trans h
                refine .seq ?_
                refine .region ?_
                refine .assign ?_
                refine .nil ?_
                cases h
                exact .ret (fin_gen0 none)
              · replace h := (if_neg (nt hc88)).symm.trans h
                refine .skip ?_
                refine .region ?_
                refine .move ?_
                refine .val ?_
                refine .assign ?_
                refine .nil ?_
                exact ⟨m80, _, Nat.lt_succ_self m80, ⟨_, rfl, h⟩, (imp_of (.cons rfl (.cons rfl (.nil))) (.cons rfl (.nil)))⟩
            · replace h := (if_neg (nt hc82)).symm.trans h
              refine .exit (.hit ?_)
              exact ⟨_, ⟨rfl, h⟩, (imp_of (.cons rfl (.nil)) (.cons rfl (.nil)))⟩
          · rintro T ⟨rfl, h⟩
            subst hj69
            obtain ⟨j103, hj103, h⟩ := joinE h
            refine .cutI (fun T => (T = St.of [] [] ∧ j103 () = some r)) ?_ ?_
            · refine .seq ?_
              refine .region ?_
              refine .assign ?_
              refine .nil ?_
              refine .block ?_
              refine .loopI (fun m T => ∃ (v108 : Int), T = St.of [(1, .ptr (.loc 0 0) 0), (5, .int .i64 v108)] [((.loc 0 0), [.int .i64 a0.Limit, .sl 97 .ro (a0.Last.map pv97), .int .i64 (a0.Counts 0), .int .i64 (a0.Counts 1), .int .i64 (a0.Counts 2), .int .i64 (a0.Counts 3), .int .i64 (a0.Counts 4), .int .i64 a0.Frames, .int .i64 (a0.Buckets 0), .int .i64 (a0.Buckets 1), .int .i64 (a0.Buckets 2), .int .i64 (a0.Buckets 3), .int .i64 (a0.Buckets 4), .int .i64 (a0.Buckets 5), .int .i64 (a0.Buckets 6), .int .i64 (a0.Buckets 7), .int .i64 (a0.Buckets 8), .int .i64 (a0.Buckets 9), .int .i64 (a0.Buckets 10), .int .i64 (a0.Buckets 11), .int .i64 (a0.Buckets 12), .int .i64 (a0.Buckets 13), .int .i64 (a0.Buckets 14), .int .i64 (a0.Buckets 15), .int .i64 (a0.Buckets 16), .int .i64 (a0.Buckets 17), .int .i64 (a0.Buckets 18), .int .i64 (a0.Buckets 19), .int .i64 (a0.Buckets 20), .int .i64 (a0.Buckets 21), .int .i64 (a0.Buckets 22), .int .i64 (a0.Buckets 23)])] ∧ f61_l3 n a0 j103 m v108 = some r) _ _ ⟨_, rfl, h⟩ (imp_of (.cons rfl (.cons rfl (.nil))) (.cons rfl (.nil))) ?_
              rintro m114 T ⟨v108, rfl, h⟩
              obtain _ | m114 := m114
              · rw [f61_l3] at h; cases h
              rw [f61_l3] at h
              refine .seq ?_
              refine .seq ?_
              refine .region ?_
              refine .move ?_
              refine .val ?_
              refine .nil ?_
              refine .cond (fun hc116 => ?_) (fun hc116 => ?_)
              · replace h := (if_pos hc116).symm.trans h
                refine .skip ?_
                refine .seq ?_
                refine .block ?_
                refine .seq ?_
                refine .region ?_
                refine .move ?_
                refine .val ?_
                obtain ⟨x120, hx120, h⟩ := bindE h
                refine .idxA hx120 ?_
                refine .ldA hx120 (A := a0.Buckets) ?_
                obtain ⟨y121, hy121, h⟩ := bindE h
                refine .cP (g100 hy121) ?_
                refine .val ?_
                refine .nil ?_
                refine .cond (fun hc122 => ?_) (fun hc122 => ?_)
                · replace h := (if_pos hc122).symm.trans h
                  refine .seq ?_
                  refine .region ?_
                  refine .assign ?_
                  refine .nil ?_
                  cases h
                  exact .ret (fin_gen0 none)
                · replace h := (if_neg (nt hc122)).symm.trans h
                  refine .skip ?_
                  refine .region ?_
                  refine .move ?_
                  refine .val ?_
                  refine .assign ?_
                  refine .nil ?_
                  exact ⟨m114, _, Nat.lt_succ_self m114, ⟨_, rfl, h⟩, (imp_of (.cons rfl (.cons rfl (.nil))) (.cons rfl (.nil)))⟩
              · replace h := (if_neg (nt hc116)).symm.trans h
                refine .exit (.hit ?_)
                exact ⟨_, ⟨rfl, h⟩, (imp_of (.nil) (.nil))⟩
            · rintro T ⟨rfl, h⟩
              subst hj103
              refine .seq ?_
              refine .region ?_
              refine .assign ?_
              refine .nil ?_
              cases h
              exact .ret (fin_gen0 none)

/- soundservice/recorder.Between -/
def f53_l1 (n : Nat) (a0 : Recorder) (a1 : Int) (a2 : Int) (j45 : (List Glitch) → Option (List Glitch)) : Nat → (List Glitch) → Int → Option (List Glitch)
  | 0, _, _ => none
  | m74 + 1, v58, v60 =>
    if decide (v60 < (a0.Last.length : Int)) then (
    joinK (fun (v83 : (List Glitch)) =>
    f53_l1 n a0 a1 a2 j45 m74 v83 (w64 (v60 + (1 : Int)))) fun j85 =>
    (lAt a0.Last v60).bind fun x86 =>
    joinK (fun (_ : Unit) =>
    if decide ((w64 ((w64 (x86.At + x86.Quanta)) - (1 : Int))) ≥ a1) then (
    (lApp v58 ([(⟨x86.Kind, x86.At, x86.Quanta, x86.Stream, x86.Device, x86.Frames⟩ : Glitch)] : List Glitch)).bind fun x92 =>
    j85 x92)
    else (
    j85 v58)) fun j88 =>
    joinK (fun (_ : Unit) =>
    j85 v58) fun j89 =>
    if decide (x86.At ≤ a2) then (
    j88 ())
    else (
    j89 ()))
    else (
    j45 v58)
def f53 (n : Nat) (a0 : Recorder) (a1 : Int) (a2 : Int) : Option (List Glitch) :=
  (f60 n (⟨a0.Limit, a0.Last, a0.Counts, a0.Frames, a0.Buckets⟩ : Recorder)).bind fun y3 =>
  if !y3 then (
  some ([] : List Glitch))
  else (
  joinK (fun (v43 : (List Glitch)) =>
  some v43) fun j45 =>
  f53_l1 n a0 a1 a2 j45 n ([] : List Glitch) 0)
set_option maxHeartbeats 4000000 in
set_option maxRecDepth 100000 in
theorem g53 {n : Nat} {a0 : Recorder} {a1 : Int} {a2 : Int} {r : (List Glitch)} (h : f53 n a0 a1 a2 = some r) :
    Ab.Can Try.prog 53 [.agg [.int .i64 a0.Limit, .sl 97 .ro (a0.Last.map pv97), .int .i64 (a0.Counts 0), .int .i64 (a0.Counts 1), .int .i64 (a0.Counts 2), .int .i64 (a0.Counts 3), .int .i64 (a0.Counts 4), .int .i64 a0.Frames, .int .i64 (a0.Buckets 0), .int .i64 (a0.Buckets 1), .int .i64 (a0.Buckets 2), .int .i64 (a0.Buckets 3), .int .i64 (a0.Buckets 4), .int .i64 (a0.Buckets 5), .int .i64 (a0.Buckets 6), .int .i64 (a0.Buckets 7), .int .i64 (a0.Buckets 8), .int .i64 (a0.Buckets 9), .int .i64 (a0.Buckets 10), .int .i64 (a0.Buckets 11), .int .i64 (a0.Buckets 12), .int .i64 (a0.Buckets 13), .int .i64 (a0.Buckets 14), .int .i64 (a0.Buckets 15), .int .i64 (a0.Buckets 16), .int .i64 (a0.Buckets 17), .int .i64 (a0.Buckets 18), .int .i64 (a0.Buckets 19), .int .i64 (a0.Buckets 20), .int .i64 (a0.Buckets 21), .int .i64 (a0.Buckets 22), .int .i64 (a0.Buckets 23)], .int .i64 a1, .int .i64 a2] H0 (.sl 97 (.own (.rrow 0)) (r.map pv97)) H0 := by
  refine can_of tabOK mix Try.call53 Try.func53 rfl (by kernel_rfl) (by show _ ≤ 40; simp) fun _ => ?_
  rw [f53] at h
  refine .seq ?_
  refine .region ?_
  refine .boxL (cs := [.int .i64 a0.Limit, .sl 97 .ro (a0.Last.map pv97), .int .i64 (a0.Counts 0), .int .i64 (a0.Counts 1), .int .i64 (a0.Counts 2), .int .i64 (a0.Counts 3), .int .i64 (a0.Counts 4), .int .i64 a0.Frames, .int .i64 (a0.Buckets 0), .int .i64 (a0.Buckets 1), .int .i64 (a0.Buckets 2), .int .i64 (a0.Buckets 3), .int .i64 (a0.Buckets 4), .int .i64 (a0.Buckets 5), .int .i64 (a0.Buckets 6), .int .i64 (a0.Buckets 7), .int .i64 (a0.Buckets 8), .int .i64 (a0.Buckets 9), .int .i64 (a0.Buckets 10), .int .i64 (a0.Buckets 11), .int .i64 (a0.Buckets 12), .int .i64 (a0.Buckets 13), .int .i64 (a0.Buckets 14), .int .i64 (a0.Buckets 15), .int .i64 (a0.Buckets 16), .int .i64 (a0.Buckets 17), .int .i64 (a0.Buckets 18), .int .i64 (a0.Buckets 19), .int .i64 (a0.Buckets 20), .int .i64 (a0.Buckets 21), .int .i64 (a0.Buckets 22), .int .i64 (a0.Buckets 23)]) ?_
  refine .assign ?_
  refine .nil ?_
  refine .seq ?_
  refine .seq ?_
  refine .region ?_
  refine .val (v := .agg [.int .i64 a0.Limit, .sl 97 .ro (a0.Last.map pv97), .int .i64 (a0.Counts 0), .int .i64 (a0.Counts 1), .int .i64 (a0.Counts 2), .int .i64 (a0.Counts 3), .int .i64 (a0.Counts 4), .int .i64 a0.Frames, .int .i64 (a0.Buckets 0), .int .i64 (a0.Buckets 1), .int .i64 (a0.Buckets 2), .int .i64 (a0.Buckets 3), .int .i64 (a0.Buckets 4), .int .i64 (a0.Buckets 5), .int .i64 (a0.Buckets 6), .int .i64 (a0.Buckets 7), .int .i64 (a0.Buckets 8), .int .i64 (a0.Buckets 9), .int .i64 (a0.Buckets 10), .int .i64 (a0.Buckets 11), .int .i64 (a0.Buckets 12), .int .i64 (a0.Buckets 13), .int .i64 (a0.Buckets 14), .int .i64 (a0.Buckets 15), .int .i64 (a0.Buckets 16), .int .i64 (a0.Buckets 17), .int .i64 (a0.Buckets 18), .int .i64 (a0.Buckets 19), .int .i64 (a0.Buckets 20), .int .i64 (a0.Buckets 21), .int .i64 (a0.Buckets 22), .int .i64 (a0.Buckets 23)]) ?_
  obtain ⟨y3, hy3, h⟩ := bindE h
  refine .cP (g60 hy3) ?_
  refine .val ?_
  refine .nil ?_
  refine .cond (fun hc4 => ?_) (fun hc4 => ?_)
  · replace h := (if_pos hc4).symm.trans h
    refine .seq ?_
    refine .region ?_
    refine .assign ?_
    refine .nil ?_
    cases h
    refine .imp (Imp.slot 6 (v := .sl 97 (.own (.row 0 0)) (([] : List Glitch).map pv97)) (.own _ (.row 0 0)) rfl) ?_
    exact .ret (fin_gen0 (some (.row 0 0)))
  · replace h := (if_neg (nt hc4)).symm.trans h
    refine .skip ?_
    refine .seq ?_
    refine .region ?_
    refine .assign ?_
    refine .nil ?_
    obtain ⟨j45, hj45, h⟩ := joinE h
    refine .cutI (fun T => (∃ (v43 : (List Glitch)), T = St.of [(7, .sl 97 (.own (.row 9044 0)) (v43.map pv97))] [] ∧ j45 v43 = some r)) ?_ ?_
    · refine .seq ?_
      refine .region ?_
      refine .val ?_
      refine .val ?_
      refine .lenL (f := pv97) ?_
      refine .move ?_
      refine .nil ?_
      refine .block ?_
      refine .loopI (fun m T => ∃ (v58 : (List Glitch)) (v60 : Int), T = St.of [(1, .int .i64 a1), (2, .int .i64 a2), (7, .sl 97 (.own (.row 9059 0)) (v58.map pv97)), (14, .sl 97 .ro (a0.Last.map pv97)), (15, .int .i64 (a0.Last.length : Int)), (16, .int .i64 v60)] [] ∧ f53_l1 n a0 a1 a2 j45 m v58 v60 = some r) _ _ ⟨_, _, rfl, h⟩ (imp_of (.cons rfl (.cons rfl (.wk (.own _ _) rfl (.cons rfl (.cons rfl (.cons rfl (.nil))))))) (.nil)) ?_
      rintro m74 T ⟨v58, v60, rfl, h⟩
      obtain _ | m74 := m74
      · rw [f53_l1] at h; cases h
      rw [f53_l1] at h
      refine .seq ?_
      refine .region ?_
      refine .val ?_
      refine .nil ?_
      refine .seq ?_
      refine .cond (fun hc76 => ?_) (fun hc76 => ?_)
      · replace h := (if_pos hc76).symm.trans h
        refine .skip ?_
        obtain ⟨j85, hj85, h⟩ := joinE h
        refine .cutI (fun T => (∃ (v83 : (List Glitch)), T = St.of [(1, .int .i64 a1), (2, .int .i64 a2), (7, .sl 97 (.own (.row 9084 0)) (v83.map pv97)), (14, .sl 97 .ro (a0.Last.map pv97)), (15, .int .i64 (a0.Last.length : Int)), (16, .int .i64 v60)] [] ∧ j85 v83 = some r)) ?_ ?_
        · refine .block ?_
          refine .seq ?_
          refine .region ?_
          obtain ⟨x86, hx86, h⟩ := bindE h
          refine .idxL (f := pv97) hx86 ?_
          refine .ldL hx86 (y := .agg [.int .i64 x86.Kind, .int .i64 x86.At, .int .i64 x86.Quanta, .int .i64 x86.Stream, .int .u64 x86.Device, .int .i64 x86.Frames]) ?_
          refine .allocL (cs := [.int .i64 0, .int .i64 0, .int .i64 0, .int .i64 0, .int .u64 0, .int .i64 0]) ?_
          refine .wrL (cs := [.int .i64 x86.Kind, .int .i64 x86.At, .int .i64 x86.Quanta, .int .i64 x86.Stream, .int .u64 x86.Device, .int .i64 x86.Frames]) ?_
          refine .nil ?_
          obtain ⟨j88, hj88, h⟩ := joinE h
          obtain ⟨j89, hj89, h⟩ := joinE h
          refine .cutI (fun T => (T = St.of [(1, .int .i64 a1), (2, .int .i64 a2), (7, .sl 97 (.own (.row 9059 0)) (v58.map pv97)), (9, .ptr (.loc 6 2) 0), (14, .sl 97 .ro (a0.Last.map pv97)), (15, .int .i64 (a0.Last.length : Int)), (16, .int .i64 v60), (33, .bool (decide ((w64 ((w64 (x86.At + x86.Quanta)) - (1 : Int))) ≥ a1)))] [((.loc 6 2), [.int .i64 x86.Kind, .int .i64 x86.At, .int .i64 x86.Quanta, .int .i64 x86.Stream, .int .u64 x86.Device, .int .i64 x86.Frames])] ∧ j88 () = some r) ∨ (T = St.of [(1, .int .i64 a1), (2, .int .i64 a2), (7, .sl 97 (.own (.row 9059 0)) (v58.map pv97)), (9, .ptr (.loc 6 2) 0), (14, .sl 97 .ro (a0.Last.map pv97)), (15, .int .i64 (a0.Last.length : Int)), (16, .int .i64 v60), (33, .bool false)] [((.loc 6 2), [.int .i64 x86.Kind, .int .i64 x86.At, .int .i64 x86.Quanta, .int .i64 x86.Stream, .int .u64 x86.Device, .int .i64 x86.Frames])] ∧ j89 () = some r)) ?_ ?_
          · refine .region ?_
            refine .val ?_
            refine .val ?_
            refine .move ?_
            refine .val ?_
            refine .move ?_
            refine .caseG (fun hc90 => ?_) (fun hc90 => ?_)
            · replace h := (if_pos hc90).symm.trans h
              refine .val ?_
              refine .val ?_
              refine .val ?_
              refine .val ?_
              refine .val ?_
              refine .val ?_
              refine .move ?_
              refine .val ?_
              refine .brT ?_
              refine .nil ?_
              exact ⟨_, (.inl ⟨rfl, h⟩), (imp_of (.cons rfl (.cons rfl (.cons rfl (.cons rfl (.cons rfl (.cons rfl (.cons rfl (.cons rfl (.nil))))))))) (.cons rfl (.nil)))⟩
            · replace h := (if_neg (nt hc90)).symm.trans h
              refine .skip ?_
              refine .skip ?_
              refine .skip ?_
              refine .skip ?_
              refine .skip ?_
              refine .skip ?_
              refine .skip ?_
              refine .skip ?_
              refine .brF ?_
              refine .nil ?_
              exact ⟨_, (.inr (⟨rfl, h⟩)), (imp_of (.cons rfl (.cons rfl (.cons rfl (.cons rfl (.cons rfl (.cons rfl (.cons rfl (.cons rfl (.nil))))))))) (.cons rfl (.nil)))⟩
          · rintro T (⟨rfl, h⟩ | ⟨rfl, h⟩)
            · subst hj88
              refine .cond (fun hc91 => ?_) (fun hc91 => ?_)
              · replace h := (if_pos hc91).symm.trans h
                refine .region ?_
                refine .move ?_
                refine .val (v := .agg [.int .i64 x86.Kind, .int .i64 x86.At, .int .i64 x86.Quanta, .int .i64 x86.Stream, .int .u64 x86.Device, .int .i64 x86.Frames]) ?_
                refine .litR (f := pv97) ([(⟨x86.Kind, x86.At, x86.Quanta, x86.Stream, x86.Device, x86.Frames⟩ : Glitch)] : List Glitch) ?_
                obtain ⟨x92, hx92, h⟩ := bindE h
                refine .appL (f := pv97) hx92 ?_
                refine .assign ?_
                refine .nil ?_
                exact ⟨_, ⟨_, rfl, h⟩, (Imp.trans (Imp.swap (.row 8 3) (.row 9084 0) rfl rfl rfl) (imp_of (.cons rfl (.cons rfl (.cons rfl (.cons rfl (.cons rfl (.cons rfl (.nil))))))) (.nil)))⟩
              · replace h := (if_neg (nt hc91)).symm.trans h
                refine .skip ?_
                exact ⟨_, ⟨_, rfl, h⟩, (Imp.trans (Imp.swap (.row 9059 0) (.row 9084 0) rfl rfl rfl) (imp_of (.cons rfl (.cons rfl (.cons rfl (.cons rfl (.cons rfl (.cons rfl (.nil))))))) (.nil)))⟩
            · subst hj89
              refine .condF ?_
              refine .skip ?_
              exact ⟨_, ⟨_, rfl, h⟩, (Imp.trans (Imp.swap (.row 9059 0) (.row 9084 0) rfl rfl rfl) (imp_of (.cons rfl (.cons rfl (.cons rfl (.cons rfl (.cons rfl (.cons rfl (.nil))))))) (.nil)))⟩
        · rintro T ⟨v83, rfl, h⟩
          subst hj85
          refine .region ?_
          refine .val ?_
          refine .move ?_
          refine .nil ?_
          exact ⟨m74, _, Nat.lt_succ_self m74, ⟨_, _, rfl, h⟩, (Imp.trans (Imp.swap (.row 9084 0) (.row 9059 0) rfl rfl rfl) (imp_of (.cons rfl (.cons rfl (.cons rfl (.cons rfl (.cons rfl (.cons rfl (.nil))))))) (.nil)))⟩
      · replace h := (if_neg (nt hc76)).symm.trans h
        refine .exit (.hit ?_)
        exact ⟨_, ⟨_, rfl, h⟩, (Imp.trans (Imp.swap (.row 9059 0) (.row 9044 0) rfl rfl rfl) (imp_of (.cons rfl (.nil)) (.nil)))⟩
    · rintro T ⟨v43, rfl, h⟩
      subst hj45
      refine .seq ?_
      refine .region ?_
      refine .move ?_
      refine .assign ?_
      refine .nil ?_
      cases h
      exact .ret (fin_gen0 (some (.row 9044 0)))
theorem g53r {n : Nat} {a0 : Recorder} {a1 : Int} {a2 : Int} {r : (List Glitch)} (h : f53 n a0 a1 a2 = some r) :
    Ab.Can Try.prog 53 [.agg [.int .i64 a0.Limit, .sl 97 .ro (a0.Last.map pv97), .int .i64 (a0.Counts 0), .int .i64 (a0.Counts 1), .int .i64 (a0.Counts 2), .int .i64 (a0.Counts 3), .int .i64 (a0.Counts 4), .int .i64 a0.Frames, .int .i64 (a0.Buckets 0), .int .i64 (a0.Buckets 1), .int .i64 (a0.Buckets 2), .int .i64 (a0.Buckets 3), .int .i64 (a0.Buckets 4), .int .i64 (a0.Buckets 5), .int .i64 (a0.Buckets 6), .int .i64 (a0.Buckets 7), .int .i64 (a0.Buckets 8), .int .i64 (a0.Buckets 9), .int .i64 (a0.Buckets 10), .int .i64 (a0.Buckets 11), .int .i64 (a0.Buckets 12), .int .i64 (a0.Buckets 13), .int .i64 (a0.Buckets 14), .int .i64 (a0.Buckets 15), .int .i64 (a0.Buckets 16), .int .i64 (a0.Buckets 17), .int .i64 (a0.Buckets 18), .int .i64 (a0.Buckets 19), .int .i64 (a0.Buckets 20), .int .i64 (a0.Buckets 21), .int .i64 (a0.Buckets 22), .int .i64 (a0.Buckets 23)], .int .i64 a1, .int .i64 a2] H0 (.sl 97 .ro (r.map pv97)) H0 := Can.frzR (hq := []) (g53 h)

/- soundservice/glitch.of -/
def f120 (_n : Nat) (a0 : Glitch) : Option Source :=
  some (⟨a0.Kind, a0.Stream, a0.Device⟩ : Source)
set_option maxHeartbeats 4000000 in
set_option maxRecDepth 100000 in
theorem g120 {n : Nat} {a0 : Glitch} {r : Source} (h : f120 n a0 = some r) :
    Ab.Can Try.prog 120 [.agg [.int .i64 a0.Kind, .int .i64 a0.At, .int .i64 a0.Quanta, .int .i64 a0.Stream, .int .u64 a0.Device, .int .i64 a0.Frames]] H0 (.agg [.int .i64 r.kind, .int .i64 r.stream, .int .u64 r.device]) H0 := by
  refine can_of tabOK mix Try.call120 Try.func120 rfl (by kernel_rfl) (by show _ ≤ 10; simp) fun _ => ?_
  rw [f120] at h
  refine .seq ?_
  refine .region ?_
  refine .boxL (cs := [.int .i64 a0.Kind, .int .i64 a0.At, .int .i64 a0.Quanta, .int .i64 a0.Stream, .int .u64 a0.Device, .int .i64 a0.Frames]) ?_
  refine .allocL (cs := [.int .i64 0, .int .i64 0, .int .u64 0]) ?_
  refine .nil ?_
  refine .seq ?_
  refine .region ?_
  refine .val ?_
  refine .val ?_
  refine .val ?_
  refine .val ?_
  refine .val ?_
  refine .val ?_
  refine .buildL (cs := [.int .i64 a0.Kind, .int .i64 a0.Stream, .int .u64 a0.Device]) ?_
  refine .wrL (cs := [.int .i64 a0.Kind, .int .i64 a0.Stream, .int .u64 a0.Device]) ?_
  refine .nil ?_
  cases h
  exact .ret (fin_gen0 none)

/- soundservice/glitch.Join -/
def f102 (n : Nat) (a0 : Glitch) (a1 : Glitch) : Option (Glitch × Bool) :=
  joinK (fun (_ : Unit) =>
  some ((⟨0, 0, 0, 0, 0, 0⟩ : Glitch), false)) fun j18 =>
  joinK (fun (_ : Unit) =>
  if (a1.At != (w64 (a0.At + a0.Quanta))) then (
  some ((⟨0, 0, 0, 0, 0, 0⟩ : Glitch), false))
  else (
  (f97 n (⟨a0.Kind, a0.At, w64 (a0.Quanta + a1.Quanta), a0.Stream, a0.Device, w64 (a0.Frames + a1.Frames)⟩ : Glitch)).bind fun y30 =>
  if !y30 then (
  some ((⟨0, 0, 0, 0, 0, 0⟩ : Glitch), false))
  else (
  some ((⟨a0.Kind, a0.At, w64 (a0.Quanta + a1.Quanta), a0.Stream, a0.Device, w64 (a0.Frames + a1.Frames)⟩ : Glitch), true)))) fun j19 =>
  (f97 n (⟨a0.Kind, a0.At, a0.Quanta, a0.Stream, a0.Device, a0.Frames⟩ : Glitch)).bind fun y20 =>
  if !y20 then (
  j18 ())
  else (
  (f97 n (⟨a1.Kind, a1.At, a1.Quanta, a1.Stream, a1.Device, a1.Frames⟩ : Glitch)).bind fun y22 =>
  if !y22 then (
  j18 ())
  else (
  (f120 n (⟨a0.Kind, a0.At, a0.Quanta, a0.Stream, a0.Device, a0.Frames⟩ : Glitch)).bind fun y24 =>
  (f120 n (⟨a1.Kind, a1.At, a1.Quanta, a1.Stream, a1.Device, a1.Frames⟩ : Glitch)).bind fun y25 =>
  if !((y24.kind == y25.kind) && (y24.stream == y25.stream) && (y24.device == y25.device)) then (
  j18 ())
  else (
  j19 ())))
set_option maxHeartbeats 4000000 in
set_option maxRecDepth 100000 in
theorem g102 {n : Nat} {a0 : Glitch} {a1 : Glitch} {r : (Glitch × Bool)} (h : f102 n a0 a1 = some r) :
    Ab.Can Try.prog 102 [.agg [.int .i64 a0.Kind, .int .i64 a0.At, .int .i64 a0.Quanta, .int .i64 a0.Stream, .int .u64 a0.Device, .int .i64 a0.Frames], .agg [.int .i64 a1.Kind, .int .i64 a1.At, .int .i64 a1.Quanta, .int .i64 a1.Stream, .int .u64 a1.Device, .int .i64 a1.Frames]] H0 (.tup [.agg [.int .i64 r.1.Kind, .int .i64 r.1.At, .int .i64 r.1.Quanta, .int .i64 r.1.Stream, .int .u64 r.1.Device, .int .i64 r.1.Frames], .bool r.2]) H0 := by
  refine can_of tabOK mix Try.call102 Try.func102 rfl (by kernel_rfl) (by show _ ≤ 49; simp) fun _ => ?_
  rw [f102] at h
  refine .seq ?_
  refine .region ?_
  refine .boxL (cs := [.int .i64 a0.Kind, .int .i64 a0.At, .int .i64 a0.Quanta, .int .i64 a0.Stream, .int .u64 a0.Device, .int .i64 a0.Frames]) ?_
  refine .boxL (cs := [.int .i64 a1.Kind, .int .i64 a1.At, .int .i64 a1.Quanta, .int .i64 a1.Stream, .int .u64 a1.Device, .int .i64 a1.Frames]) ?_
  refine .allocL (cs := [.int .i64 0, .int .i64 0, .int .i64 0, .int .i64 0, .int .u64 0, .int .i64 0]) ?_
  refine .assign ?_
  refine .nil ?_
  refine .seq ?_
  obtain ⟨j18, hj18, h⟩ := joinE h
  obtain ⟨j19, hj19, h⟩ := joinE h
  refine .cutI (fun T => (T = St.of [(2, .ptr (.loc 0 0) 0), (3, .ptr (.loc 0 1) 0), (4, .ptr (.loc 0 2) 0), (30, .bool true)] [((.loc 0 0), [.int .i64 a0.Kind, .int .i64 a0.At, .int .i64 a0.Quanta, .int .i64 a0.Stream, .int .u64 a0.Device, .int .i64 a0.Frames]), ((.loc 0 1), [.int .i64 a1.Kind, .int .i64 a1.At, .int .i64 a1.Quanta, .int .i64 a1.Stream, .int .u64 a1.Device, .int .i64 a1.Frames]), ((.loc 0 2), [.int .i64 0, .int .i64 0, .int .i64 0, .int .i64 0, .int .u64 0, .int .i64 0])] ∧ j18 () = some r) ∨ (T = St.of [(2, .ptr (.loc 0 0) 0), (3, .ptr (.loc 0 1) 0), (4, .ptr (.loc 0 2) 0), (30, .bool (a1.At != (w64 (a0.At + a0.Quanta))))] [((.loc 0 0), [.int .i64 a0.Kind, .int .i64 a0.At, .int .i64 a0.Quanta, .int .i64 a0.Stream, .int .u64 a0.Device, .int .i64 a0.Frames]), ((.loc 0 1), [.int .i64 a1.Kind, .int .i64 a1.At, .int .i64 a1.Quanta, .int .i64 a1.Stream, .int .u64 a1.Device, .int .i64 a1.Frames]), ((.loc 0 2), [.int .i64 0, .int .i64 0, .int .i64 0, .int .i64 0, .int .u64 0, .int .i64 0])] ∧ j19 () = some r)) ?_ ?_
  · obtain ⟨y20, hy20, h⟩ := bindE h
    rcases bool_em (!y20) with hc21 | hc21
    · replace h := (if_pos hc21).symm.trans h
      refine .draw [] [[], [], [], [], [], [], [], [], [], [], [], [], [], [], [], [], [], [], [], [], [], [], [], [], []] [[], [], [], [], [], [], [], [], [], [], [], [], [], [], [], [], [], [], [], [], [], [], [], [], []] [[]]
        [(0, 0), (1, 0), (2, 0), (3, 0), (4, 0), (5, 0), (6, 0), (7, 0), (8, 0), (9, 0), (10, 0), (11, 0), (12, 0), (13, 0), (14, 0), (15, 0), (16, 0), (17, 0), (18, 0), (19, 0), (20, 0), (21, 0), (22, 0), (23, 0), (24, 0)] [] 0
        [⟨[(6, .agg [.int .i64 a0.Kind, .int .i64 a0.At, .int .i64 a0.Quanta, .int .i64 a0.Stream, .int .u64 a0.Device, .int .i64 a0.Frames]), (7, .bool y20), (8, .bool true), (9, .bool true), (10, .tup []), (11, .tup []), (12, .tup []), (13, .bool true), (14, .bool true), (15, .tup []), (16, .tup []), (17, .tup []), (18, .tup []), (19, .tup []), (20, .bool true), (21, .bool true), (22, .tup []), (23, .tup []), (24, .tup []), (25, .tup []), (26, .tup []), (27, .tup []), (28, .tup []), (29, .tup []), (30, .bool true), (2, .ptr (.loc 0 0) 0), (3, .ptr (.loc 0 1) 0), (4, .ptr (.loc 0 2) 0)], [], [((.loc 0 0), [.int .i64 a0.Kind, .int .i64 a0.At, .int .i64 a0.Quanta, .int .i64 a0.Stream, .int .u64 a0.Device, .int .i64 a0.Frames]), ((.loc 0 1), [.int .i64 a1.Kind, .int .i64 a1.At, .int .i64 a1.Quanta, .int .i64 a1.Stream, .int .u64 a1.Device, .int .i64 a1.Frames]), ((.loc 0 2), [.int .i64 0, .int .i64 0, .int .i64 0, .int .i64 0, .int .u64 0, .int .i64 0])]⟩]
        [(2, .ptr (.loc 0 0) 0), (3, .ptr (.loc 0 1) 0), (4, .ptr (.loc 0 2) 0)]
        (.cons [2] [] (fun _ _ h => .val (h _)) rfl rfl <|
        .cons [6] [] (fun _ _ h => .cP (g97 hy20) (h _)) rfl rfl <|
        .cons [7] [] (fun _ _ h => .valB hc21 (h _)) rfl rfl <|
        .cons [8] [] (fun _ _ h => .move (h _)) rfl rfl <|
        .cons [9] [] (fun _ _ h => .skip (h _)) rfl rfl <|
        .cons [9] [] (fun _ _ h => .skip (h _)) rfl rfl <|
        .cons [9] [] (fun _ _ h => .skip (h _)) rfl rfl <|
        .cons [9, 12] [] (fun _ _ h => .brT (h _)) rfl rfl <|
        .cons [13] [] (fun _ _ h => .move (h _)) rfl rfl <|
        .cons [14] [] (fun _ _ h => .skip (h _)) rfl rfl <|
        .cons [14] [] (fun _ _ h => .skip (h _)) rfl rfl <|
        .cons [14] [] (fun _ _ h => .skip (h _)) rfl rfl <|
        .cons [14] [] (fun _ _ h => .skip (h _)) rfl rfl <|
        .cons [14] [] (fun _ _ h => .skip (h _)) rfl rfl <|
        .cons [14, 19] [] (fun _ _ h => .brT (h _)) rfl rfl <|
        .cons [20] [] (fun _ _ h => .move (h _)) rfl rfl <|
        .cons [21] [] (fun _ _ h => .skip (h _)) rfl rfl <|
        .cons [21] [] (fun _ _ h => .skip (h _)) rfl rfl <|
        .cons [21] [] (fun _ _ h => .skip (h _)) rfl rfl <|
        .cons [21] [] (fun _ _ h => .skip (h _)) rfl rfl <|
        .cons [21] [] (fun _ _ h => .skip (h _)) rfl rfl <|
        .cons [21] [] (fun _ _ h => .skip (h _)) rfl rfl <|
        .cons [21] [] (fun _ _ h => .skip (h _)) rfl rfl <|
        .cons [21] [] (fun _ _ h => .skip (h _)) rfl rfl <|
        .cons [21, 29] [] (fun _ _ h => .brT (h _)) rfl rfl <|
        .nil)
        (.nil)
        (by kernel_rfl) rfl (.cons rfl (.cons rfl (.cons rfl (.nil)))) (.nil) (.cons rfl (.cons rfl (.cons rfl (.nil)))) ?_
      exact ⟨_, (.inl ⟨rfl, h⟩), (imp_of (.cons rfl (.cons rfl (.cons rfl (.cons rfl (.nil))))) (.cons rfl (.cons rfl (.cons rfl (.nil)))))⟩
    · replace h := (if_neg (nt hc21)).symm.trans h
      obtain ⟨y22, hy22, h⟩ := bindE h
      rcases bool_em (!y22) with hc23 | hc23
      · replace h := (if_pos hc23).symm.trans h
        refine .draw [] [[], [], [], [], [], [], [], [], [], [], [], [], [], [], [], [], [], [], [], [], [], [], [], [], []] [[], [], [], [], [], [], [], [], [], [], [], [], [], [], [], [], [], [], [], [], [], [], [], [], []] [[]]
          [(0, 0), (1, 0), (2, 0), (3, 0), (4, 0), (5, 0), (6, 0), (7, 0), (8, 0), (9, 0), (10, 0), (11, 0), (12, 0), (13, 0), (14, 0), (15, 0), (16, 0), (17, 0), (18, 0), (19, 0), (20, 0), (21, 0), (22, 0), (23, 0), (24, 0)] [] 0
          [⟨[(6, .agg [.int .i64 a0.Kind, .int .i64 a0.At, .int .i64 a0.Quanta, .int .i64 a0.Stream, .int .u64 a0.Device, .int .i64 a0.Frames]), (7, .bool y20), (8, .bool false), (9, .bool false), (10, .agg [.int .i64 a1.Kind, .int .i64 a1.At, .int .i64 a1.Quanta, .int .i64 a1.Stream, .int .u64 a1.Device, .int .i64 a1.Frames]), (11, .bool y22), (12, .bool true), (13, .bool true), (14, .bool true), (15, .tup []), (16, .tup []), (17, .tup []), (18, .tup []), (19, .tup []), (20, .bool true), (21, .bool true), (22, .tup []), (23, .tup []), (24, .tup []), (25, .tup []), (26, .tup []), (27, .tup []), (28, .tup []), (29, .tup []), (30, .bool true), (2, .ptr (.loc 0 0) 0), (3, .ptr (.loc 0 1) 0), (4, .ptr (.loc 0 2) 0)], [], [((.loc 0 0), [.int .i64 a0.Kind, .int .i64 a0.At, .int .i64 a0.Quanta, .int .i64 a0.Stream, .int .u64 a0.Device, .int .i64 a0.Frames]), ((.loc 0 1), [.int .i64 a1.Kind, .int .i64 a1.At, .int .i64 a1.Quanta, .int .i64 a1.Stream, .int .u64 a1.Device, .int .i64 a1.Frames]), ((.loc 0 2), [.int .i64 0, .int .i64 0, .int .i64 0, .int .i64 0, .int .u64 0, .int .i64 0])]⟩]
          [(2, .ptr (.loc 0 0) 0), (3, .ptr (.loc 0 1) 0), (4, .ptr (.loc 0 2) 0)]
          (.cons [2] [] (fun _ _ h => .val (h _)) rfl rfl <|
          .cons [6] [] (fun _ _ h => .cP (g97 hy20) (h _)) rfl rfl <|
          .cons [7] [] (fun _ _ h => .valB hc21 (h _)) rfl rfl <|
          .cons [8] [] (fun _ _ h => .move (h _)) rfl rfl <|
          .cons [3, 9] [] (fun _ _ h => .val (h _)) rfl rfl <|
          .cons [10, 9] [] (fun _ _ h => .cP (g97 hy22) (h _)) rfl rfl <|
          .cons [11, 9] [] (fun _ _ h => .valB hc23 (h _)) rfl rfl <|
          .cons [9, 12] [] (fun _ _ h => .brF (h _)) rfl rfl <|
          .cons [13] [] (fun _ _ h => .move (h _)) rfl rfl <|
          .cons [14] [] (fun _ _ h => .skip (h _)) rfl rfl <|
          .cons [14] [] (fun _ _ h => .skip (h _)) rfl rfl <|
          .cons [14] [] (fun _ _ h => .skip (h _)) rfl rfl <|
          .cons [14] [] (fun _ _ h => .skip (h _)) rfl rfl <|
          .cons [14] [] (fun _ _ h => .skip (h _)) rfl rfl <|
          .cons [14, 19] [] (fun _ _ h => .brT (h _)) rfl rfl <|
          .cons [20] [] (fun _ _ h => .move (h _)) rfl rfl <|
          .cons [21] [] (fun _ _ h => .skip (h _)) rfl rfl <|
          .cons [21] [] (fun _ _ h => .skip (h _)) rfl rfl <|
          .cons [21] [] (fun _ _ h => .skip (h _)) rfl rfl <|
          .cons [21] [] (fun _ _ h => .skip (h _)) rfl rfl <|
          .cons [21] [] (fun _ _ h => .skip (h _)) rfl rfl <|
          .cons [21] [] (fun _ _ h => .skip (h _)) rfl rfl <|
          .cons [21] [] (fun _ _ h => .skip (h _)) rfl rfl <|
          .cons [21] [] (fun _ _ h => .skip (h _)) rfl rfl <|
          .cons [21, 29] [] (fun _ _ h => .brT (h _)) rfl rfl <|
          .nil)
          (.nil)
          (by kernel_rfl) rfl (.cons rfl (.cons rfl (.cons rfl (.nil)))) (.nil) (.cons rfl (.cons rfl (.cons rfl (.nil)))) ?_
        exact ⟨_, (.inl ⟨rfl, h⟩), (imp_of (.cons rfl (.cons rfl (.cons rfl (.cons rfl (.nil))))) (.cons rfl (.cons rfl (.cons rfl (.nil)))))⟩
      · replace h := (if_neg (nt hc23)).symm.trans h
        obtain ⟨y24, hy24, h⟩ := bindE h
        obtain ⟨y25, hy25, h⟩ := bindE h
        rcases bool_em (!((y24.kind == y25.kind) && (y24.stream == y25.stream) && (y24.device == y25.device))) with hc26 | hc26
        · replace h := (if_pos hc26).symm.trans h
          refine .draw [] [[], [], [], [], [], [], [], [], [], [], [], [], [], [], [], [], [], [], [], [], [], [], [], [], []] [[], [], [], [], [], [], [], [], [], [], [], [], [], [], [], [], [], [], [], [], [], [], [], [], []] [[]]
            [(0, 0), (1, 0), (2, 0), (3, 0), (4, 0), (5, 0), (6, 0), (7, 0), (8, 0), (9, 0), (10, 0), (11, 0), (12, 0), (13, 0), (14, 0), (15, 0), (16, 0), (17, 0), (18, 0), (19, 0), (20, 0), (21, 0), (22, 0), (23, 0), (24, 0)] [] 0
            [⟨[(6, .agg [.int .i64 a0.Kind, .int .i64 a0.At, .int .i64 a0.Quanta, .int .i64 a0.Stream, .int .u64 a0.Device, .int .i64 a0.Frames]), (7, .bool y20), (8, .bool false), (9, .bool false), (10, .agg [.int .i64 a1.Kind, .int .i64 a1.At, .int .i64 a1.Quanta, .int .i64 a1.Stream, .int .u64 a1.Device, .int .i64 a1.Frames]), (11, .bool y22), (12, .bool false), (13, .bool false), (14, .bool false), (15, .agg [.int .i64 a0.Kind, .int .i64 a0.At, .int .i64 a0.Quanta, .int .i64 a0.Stream, .int .u64 a0.Device, .int .i64 a0.Frames]), (16, .agg [.int .i64 y24.kind, .int .i64 y24.stream, .int .u64 y24.device]), (17, .agg [.int .i64 a1.Kind, .int .i64 a1.At, .int .i64 a1.Quanta, .int .i64 a1.Stream, .int .u64 a1.Device, .int .i64 a1.Frames]), (18, .agg [.int .i64 y25.kind, .int .i64 y25.stream, .int .u64 y25.device]), (19, .bool true), (20, .bool true), (21, .bool true), (22, .tup []), (23, .tup []), (24, .tup []), (25, .tup []), (26, .tup []), (27, .tup []), (28, .tup []), (29, .tup []), (30, .bool true), (2, .ptr (.loc 0 0) 0), (3, .ptr (.loc 0 1) 0), (4, .ptr (.loc 0 2) 0)], [], [((.loc 0 0), [.int .i64 a0.Kind, .int .i64 a0.At, .int .i64 a0.Quanta, .int .i64 a0.Stream, .int .u64 a0.Device, .int .i64 a0.Frames]), ((.loc 0 1), [.int .i64 a1.Kind, .int .i64 a1.At, .int .i64 a1.Quanta, .int .i64 a1.Stream, .int .u64 a1.Device, .int .i64 a1.Frames]), ((.loc 0 2), [.int .i64 0, .int .i64 0, .int .i64 0, .int .i64 0, .int .u64 0, .int .i64 0])]⟩]
            [(2, .ptr (.loc 0 0) 0), (3, .ptr (.loc 0 1) 0), (4, .ptr (.loc 0 2) 0)]
            (.cons [2] [] (fun _ _ h => .val (h _)) rfl rfl <|
            .cons [6] [] (fun _ _ h => .cP (g97 hy20) (h _)) rfl rfl <|
            .cons [7] [] (fun _ _ h => .valB hc21 (h _)) rfl rfl <|
            .cons [8] [] (fun _ _ h => .move (h _)) rfl rfl <|
            .cons [3, 9] [] (fun _ _ h => .val (h _)) rfl rfl <|
            .cons [10, 9] [] (fun _ _ h => .cP (g97 hy22) (h _)) rfl rfl <|
            .cons [11, 9] [] (fun _ _ h => .valB hc23 (h _)) rfl rfl <|
            .cons [9, 12] [] (fun _ _ h => .brF (h _)) rfl rfl <|
            .cons [13] [] (fun _ _ h => .move (h _)) rfl rfl <|
            .cons [2, 14] [] (fun _ _ h => .val (h _)) rfl rfl <|
            .cons [15, 14] [] (fun _ _ h => .cP (g120 hy24) (h _)) rfl rfl <|
            .cons [3, 14] [] (fun _ _ h => .val (h _)) rfl rfl <|
            .cons [17, 14] [] (fun _ _ h => .cP (g120 hy25) (h _)) rfl rfl <|
            .cons [16, 18, 14] [] (fun _ _ h => .eqV (.int (.int (.int .nil))) (.int (.int (.int .nil))) (neq144 _ _ _ _ _ _ _ _ ) (by rw [hc26]; exact h _)) rfl rfl <|
            .cons [14, 19] [] (fun _ _ h => .brF (h _)) rfl rfl <|
            .cons [20] [] (fun _ _ h => .move (h _)) rfl rfl <|
            .cons [21] [] (fun _ _ h => .skip (h _)) rfl rfl <|
            .cons [21] [] (fun _ _ h => .skip (h _)) rfl rfl <|
            .cons [21] [] (fun _ _ h => .skip (h _)) rfl rfl <|
            .cons [21] [] (fun _ _ h => .skip (h _)) rfl rfl <|
            .cons [21] [] (fun _ _ h => .skip (h _)) rfl rfl <|
            .cons [21] [] (fun _ _ h => .skip (h _)) rfl rfl <|
            .cons [21] [] (fun _ _ h => .skip (h _)) rfl rfl <|
            .cons [21] [] (fun _ _ h => .skip (h _)) rfl rfl <|
            .cons [21, 29] [] (fun _ _ h => .brT (h _)) rfl rfl <|
            .nil)
            (.nil)
            (by kernel_rfl) rfl (.cons rfl (.cons rfl (.cons rfl (.nil)))) (.nil) (.cons rfl (.cons rfl (.cons rfl (.nil)))) ?_
          exact ⟨_, (.inl ⟨rfl, h⟩), (imp_of (.cons rfl (.cons rfl (.cons rfl (.cons rfl (.nil))))) (.cons rfl (.cons rfl (.cons rfl (.nil)))))⟩
        · replace h := (if_neg (nt hc26)).symm.trans h
          refine .draw [] [[], [], [], [], [], [], [], [], [], [], [], [], [], [], [], [], [], [], [], [], [], [], [], [], []] [[], [], [], [], [], [], [], [], [], [], [], [], [], [], [], [], [], [], [], [], [], [], [], [], []] [[]]
            [(0, 0), (1, 0), (2, 0), (3, 0), (4, 0), (5, 0), (6, 0), (7, 0), (8, 0), (9, 0), (10, 0), (11, 0), (12, 0), (13, 0), (14, 0), (15, 0), (16, 0), (17, 0), (18, 0), (19, 0), (20, 0), (21, 0), (22, 0), (23, 0), (24, 0)] [] 0
            [⟨[(6, .agg [.int .i64 a0.Kind, .int .i64 a0.At, .int .i64 a0.Quanta, .int .i64 a0.Stream, .int .u64 a0.Device, .int .i64 a0.Frames]), (7, .bool y20), (8, .bool false), (9, .bool false), (10, .agg [.int .i64 a1.Kind, .int .i64 a1.At, .int .i64 a1.Quanta, .int .i64 a1.Stream, .int .u64 a1.Device, .int .i64 a1.Frames]), (11, .bool y22), (12, .bool false), (13, .bool false), (14, .bool false), (15, .agg [.int .i64 a0.Kind, .int .i64 a0.At, .int .i64 a0.Quanta, .int .i64 a0.Stream, .int .u64 a0.Device, .int .i64 a0.Frames]), (16, .agg [.int .i64 y24.kind, .int .i64 y24.stream, .int .u64 y24.device]), (17, .agg [.int .i64 a1.Kind, .int .i64 a1.At, .int .i64 a1.Quanta, .int .i64 a1.Stream, .int .u64 a1.Device, .int .i64 a1.Frames]), (18, .agg [.int .i64 y25.kind, .int .i64 y25.stream, .int .u64 y25.device]), (19, .bool false), (20, .bool false), (21, .bool false), (22, .ptr (.loc 0 1) 1), (23, .int .i64 a1.At), (24, .ptr (.loc 0 0) 1), (25, .int .i64 a0.At), (26, .ptr (.loc 0 0) 2), (27, .int .i64 a0.Quanta), (28, .int .i64 (w64 (a0.At + a0.Quanta))), (29, .bool (a1.At != (w64 (a0.At + a0.Quanta)))), (30, .bool (a1.At != (w64 (a0.At + a0.Quanta)))), (2, .ptr (.loc 0 0) 0), (3, .ptr (.loc 0 1) 0), (4, .ptr (.loc 0 2) 0)], [], [((.loc 0 0), [.int .i64 a0.Kind, .int .i64 a0.At, .int .i64 a0.Quanta, .int .i64 a0.Stream, .int .u64 a0.Device, .int .i64 a0.Frames]), ((.loc 0 1), [.int .i64 a1.Kind, .int .i64 a1.At, .int .i64 a1.Quanta, .int .i64 a1.Stream, .int .u64 a1.Device, .int .i64 a1.Frames]), ((.loc 0 2), [.int .i64 0, .int .i64 0, .int .i64 0, .int .i64 0, .int .u64 0, .int .i64 0])]⟩]
            [(2, .ptr (.loc 0 0) 0), (3, .ptr (.loc 0 1) 0), (4, .ptr (.loc 0 2) 0)]
            (.cons [2] [] (fun _ _ h => .val (h _)) rfl rfl <|
            .cons [6] [] (fun _ _ h => .cP (g97 hy20) (h _)) rfl rfl <|
            .cons [7] [] (fun _ _ h => .valB hc21 (h _)) rfl rfl <|
            .cons [8] [] (fun _ _ h => .move (h _)) rfl rfl <|
            .cons [3, 9] [] (fun _ _ h => .val (h _)) rfl rfl <|
            .cons [10, 9] [] (fun _ _ h => .cP (g97 hy22) (h _)) rfl rfl <|
            .cons [11, 9] [] (fun _ _ h => .valB hc23 (h _)) rfl rfl <|
            .cons [9, 12] [] (fun _ _ h => .brF (h _)) rfl rfl <|
            .cons [13] [] (fun _ _ h => .move (h _)) rfl rfl <|
            .cons [2, 14] [] (fun _ _ h => .val (h _)) rfl rfl <|
            .cons [15, 14] [] (fun _ _ h => .cP (g120 hy24) (h _)) rfl rfl <|
            .cons [3, 14] [] (fun _ _ h => .val (h _)) rfl rfl <|
            .cons [17, 14] [] (fun _ _ h => .cP (g120 hy25) (h _)) rfl rfl <|
            .cons [16, 18, 14] [] (fun _ _ h => .eqV (.int (.int (.int .nil))) (.int (.int (.int .nil))) (neq144 _ _ _ _ _ _ _ _ ) (by rw [hc26]; exact h _)) rfl rfl <|
            .cons [14, 19] [] (fun _ _ h => .brF (h _)) rfl rfl <|
            .cons [20] [] (fun _ _ h => .move (h _)) rfl rfl <|
            .cons [3, 21] [] (fun _ _ h => .val (h _)) rfl rfl <|
            .cons [22, 21] [] (fun _ _ h => .val (h _)) rfl rfl <|
            .cons [2, 21] [] (fun _ _ h => .val (h _)) rfl rfl <|
            .cons [24, 21] [] (fun _ _ h => .val (h _)) rfl rfl <|
            .cons [2, 21] [] (fun _ _ h => .val (h _)) rfl rfl <|
            .cons [26, 21] [] (fun _ _ h => .val (h _)) rfl rfl <|
            .cons [25, 27, 21] [] (fun _ _ h => .val (h _)) rfl rfl <|
            .cons [23, 28, 21] [] (fun _ _ h => .val (h _)) rfl rfl <|
            .cons [21, 29] [] (fun _ _ h => .brF (h _)) rfl rfl <|
            .nil)
            (.nil)
            (by kernel_rfl) rfl (.cons rfl (.cons rfl (.cons rfl (.nil)))) (.nil) (.cons rfl (.cons rfl (.cons rfl (.nil)))) ?_
          exact ⟨_, (.inr (⟨rfl, h⟩)), (imp_of (.cons rfl (.cons rfl (.cons rfl (.cons rfl (.nil))))) (.cons rfl (.cons rfl (.cons rfl (.nil)))))⟩
  · rintro T (⟨rfl, h⟩ | ⟨rfl, h⟩)
    · subst hj18
      refine .condT ?_
      refine .seq ?_
      refine .region ?_
      refine .buildL (cs := [.int .i64 0, .int .i64 0, .int .i64 0, .int .i64 0, .int .u64 0, .int .i64 0]) ?_
      refine .wrL (cs := [.int .i64 0, .int .i64 0, .int .i64 0, .int .i64 0, .int .u64 0, .int .i64 0]) ?_
      refine .assign ?_
      refine .nil ?_
      cases h
      exact .ret (fin_gen0 none)
    · subst hj19
      refine .cond (fun hc27 => ?_) (fun hc27 => ?_)
      · replace h := (if_pos hc27).symm.trans h
        refine .seq ?_
        refine .region ?_
        refine .buildL (cs := [.int .i64 0, .int .i64 0, .int .i64 0, .int .i64 0, .int .u64 0, .int .i64 0]) ?_
        refine .wrL (cs := [.int .i64 0, .int .i64 0, .int .i64 0, .int .i64 0, .int .u64 0, .int .i64 0]) ?_
        refine .assign ?_
        refine .nil ?_
        cases h
        exact .ret (fin_gen0 none)
      · replace h := (if_neg (nt hc27)).symm.trans h
        refine .skip ?_
        refine .seq ?_
        refine .region ?_
        refine .val ?_
        refine .val ?_
        refine .val ?_
        refine .val ?_
        refine .val ?_
        refine .val ?_
        refine .wrL (cs := [.int .i64 a0.Kind, .int .i64 a0.At, .int .i64 (w64 (a0.Quanta + a1.Quanta)), .int .i64 a0.Stream, .int .u64 a0.Device, .int .i64 a0.Frames]) ?_
        refine .nil ?_
        refine .seq ?_
        refine .region ?_
        refine .val ?_
        refine .val ?_
        refine .val ?_
        refine .val ?_
        refine .val ?_
        refine .val ?_
        refine .wrL (cs := [.int .i64 a0.Kind, .int .i64 a0.At, .int .i64 (w64 (a0.Quanta + a1.Quanta)), .int .i64 a0.Stream, .int .u64 a0.Device, .int .i64 (w64 (a0.Frames + a1.Frames))]) ?_
        refine .nil ?_
        refine .seq ?_
        refine .seq ?_
        refine .region ?_
        refine .val (v := .agg [.int .i64 a0.Kind, .int .i64 a0.At, .int .i64 (w64 (a0.Quanta + a1.Quanta)), .int .i64 a0.Stream, .int .u64 a0.Device, .int .i64 (w64 (a0.Frames + a1.Frames))]) ?_
        obtain ⟨y30, hy30, h⟩ := bindE h
        refine .cP (g97 hy30) ?_
        refine .val ?_
        refine .nil ?_
        refine .cond (fun hc31 => ?_) (fun hc31 => ?_)
        · replace h := (if_pos hc31).symm.trans h
          refine .seq ?_
          refine .region ?_
          refine .buildL (cs := [.int .i64 0, .int .i64 0, .int .i64 0, .int .i64 0, .int .u64 0, .int .i64 0]) ?_
          refine .wrL (cs := [.int .i64 0, .int .i64 0, .int .i64 0, .int .i64 0, .int .u64 0, .int .i64 0]) ?_
          refine .assign ?_
          refine .nil ?_
          cases h
          exact .ret (fin_gen0 none)
        · replace h := (if_neg (nt hc31)).symm.trans h
          refine .skip ?_
          refine .seq ?_
          refine .region ?_
          refine .val (v := .agg [.int .i64 a0.Kind, .int .i64 a0.At, .int .i64 (w64 (a0.Quanta + a1.Quanta)), .int .i64 a0.Stream, .int .u64 a0.Device, .int .i64 (w64 (a0.Frames + a1.Frames))]) ?_
          refine .wrL (cs := [.int .i64 a0.Kind, .int .i64 a0.At, .int .i64 (w64 (a0.Quanta + a1.Quanta)), .int .i64 a0.Stream, .int .u64 a0.Device, .int .i64 (w64 (a0.Frames + a1.Frames))]) ?_
          refine .assign ?_
          refine .nil ?_
          cases h
          exact .ret (fin_gen0 none)
end Go.Proofs.Ytacdknbakjbpiaa
