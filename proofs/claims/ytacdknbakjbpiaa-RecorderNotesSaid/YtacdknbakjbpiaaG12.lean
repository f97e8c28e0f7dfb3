/-
  Plain functions of soundservicelaw38, and that the code does what they say.
-/
import Derived.Test.YtacdknbakjbpiaaGm
namespace Go.Proofs.Ytacdknbakjbpiaa
open Go Ab
/- soundservice/soundservicelaw38.RecorderNotes -/
def f12_l2 (n : Nat) (a3 : Glitch) (x459 : Recorder) (j500 : Unit → Option Bool) (y502 : (Glitch × Deck)) : Nat → Int → Option Bool
  | 0, _ => none
  | m525 + 1, v513 =>
    if decide (v513 < (([(⟨a3.Kind, a3.At, a3.Quanta, a3.Stream, a3.Device, a3.Frames⟩ : Glitch), y502.1] : List Glitch).length : Int)) then (
    (lAt ([(⟨a3.Kind, a3.At, a3.Quanta, a3.Stream, a3.Device, a3.Frames⟩ : Glitch), y502.1] : List Glitch) v513).bind fun x537 =>
    (f63 n (⟨x459.Limit, x459.Last, x459.Counts, x459.Frames, x459.Buckets⟩ : Recorder) (⟨x537.Kind, x537.At, x537.Quanta, x537.Stream, x537.Device, x537.Frames⟩ : Glitch)).bind fun y538 =>
    (f64 n (⟨x459.Limit, x459.Last, x459.Counts, x459.Frames, x459.Buckets⟩ : Recorder) (⟨x537.Kind, x537.At, x537.Quanta, x537.Stream, x537.Device, x537.Frames⟩ : Glitch)).bind fun y539 =>
    joinK (fun (_ : Unit) =>
    some false) fun j542 =>
    joinK (fun (v543 : Bool) =>
    if v543 then (
    some false)
    else (
    f12_l2 n a3 x459 j500 y502 m525 (w64 (v513 + (1 : Int))))) fun j544 =>
    if (y538.2 != y539.2) then (
    j542 ())
    else (
    (f65 n (⟨y538.1.Limit, y538.1.Last, y538.1.Counts, y538.1.Frames, y538.1.Buckets⟩ : Recorder) (⟨y539.1.Limit, y539.1.Last, y539.1.Counts, y539.1.Frames, y539.1.Buckets⟩ : Recorder)).bind fun y546 =>
    j544 (!y546)))
    else (
    j500 ())
def f12_l3 (n : Nat) (a4 : Int) (j458 : Unit → Option Bool) (x459 : Recorder) (y548 : Int) : Nat → Int → Option Bool
  | 0, _ => none
  | m571 + 1, v559 =>
    if decide (v559 < (([a4, y548] : List Int).length : Int)) then (
    (lAt ([a4, y548] : List Int) v559).bind fun x583 =>
    (f38 n (⟨x459.Limit, x459.Last, x459.Counts, x459.Frames, x459.Buckets⟩ : Recorder) x583).bind fun y584 =>
    (f66 n (⟨x459.Limit, x459.Last, x459.Counts, x459.Frames, x459.Buckets⟩ : Recorder) x583).bind fun y585 =>
    joinK (fun (_ : Unit) =>
    some false) fun j588 =>
    joinK (fun (v589 : Bool) =>
    if v589 then (
    some false)
    else (
    f12_l3 n a4 j458 x459 y548 m571 (w64 (v559 + (1 : Int))))) fun j590 =>
    if (y584.2 != y585.2) then (
    j588 ())
    else (
    (f65 n (⟨y584.1.Limit, y584.1.Last, y584.1.Counts, y584.1.Frames, y584.1.Buckets⟩ : Recorder) (⟨y585.1.Limit, y585.1.Last, y585.1.Counts, y585.1.Frames, y585.1.Buckets⟩ : Recorder)).bind fun y592 =>
    j590 (!y592)))
    else (
    j458 ())
def f12_l1 (n : Nat) (a1 : (List Int)) (a2 : Recorder) (a3 : Glitch) (a4 : Int) (y7 : Recorder) (j232 : Unit → Option Bool) : Nat → Int → Option Bool
  | 0, _ => none
  | m383 + 1, v307 =>
    if decide (v307 < (([(⟨y7.Limit, y7.Last, y7.Counts, y7.Frames, y7.Buckets⟩ : Recorder), (⟨a2.Limit, a2.Last, a2.Counts, a2.Frames, a2.Buckets⟩ : Recorder)] : List Recorder).length : Int)) then (
    joinK (fun (_ : Unit) =>
    f12_l1 n a1 a2 a3 a4 y7 j232 m383 (w64 (v307 + (1 : Int)))) fun j458 =>
    (lAt ([(⟨y7.Limit, y7.Last, y7.Counts, y7.Frames, y7.Buckets⟩ : Recorder), (⟨a2.Limit, a2.Last, a2.Counts, a2.Frames, a2.Buckets⟩ : Recorder)] : List Recorder) v307).bind fun x459 =>
    (f60 n (⟨x459.Limit, x459.Last, x459.Counts, x459.Frames, x459.Buckets⟩ : Recorder)).bind fun y463 =>
    (f61 n (⟨x459.Limit, x459.Last, x459.Counts, x459.Frames, x459.Buckets⟩ : Recorder)).bind fun y464 =>
    if !(y463 == y464) then (
    some false)
    else (
    joinK (fun (_ : Unit) =>
    (f39 n a4 (3000 : Int)).bind fun y548 =>
    f12_l3 n a4 j458 x459 y548 n 0) fun j500 =>
    (f42 n a1).bind fun y501 =>
    (f62 n (⟨y501.L, y501.At⟩ : Deck)).bind fun y502 =>
    f12_l2 n a3 x459 j500 y502 n 0))
    else (
    j232 ())
def f12 (n : Nat) (a0 : (List Int)) (a1 : (List Int)) (a2 : Recorder) (a3 : Glitch) (a4 : Int) (a5 : Int) : Option Bool :=
  (f36 n ).bind fun y3 =>
  if !y3 then (
  some false)
  else (
  if decide ((a2.Last.length : Int) > (10 : Int)) then (
  some true)
  else (
  (f51 n a0).bind fun y7 =>
  joinK (fun (_ : Unit) =>
  (f37 n a5).bind fun y594 =>
  (f67 n a5).bind fun y595 =>
  if (y594.2 == y595.2) then (
  (f65 n (⟨y594.1.Limit, y594.1.Last, y594.1.Counts, y594.1.Frames, y594.1.Buckets⟩ : Recorder) (⟨y595.1.Limit, y595.1.Last, y595.1.Counts, y595.1.Frames, y595.1.Buckets⟩ : Recorder)).bind fun y599 =>
  some y599)
  else (
  some false)) fun j232 =>
  f12_l1 n a1 a2 a3 a4 y7 j232 n 0))
set_option maxHeartbeats 4000000 in
set_option maxRecDepth 100000 in
theorem g12 {n : Nat} {a0 : (List Int)} {a1 : (List Int)} {a2 : Recorder} {a3 : Glitch} {a4 : Int} {a5 : Int} {r : Bool} (h : f12 n a0 a1 a2 a3 a4 a5 = some r) :
    Ab.Can Try.prog 12 [.sl 3 .ro (a0.map (PV.int .i64)), .sl 3 .ro (a1.map (PV.int .i64)), .agg [.int .i64 a2.Limit, .sl 97 .ro (a2.Last.map pv97), .int .i64 (a2.Counts 0), .int .i64 (a2.Counts 1), .int .i64 (a2.Counts 2), .int .i64 (a2.Counts 3), .int .i64 (a2.Counts 4), .int .i64 a2.Frames, .int .i64 (a2.Buckets 0), .int .i64 (a2.Buckets 1), .int .i64 (a2.Buckets 2), .int .i64 (a2.Buckets 3), .int .i64 (a2.Buckets 4), .int .i64 (a2.Buckets 5), .int .i64 (a2.Buckets 6), .int .i64 (a2.Buckets 7), .int .i64 (a2.Buckets 8), .int .i64 (a2.Buckets 9), .int .i64 (a2.Buckets 10), .int .i64 (a2.Buckets 11), .int .i64 (a2.Buckets 12), .int .i64 (a2.Buckets 13), .int .i64 (a2.Buckets 14), .int .i64 (a2.Buckets 15), .int .i64 (a2.Buckets 16), .int .i64 (a2.Buckets 17), .int .i64 (a2.Buckets 18), .int .i64 (a2.Buckets 19), .int .i64 (a2.Buckets 20), .int .i64 (a2.Buckets 21), .int .i64 (a2.Buckets 22), .int .i64 (a2.Buckets 23)], .agg [.int .i64 a3.Kind, .int .i64 a3.At, .int .i64 a3.Quanta, .int .i64 a3.Stream, .int .u64 a3.Device, .int .i64 a3.Frames], .int .i64 a4, .int .i64 a5] H0 (.bool r) H0 := by
  refine can_of tabOK mix Try.call12 Try.func12 rfl (by kernel_rfl) (by show _ ≤ 135; simp) fun _ => ?_
  rw [f12] at h
  refine .seq ?_
  refine .region ?_
  refine .boxL (cs := [.int .i64 a2.Limit, .sl 97 .ro (a2.Last.map pv97), .int .i64 (a2.Counts 0), .int .i64 (a2.Counts 1), .int .i64 (a2.Counts 2), .int .i64 (a2.Counts 3), .int .i64 (a2.Counts 4), .int .i64 a2.Frames, .int .i64 (a2.Buckets 0), .int .i64 (a2.Buckets 1), .int .i64 (a2.Buckets 2), .int .i64 (a2.Buckets 3), .int .i64 (a2.Buckets 4), .int .i64 (a2.Buckets 5), .int .i64 (a2.Buckets 6), .int .i64 (a2.Buckets 7), .int .i64 (a2.Buckets 8), .int .i64 (a2.Buckets 9), .int .i64 (a2.Buckets 10), .int .i64 (a2.Buckets 11), .int .i64 (a2.Buckets 12), .int .i64 (a2.Buckets 13), .int .i64 (a2.Buckets 14), .int .i64 (a2.Buckets 15), .int .i64 (a2.Buckets 16), .int .i64 (a2.Buckets 17), .int .i64 (a2.Buckets 18), .int .i64 (a2.Buckets 19), .int .i64 (a2.Buckets 20), .int .i64 (a2.Buckets 21), .int .i64 (a2.Buckets 22), .int .i64 (a2.Buckets 23)]) ?_
  refine .boxL (cs := [.int .i64 a3.Kind, .int .i64 a3.At, .int .i64 a3.Quanta, .int .i64 a3.Stream, .int .u64 a3.Device, .int .i64 a3.Frames]) ?_
  refine .assign ?_
  refine .nil ?_
  refine .seq ?_
  refine .seq ?_
  refine .region ?_
  obtain ⟨y3, hy3, h⟩ := bindE h
  refine .cP (g36 hy3) ?_
  refine .val ?_
  refine .nil ?_
  refine .cond (fun hc4 => ?_) (fun hc4 => ?_)
  · replace h := (if_pos hc4).symm.trans h
    refine .seq ?_
    refine .region ?_
    refine .assign ?_
    refine .nil ?_
    cases h
    exact .ret (fin_gen0 none)
  · replace h := (if_neg (nt hc4)).symm.trans h
    refine .skip ?_
    refine .seq ?_
    refine .seq ?_
    refine .region ?_
    refine .val ?_
    refine .val ?_
    refine .lenL (f := pv97) ?_
    refine .val ?_
    refine .nil ?_
    refine .cond (fun hc6 => ?_) (fun hc6 => ?_)
    · replace h := (if_pos hc6).symm.trans h
      refine .seq ?_
      refine .region ?_
      refine .assign ?_
      refine .nil ?_
      cases h
      exact .ret (fin_gen0 none)
    · replace h := (if_neg (nt hc6)).symm.trans h
      refine .skip ?_
      refine .seq ?_
      refine .region ?_
      refine .move ?_
      obtain ⟨y7, hy7, h⟩ := bindE h
      refine .cP (g51 hy7) ?_
      refine .allocL (cs := [.int .i64 0, .sl 97 .full [], .int .i64 (aZ 0), .int .i64 (aZ 1), .int .i64 (aZ 2), .int .i64 (aZ 3), .int .i64 (aZ 4), .int .i64 0, .int .i64 (aZ 0), .int .i64 (aZ 1), .int .i64 (aZ 2), .int .i64 (aZ 3), .int .i64 (aZ 4), .int .i64 (aZ 5), .int .i64 (aZ 6), .int .i64 (aZ 7), .int .i64 (aZ 8), .int .i64 (aZ 9), .int .i64 (aZ 10), .int .i64 (aZ 11), .int .i64 (aZ 12), .int .i64 (aZ 13), .int .i64 (aZ 14), .int .i64 (aZ 15), .int .i64 (aZ 16), .int .i64 (aZ 17), .int .i64 (aZ 18), .int .i64 (aZ 19), .int .i64 (aZ 20), .int .i64 (aZ 21), .int .i64 (aZ 22), .int .i64 (aZ 23)]) ?_
      refine .wrL (cs := [.int .i64 y7.Limit, .sl 97 .ro (y7.Last.map pv97), .int .i64 (y7.Counts 0), .int .i64 (y7.Counts 1), .int .i64 (y7.Counts 2), .int .i64 (y7.Counts 3), .int .i64 (y7.Counts 4), .int .i64 y7.Frames, .int .i64 (y7.Buckets 0), .int .i64 (y7.Buckets 1), .int .i64 (y7.Buckets 2), .int .i64 (y7.Buckets 3), .int .i64 (y7.Buckets 4), .int .i64 (y7.Buckets 5), .int .i64 (y7.Buckets 6), .int .i64 (y7.Buckets 7), .int .i64 (y7.Buckets 8), .int .i64 (y7.Buckets 9), .int .i64 (y7.Buckets 10), .int .i64 (y7.Buckets 11), .int .i64 (y7.Buckets 12), .int .i64 (y7.Buckets 13), .int .i64 (y7.Buckets 14), .int .i64 (y7.Buckets 15), .int .i64 (y7.Buckets 16), .int .i64 (y7.Buckets 17), .int .i64 (y7.Buckets 18), .int .i64 (y7.Buckets 19), .int .i64 (y7.Buckets 20), .int .i64 (y7.Buckets 21), .int .i64 (y7.Buckets 22), .int .i64 (y7.Buckets 23)]) ?_
      refine .nil ?_
      obtain ⟨j232, hj232, h⟩ := joinE h
      refine .cutI (fun T => (T = St.of [(5, .int .i64 a5)] [] ∧ j232 () = some r)) ?_ ?_
      · refine .seq ?_
        refine .region ?_
        refine .val (v := .agg [.int .i64 y7.Limit, .sl 97 .ro (y7.Last.map pv97), .int .i64 (y7.Counts 0), .int .i64 (y7.Counts 1), .int .i64 (y7.Counts 2), .int .i64 (y7.Counts 3), .int .i64 (y7.Counts 4), .int .i64 y7.Frames, .int .i64 (y7.Buckets 0), .int .i64 (y7.Buckets 1), .int .i64 (y7.Buckets 2), .int .i64 (y7.Buckets 3), .int .i64 (y7.Buckets 4), .int .i64 (y7.Buckets 5), .int .i64 (y7.Buckets 6), .int .i64 (y7.Buckets 7), .int .i64 (y7.Buckets 8), .int .i64 (y7.Buckets 9), .int .i64 (y7.Buckets 10), .int .i64 (y7.Buckets 11), .int .i64 (y7.Buckets 12), .int .i64 (y7.Buckets 13), .int .i64 (y7.Buckets 14), .int .i64 (y7.Buckets 15), .int .i64 (y7.Buckets 16), .int .i64 (y7.Buckets 17), .int .i64 (y7.Buckets 18), .int .i64 (y7.Buckets 19), .int .i64 (y7.Buckets 20), .int .i64 (y7.Buckets 21), .int .i64 (y7.Buckets 22), .int .i64 (y7.Buckets 23)]) ?_
        refine .val (v := .agg [.int .i64 a2.Limit, .sl 97 .ro (a2.Last.map pv97), .int .i64 (a2.Counts 0), .int .i64 (a2.Counts 1), .int .i64 (a2.Counts 2), .int .i64 (a2.Counts 3), .int .i64 (a2.Counts 4), .int .i64 a2.Frames, .int .i64 (a2.Buckets 0), .int .i64 (a2.Buckets 1), .int .i64 (a2.Buckets 2), .int .i64 (a2.Buckets 3), .int .i64 (a2.Buckets 4), .int .i64 (a2.Buckets 5), .int .i64 (a2.Buckets 6), .int .i64 (a2.Buckets 7), .int .i64 (a2.Buckets 8), .int .i64 (a2.Buckets 9), .int .i64 (a2.Buckets 10), .int .i64 (a2.Buckets 11), .int .i64 (a2.Buckets 12), .int .i64 (a2.Buckets 13), .int .i64 (a2.Buckets 14), .int .i64 (a2.Buckets 15), .int .i64 (a2.Buckets 16), .int .i64 (a2.Buckets 17), .int .i64 (a2.Buckets 18), .int .i64 (a2.Buckets 19), .int .i64 (a2.Buckets 20), .int .i64 (a2.Buckets 21), .int .i64 (a2.Buckets 22), .int .i64 (a2.Buckets 23)]) ?_
        refine .litR (f := pv60) ([(⟨y7.Limit, y7.Last, y7.Counts, y7.Frames, y7.Buckets⟩ : Recorder), (⟨a2.Limit, a2.Last, a2.Counts, a2.Frames, a2.Buckets⟩ : Recorder)] : List Recorder) ?_
        refine .lenL (f := pv60) ?_
        refine .move ?_
        refine .nil ?_
        refine .imp (T := St.of [(1, .sl 3 .ro (a1.map (PV.int .i64))), (4, .int .i64 a4), (5, .int .i64 a5), (9, .ptr (.loc 0 1) 0), (42, .sl 60 .ro (([(⟨y7.Limit, y7.Last, y7.Counts, y7.Frames, y7.Buckets⟩ : Recorder), (⟨a2.Limit, a2.Last, a2.Counts, a2.Frames, a2.Buckets⟩ : Recorder)] : List Recorder).map pv60)), (43, .int .i64 (([(⟨y7.Limit, y7.Last, y7.Counts, y7.Frames, y7.Buckets⟩ : Recorder), (⟨a2.Limit, a2.Last, a2.Counts, a2.Frames, a2.Buckets⟩ : Recorder)] : List Recorder).length : Int)), (44, .int .i64 0)] [((.loc 0 1), [.int .i64 a3.Kind, .int .i64 a3.At, .int .i64 a3.Quanta, .int .i64 a3.Stream, .int .u64 a3.Device, .int .i64 a3.Frames])]) (imp_of (.cons rfl (.cons rfl (.cons rfl (.cons rfl (.cons rfl (.cons rfl (.cons rfl (.nil)))))))) (.cons rfl (.nil))) ?_
        refine .block ?_
        refine .loopI (fun m T => ∃ (v307 : Int), T = St.of [(1, .sl 3 .ro (a1.map (PV.int .i64))), (4, .int .i64 a4), (5, .int .i64 a5), (9, .ptr (.loc 0 1) 0), (42, .sl 60 .ro (([(⟨y7.Limit, y7.Last, y7.Counts, y7.Frames, y7.Buckets⟩ : Recorder), (⟨a2.Limit, a2.Last, a2.Counts, a2.Frames, a2.Buckets⟩ : Recorder)] : List Recorder).map pv60)), (43, .int .i64 (([(⟨y7.Limit, y7.Last, y7.Counts, y7.Frames, y7.Buckets⟩ : Recorder), (⟨a2.Limit, a2.Last, a2.Counts, a2.Frames, a2.Buckets⟩ : Recorder)] : List Recorder).length : Int)), (44, .int .i64 v307)] [((.loc 0 1), [.int .i64 a3.Kind, .int .i64 a3.At, .int .i64 a3.Quanta, .int .i64 a3.Stream, .int .u64 a3.Device, .int .i64 a3.Frames])] ∧ f12_l1 n a1 a2 a3 a4 y7 j232 m v307 = some r) _ _ ⟨_, rfl, h⟩ (imp_of (.cons rfl (.cons rfl (.cons rfl (.cons rfl (.cons rfl (.cons rfl (.cons rfl (.nil)))))))) (.cons rfl (.nil))) ?_
        rintro m383 T ⟨v307, rfl, h⟩
        obtain _ | m383 := m383
        · rw [f12_l1] at h; cases h
        rw [f12_l1] at h
        refine .seq ?_
        refine .region ?_
        refine .val ?_
        refine .nil ?_
        refine .seq ?_
        refine .cond (fun hc385 => ?_) (fun hc385 => ?_)
        · replace h := (if_pos hc385).symm.trans h
          refine .skip ?_
          obtain ⟨j458, hj458, h⟩ := joinE h
          refine .cutI (fun T => (T = St.of [(1, .sl 3 .ro (a1.map (PV.int .i64))), (4, .int .i64 a4), (5, .int .i64 a5), (9, .ptr (.loc 0 1) 0), (42, .sl 60 .ro (([(⟨y7.Limit, y7.Last, y7.Counts, y7.Frames, y7.Buckets⟩ : Recorder), (⟨a2.Limit, a2.Last, a2.Counts, a2.Frames, a2.Buckets⟩ : Recorder)] : List Recorder).map pv60)), (43, .int .i64 (([(⟨y7.Limit, y7.Last, y7.Counts, y7.Frames, y7.Buckets⟩ : Recorder), (⟨a2.Limit, a2.Last, a2.Counts, a2.Frames, a2.Buckets⟩ : Recorder)] : List Recorder).length : Int)), (44, .int .i64 v307)] [((.loc 0 1), [.int .i64 a3.Kind, .int .i64 a3.At, .int .i64 a3.Quanta, .int .i64 a3.Stream, .int .u64 a3.Device, .int .i64 a3.Frames])] ∧ j458 () = some r)) ?_ ?_
          · refine .block ?_
            refine .seq ?_
            refine .region ?_
            obtain ⟨x459, hx459, h⟩ := bindE h
            refine .idxL (f := pv60) hx459 ?_
            refine .ldL hx459 (y := .agg [.int .i64 x459.Limit, .sl 97 .ro (x459.Last.map pv97), .int .i64 (x459.Counts 0), .int .i64 (x459.Counts 1), .int .i64 (x459.Counts 2), .int .i64 (x459.Counts 3), .int .i64 (x459.Counts 4), .int .i64 x459.Frames, .int .i64 (x459.Buckets 0), .int .i64 (x459.Buckets 1), .int .i64 (x459.Buckets 2), .int .i64 (x459.Buckets 3), .int .i64 (x459.Buckets 4), .int .i64 (x459.Buckets 5), .int .i64 (x459.Buckets 6), .int .i64 (x459.Buckets 7), .int .i64 (x459.Buckets 8), .int .i64 (x459.Buckets 9), .int .i64 (x459.Buckets 10), .int .i64 (x459.Buckets 11), .int .i64 (x459.Buckets 12), .int .i64 (x459.Buckets 13), .int .i64 (x459.Buckets 14), .int .i64 (x459.Buckets 15), .int .i64 (x459.Buckets 16), .int .i64 (x459.Buckets 17), .int .i64 (x459.Buckets 18), .int .i64 (x459.Buckets 19), .int .i64 (x459.Buckets 20), .int .i64 (x459.Buckets 21), .int .i64 (x459.Buckets 22), .int .i64 (x459.Buckets 23)]) ?_
            refine .allocL (cs := [.int .i64 0, .sl 97 .full [], .int .i64 (aZ 0), .int .i64 (aZ 1), .int .i64 (aZ 2), .int .i64 (aZ 3), .int .i64 (aZ 4), .int .i64 0, .int .i64 (aZ 0), .int .i64 (aZ 1), .int .i64 (aZ 2), .int .i64 (aZ 3), .int .i64 (aZ 4), .int .i64 (aZ 5), .int .i64 (aZ 6), .int .i64 (aZ 7), .int .i64 (aZ 8), .int .i64 (aZ 9), .int .i64 (aZ 10), .int .i64 (aZ 11), .int .i64 (aZ 12), .int .i64 (aZ 13), .int .i64 (aZ 14), .int .i64 (aZ 15), .int .i64 (aZ 16), .int .i64 (aZ 17), .int .i64 (aZ 18), .int .i64 (aZ 19), .int .i64 (aZ 20), .int .i64 (aZ 21), .int .i64 (aZ 22), .int .i64 (aZ 23)]) ?_
            refine .wrL (cs := [.int .i64 x459.Limit, .sl 97 .ro (x459.Last.map pv97), .int .i64 (x459.Counts 0), .int .i64 (x459.Counts 1), .int .i64 (x459.Counts 2), .int .i64 (x459.Counts 3), .int .i64 (x459.Counts 4), .int .i64 x459.Frames, .int .i64 (x459.Buckets 0), .int .i64 (x459.Buckets 1), .int .i64 (x459.Buckets 2), .int .i64 (x459.Buckets 3), .int .i64 (x459.Buckets 4), .int .i64 (x459.Buckets 5), .int .i64 (x459.Buckets 6), .int .i64 (x459.Buckets 7), .int .i64 (x459.Buckets 8), .int .i64 (x459.Buckets 9), .int .i64 (x459.Buckets 10), .int .i64 (x459.Buckets 11), .int .i64 (x459.Buckets 12), .int .i64 (x459.Buckets 13), .int .i64 (x459.Buckets 14), .int .i64 (x459.Buckets 15), .int .i64 (x459.Buckets 16), .int .i64 (x459.Buckets 17), .int .i64 (x459.Buckets 18), .int .i64 (x459.Buckets 19), .int .i64 (x459.Buckets 20), .int .i64 (x459.Buckets 21), .int .i64 (x459.Buckets 22), .int .i64 (x459.Buckets 23)]) ?_
            refine .nil ?_
            refine .seq ?_
            refine .seq ?_
            obtain ⟨y463, hy463, h⟩ := bindE h
            obtain ⟨y464, hy464, h⟩ := bindE h
            refine .draw [] [[], [], [], [], []] [[], [], [], [], []] [[]]
              [(0, 0), (1, 0), (2, 0), (3, 0), (4, 0)] [] 0
              [⟨[(48, .agg [.int .i64 x459.Limit, .sl 97 .ro (x459.Last.map pv97), .int .i64 (x459.Counts 0), .int .i64 (x459.Counts 1), .int .i64 (x459.Counts 2), .int .i64 (x459.Counts 3), .int .i64 (x459.Counts 4), .int .i64 x459.Frames, .int .i64 (x459.Buckets 0), .int .i64 (x459.Buckets 1), .int .i64 (x459.Buckets 2), .int .i64 (x459.Buckets 3), .int .i64 (x459.Buckets 4), .int .i64 (x459.Buckets 5), .int .i64 (x459.Buckets 6), .int .i64 (x459.Buckets 7), .int .i64 (x459.Buckets 8), .int .i64 (x459.Buckets 9), .int .i64 (x459.Buckets 10), .int .i64 (x459.Buckets 11), .int .i64 (x459.Buckets 12), .int .i64 (x459.Buckets 13), .int .i64 (x459.Buckets 14), .int .i64 (x459.Buckets 15), .int .i64 (x459.Buckets 16), .int .i64 (x459.Buckets 17), .int .i64 (x459.Buckets 18), .int .i64 (x459.Buckets 19), .int .i64 (x459.Buckets 20), .int .i64 (x459.Buckets 21), .int .i64 (x459.Buckets 22), .int .i64 (x459.Buckets 23)]), (49, .bool y463), (50, .agg [.int .i64 x459.Limit, .sl 97 .ro (x459.Last.map pv97), .int .i64 (x459.Counts 0), .int .i64 (x459.Counts 1), .int .i64 (x459.Counts 2), .int .i64 (x459.Counts 3), .int .i64 (x459.Counts 4), .int .i64 x459.Frames, .int .i64 (x459.Buckets 0), .int .i64 (x459.Buckets 1), .int .i64 (x459.Buckets 2), .int .i64 (x459.Buckets 3), .int .i64 (x459.Buckets 4), .int .i64 (x459.Buckets 5), .int .i64 (x459.Buckets 6), .int .i64 (x459.Buckets 7), .int .i64 (x459.Buckets 8), .int .i64 (x459.Buckets 9), .int .i64 (x459.Buckets 10), .int .i64 (x459.Buckets 11), .int .i64 (x459.Buckets 12), .int .i64 (x459.Buckets 13), .int .i64 (x459.Buckets 14), .int .i64 (x459.Buckets 15), .int .i64 (x459.Buckets 16), .int .i64 (x459.Buckets 17), .int .i64 (x459.Buckets 18), .int .i64 (x459.Buckets 19), .int .i64 (x459.Buckets 20), .int .i64 (x459.Buckets 21), .int .i64 (x459.Buckets 22), .int .i64 (x459.Buckets 23)]), (51, .bool y464), (52, .bool (!(y463 == y464))), (1, .sl 3 .ro (a1.map (PV.int .i64))), (4, .int .i64 a4), (5, .int .i64 a5), (9, .ptr (.loc 0 1) 0), (15, .ptr (.loc 8 2) 0), (42, .sl 60 .ro (([(⟨y7.Limit, y7.Last, y7.Counts, y7.Frames, y7.Buckets⟩ : Recorder), (⟨a2.Limit, a2.Last, a2.Counts, a2.Frames, a2.Buckets⟩ : Recorder)] : List Recorder).map pv60)), (43, .int .i64 (([(⟨y7.Limit, y7.Last, y7.Counts, y7.Frames, y7.Buckets⟩ : Recorder), (⟨a2.Limit, a2.Last, a2.Counts, a2.Frames, a2.Buckets⟩ : Recorder)] : List Recorder).length : Int)), (44, .int .i64 v307)], [], [((.loc 0 1), [.int .i64 a3.Kind, .int .i64 a3.At, .int .i64 a3.Quanta, .int .i64 a3.Stream, .int .u64 a3.Device, .int .i64 a3.Frames]), ((.loc 8 2), [.int .i64 x459.Limit, .sl 97 .ro (x459.Last.map pv97), .int .i64 (x459.Counts 0), .int .i64 (x459.Counts 1), .int .i64 (x459.Counts 2), .int .i64 (x459.Counts 3), .int .i64 (x459.Counts 4), .int .i64 x459.Frames, .int .i64 (x459.Buckets 0), .int .i64 (x459.Buckets 1), .int .i64 (x459.Buckets 2), .int .i64 (x459.Buckets 3), .int .i64 (x459.Buckets 4), .int .i64 (x459.Buckets 5), .int .i64 (x459.Buckets 6), .int .i64 (x459.Buckets 7), .int .i64 (x459.Buckets 8), .int .i64 (x459.Buckets 9), .int .i64 (x459.Buckets 10), .int .i64 (x459.Buckets 11), .int .i64 (x459.Buckets 12), .int .i64 (x459.Buckets 13), .int .i64 (x459.Buckets 14), .int .i64 (x459.Buckets 15), .int .i64 (x459.Buckets 16), .int .i64 (x459.Buckets 17), .int .i64 (x459.Buckets 18), .int .i64 (x459.Buckets 19), .int .i64 (x459.Buckets 20), .int .i64 (x459.Buckets 21), .int .i64 (x459.Buckets 22), .int .i64 (x459.Buckets 23)])]⟩]
              [(1, .sl 3 .ro (a1.map (PV.int .i64))), (4, .int .i64 a4), (5, .int .i64 a5), (9, .ptr (.loc 0 1) 0), (15, .ptr (.loc 8 2) 0), (42, .sl 60 .ro (([(⟨y7.Limit, y7.Last, y7.Counts, y7.Frames, y7.Buckets⟩ : Recorder), (⟨a2.Limit, a2.Last, a2.Counts, a2.Frames, a2.Buckets⟩ : Recorder)] : List Recorder).map pv60)), (43, .int .i64 (([(⟨y7.Limit, y7.Last, y7.Counts, y7.Frames, y7.Buckets⟩ : Recorder), (⟨a2.Limit, a2.Last, a2.Counts, a2.Frames, a2.Buckets⟩ : Recorder)] : List Recorder).length : Int)), (44, .int .i64 v307)]
              (.cons [15] [] (fun _ _ h => .val (h _)) rfl rfl <|
              .cons [48] [] (fun _ _ h => .cP (g60 hy463) (h _)) rfl rfl <|
              .cons [15] [] (fun _ _ h => .val (h _)) rfl rfl <|
              .cons [50] [] (fun _ _ h => .cP (g61 hy464) (h _)) rfl rfl <|
              .cons [49, 51] [] (fun _ _ h => .val (h _)) rfl rfl <|
              .nil)
              (.nil)
              (by kernel_rfl) rfl (.cons rfl (.cons rfl (.cons rfl (.cons rfl (.cons rfl (.cons rfl (.cons rfl (.cons rfl (.nil))))))))) (.nil) (.cons rfl (.cons rfl (.nil))) ?_
            refine .imp (T := St.of [(1, .sl 3 .ro (a1.map (PV.int .i64))), (4, .int .i64 a4), (5, .int .i64 a5), (9, .ptr (.loc 0 1) 0), (15, .ptr (.loc 8 2) 0), (42, .sl 60 .ro (([(⟨y7.Limit, y7.Last, y7.Counts, y7.Frames, y7.Buckets⟩ : Recorder), (⟨a2.Limit, a2.Last, a2.Counts, a2.Frames, a2.Buckets⟩ : Recorder)] : List Recorder).map pv60)), (43, .int .i64 (([(⟨y7.Limit, y7.Last, y7.Counts, y7.Frames, y7.Buckets⟩ : Recorder), (⟨a2.Limit, a2.Last, a2.Counts, a2.Frames, a2.Buckets⟩ : Recorder)] : List Recorder).length : Int)), (44, .int .i64 v307), (52, .bool (!(y463 == y464)))] [((.loc 0 1), [.int .i64 a3.Kind, .int .i64 a3.At, .int .i64 a3.Quanta, .int .i64 a3.Stream, .int .u64 a3.Device, .int .i64 a3.Frames]), ((.loc 8 2), [.int .i64 x459.Limit, .sl 97 .ro (x459.Last.map pv97), .int .i64 (x459.Counts 0), .int .i64 (x459.Counts 1), .int .i64 (x459.Counts 2), .int .i64 (x459.Counts 3), .int .i64 (x459.Counts 4), .int .i64 x459.Frames, .int .i64 (x459.Buckets 0), .int .i64 (x459.Buckets 1), .int .i64 (x459.Buckets 2), .int .i64 (x459.Buckets 3), .int .i64 (x459.Buckets 4), .int .i64 (x459.Buckets 5), .int .i64 (x459.Buckets 6), .int .i64 (x459.Buckets 7), .int .i64 (x459.Buckets 8), .int .i64 (x459.Buckets 9), .int .i64 (x459.Buckets 10), .int .i64 (x459.Buckets 11), .int .i64 (x459.Buckets 12), .int .i64 (x459.Buckets 13), .int .i64 (x459.Buckets 14), .int .i64 (x459.Buckets 15), .int .i64 (x459.Buckets 16), .int .i64 (x459.Buckets 17), .int .i64 (x459.Buckets 18), .int .i64 (x459.Buckets 19), .int .i64 (x459.Buckets 20), .int .i64 (x459.Buckets 21), .int .i64 (x459.Buckets 22), .int .i64 (x459.Buckets 23)])]) (imp_of (.cons rfl (.cons rfl (.cons rfl (.cons rfl (.cons rfl (.cons rfl (.cons rfl (.cons rfl (.cons rfl (.nil)))))))))) (.cons rfl (.cons rfl (.nil)))) ?_
            refine .cond (fun hc465 => ?_) (fun hc465 => ?_)
            · replace h := (if_pos hc465).symm.trans h
              refine .seq ?_
              refine .region ?_
              refine .assign ?_
              refine .nil ?_
              cases h
              exact .ret (fin_gen0 none)
            · replace h := (if_neg (nt hc465)).symm.trans h
              refine .skip ?_
              obtain ⟨j500, hj500, h⟩ := joinE h
              refine .cutI (fun T => (T = St.of [(1, .sl 3 .ro (a1.map (PV.int .i64))), (4, .int .i64 a4), (5, .int .i64 a5), (9, .ptr (.loc 0 1) 0), (15, .ptr (.loc 8 2) 0), (42, .sl 60 .ro (([(⟨y7.Limit, y7.Last, y7.Counts, y7.Frames, y7.Buckets⟩ : Recorder), (⟨a2.Limit, a2.Last, a2.Counts, a2.Frames, a2.Buckets⟩ : Recorder)] : List Recorder).map pv60)), (43, .int .i64 (([(⟨y7.Limit, y7.Last, y7.Counts, y7.Frames, y7.Buckets⟩ : Recorder), (⟨a2.Limit, a2.Last, a2.Counts, a2.Frames, a2.Buckets⟩ : Recorder)] : List Recorder).length : Int)), (44, .int .i64 v307)] [((.loc 0 1), [.int .i64 a3.Kind, .int .i64 a3.At, .int .i64 a3.Quanta, .int .i64 a3.Stream, .int .u64 a3.Device, .int .i64 a3.Frames]), ((.loc 8 2), [.int .i64 x459.Limit, .sl 97 .ro (x459.Last.map pv97), .int .i64 (x459.Counts 0), .int .i64 (x459.Counts 1), .int .i64 (x459.Counts 2), .int .i64 (x459.Counts 3), .int .i64 (x459.Counts 4), .int .i64 x459.Frames, .int .i64 (x459.Buckets 0), .int .i64 (x459.Buckets 1), .int .i64 (x459.Buckets 2), .int .i64 (x459.Buckets 3), .int .i64 (x459.Buckets 4), .int .i64 (x459.Buckets 5), .int .i64 (x459.Buckets 6), .int .i64 (x459.Buckets 7), .int .i64 (x459.Buckets 8), .int .i64 (x459.Buckets 9), .int .i64 (x459.Buckets 10), .int .i64 (x459.Buckets 11), .int .i64 (x459.Buckets 12), .int .i64 (x459.Buckets 13), .int .i64 (x459.Buckets 14), .int .i64 (x459.Buckets 15), .int .i64 (x459.Buckets 16), .int .i64 (x459.Buckets 17), .int .i64 (x459.Buckets 18), .int .i64 (x459.Buckets 19), .int .i64 (x459.Buckets 20), .int .i64 (x459.Buckets 21), .int .i64 (x459.Buckets 22), .int .i64 (x459.Buckets 23)])] ∧ j500 () = some r)) ?_ ?_
              · refine .seq ?_
                obtain ⟨y501, hy501, h⟩ := bindE h
                obtain ⟨y502, hy502, h⟩ := bindE h
                refine .draw [2, 3] [[], [], [], [2], [2, 3], [2, 3], []] [[], [2, 3], [3], [], [], [], []] [[], [2], [2, 3]]
                  [(0, 0), (0, 1), (0, 2), (1, 0), (4, 2), (5, 2), (6, 0), (6, 1), (6, 2)] [(0, 2, 1), (1, 3, 2)] 2
                  [⟨[(53, .agg [.int .i64 a3.Kind, .int .i64 a3.At, .int .i64 a3.Quanta, .int .i64 a3.Stream, .int .u64 a3.Device, .int .i64 a3.Frames]), (54, .sl 3 .ro (a1.map (PV.int .i64))), (59, .int .i64 0), (1, .sl 3 .ro (a1.map (PV.int .i64))), (4, .int .i64 a4), (5, .int .i64 a5), (9, .ptr (.loc 0 1) 0), (15, .ptr (.loc 8 2) 0), (42, .sl 60 .ro (([(⟨y7.Limit, y7.Last, y7.Counts, y7.Frames, y7.Buckets⟩ : Recorder), (⟨a2.Limit, a2.Last, a2.Counts, a2.Frames, a2.Buckets⟩ : Recorder)] : List Recorder).map pv60)), (43, .int .i64 (([(⟨y7.Limit, y7.Last, y7.Counts, y7.Frames, y7.Buckets⟩ : Recorder), (⟨a2.Limit, a2.Last, a2.Counts, a2.Frames, a2.Buckets⟩ : Recorder)] : List Recorder).length : Int)), (44, .int .i64 v307)], [], [((.loc 0 1), [.int .i64 a3.Kind, .int .i64 a3.At, .int .i64 a3.Quanta, .int .i64 a3.Stream, .int .u64 a3.Device, .int .i64 a3.Frames]), ((.loc 8 2), [.int .i64 x459.Limit, .sl 97 .ro (x459.Last.map pv97), .int .i64 (x459.Counts 0), .int .i64 (x459.Counts 1), .int .i64 (x459.Counts 2), .int .i64 (x459.Counts 3), .int .i64 (x459.Counts 4), .int .i64 x459.Frames, .int .i64 (x459.Buckets 0), .int .i64 (x459.Buckets 1), .int .i64 (x459.Buckets 2), .int .i64 (x459.Buckets 3), .int .i64 (x459.Buckets 4), .int .i64 (x459.Buckets 5), .int .i64 (x459.Buckets 6), .int .i64 (x459.Buckets 7), .int .i64 (x459.Buckets 8), .int .i64 (x459.Buckets 9), .int .i64 (x459.Buckets 10), .int .i64 (x459.Buckets 11), .int .i64 (x459.Buckets 12), .int .i64 (x459.Buckets 13), .int .i64 (x459.Buckets 14), .int .i64 (x459.Buckets 15), .int .i64 (x459.Buckets 16), .int .i64 (x459.Buckets 17), .int .i64 (x459.Buckets 18), .int .i64 (x459.Buckets 19), .int .i64 (x459.Buckets 20), .int .i64 (x459.Buckets 21), .int .i64 (x459.Buckets 22), .int .i64 (x459.Buckets 23)])]⟩,
                  ⟨[(53, .agg [.int .i64 a3.Kind, .int .i64 a3.At, .int .i64 a3.Quanta, .int .i64 a3.Stream, .int .u64 a3.Device, .int .i64 a3.Frames]), (54, .sl 3 .ro (a1.map (PV.int .i64))), (55, .ptr (.loc 11 2) 0), (59, .int .i64 0), (1, .sl 3 .ro (a1.map (PV.int .i64))), (4, .int .i64 a4), (5, .int .i64 a5), (9, .ptr (.loc 0 1) 0), (15, .ptr (.loc 8 2) 0), (42, .sl 60 .ro (([(⟨y7.Limit, y7.Last, y7.Counts, y7.Frames, y7.Buckets⟩ : Recorder), (⟨a2.Limit, a2.Last, a2.Counts, a2.Frames, a2.Buckets⟩ : Recorder)] : List Recorder).map pv60)), (43, .int .i64 (([(⟨y7.Limit, y7.Last, y7.Counts, y7.Frames, y7.Buckets⟩ : Recorder), (⟨a2.Limit, a2.Last, a2.Counts, a2.Frames, a2.Buckets⟩ : Recorder)] : List Recorder).length : Int)), (44, .int .i64 v307)], [], [((.loc 0 1), [.int .i64 a3.Kind, .int .i64 a3.At, .int .i64 a3.Quanta, .int .i64 a3.Stream, .int .u64 a3.Device, .int .i64 a3.Frames]), ((.loc 8 2), [.int .i64 x459.Limit, .sl 97 .ro (x459.Last.map pv97), .int .i64 (x459.Counts 0), .int .i64 (x459.Counts 1), .int .i64 (x459.Counts 2), .int .i64 (x459.Counts 3), .int .i64 (x459.Counts 4), .int .i64 x459.Frames, .int .i64 (x459.Buckets 0), .int .i64 (x459.Buckets 1), .int .i64 (x459.Buckets 2), .int .i64 (x459.Buckets 3), .int .i64 (x459.Buckets 4), .int .i64 (x459.Buckets 5), .int .i64 (x459.Buckets 6), .int .i64 (x459.Buckets 7), .int .i64 (x459.Buckets 8), .int .i64 (x459.Buckets 9), .int .i64 (x459.Buckets 10), .int .i64 (x459.Buckets 11), .int .i64 (x459.Buckets 12), .int .i64 (x459.Buckets 13), .int .i64 (x459.Buckets 14), .int .i64 (x459.Buckets 15), .int .i64 (x459.Buckets 16), .int .i64 (x459.Buckets 17), .int .i64 (x459.Buckets 18), .int .i64 (x459.Buckets 19), .int .i64 (x459.Buckets 20), .int .i64 (x459.Buckets 21), .int .i64 (x459.Buckets 22), .int .i64 (x459.Buckets 23)]), ((.loc 11 2), [.sl 3 .ro (y501.L.map (PV.int .i64)), .int .i64 y501.At])]⟩,
                  ⟨[(53, .agg [.int .i64 a3.Kind, .int .i64 a3.At, .int .i64 a3.Quanta, .int .i64 a3.Stream, .int .u64 a3.Device, .int .i64 a3.Frames]), (54, .sl 3 .ro (a1.map (PV.int .i64))), (55, .ptr (.loc 11 2) 0), (56, .agg [.int .i64 y502.1.Kind, .int .i64 y502.1.At, .int .i64 y502.1.Quanta, .int .i64 y502.1.Stream, .int .u64 y502.1.Device, .int .i64 y502.1.Frames]), (57, .sl 97 .ro (([(⟨a3.Kind, a3.At, a3.Quanta, a3.Stream, a3.Device, a3.Frames⟩ : Glitch), y502.1] : List Glitch).map pv97)), (58, .int .i64 (([(⟨a3.Kind, a3.At, a3.Quanta, a3.Stream, a3.Device, a3.Frames⟩ : Glitch), y502.1] : List Glitch).length : Int)), (59, .int .i64 0), (1, .sl 3 .ro (a1.map (PV.int .i64))), (4, .int .i64 a4), (5, .int .i64 a5), (9, .ptr (.loc 0 1) 0), (15, .ptr (.loc 8 2) 0), (42, .sl 60 .ro (([(⟨y7.Limit, y7.Last, y7.Counts, y7.Frames, y7.Buckets⟩ : Recorder), (⟨a2.Limit, a2.Last, a2.Counts, a2.Frames, a2.Buckets⟩ : Recorder)] : List Recorder).map pv60)), (43, .int .i64 (([(⟨y7.Limit, y7.Last, y7.Counts, y7.Frames, y7.Buckets⟩ : Recorder), (⟨a2.Limit, a2.Last, a2.Counts, a2.Frames, a2.Buckets⟩ : Recorder)] : List Recorder).length : Int)), (44, .int .i64 v307)], [], [((.loc 0 1), [.int .i64 a3.Kind, .int .i64 a3.At, .int .i64 a3.Quanta, .int .i64 a3.Stream, .int .u64 a3.Device, .int .i64 a3.Frames]), ((.loc 8 2), [.int .i64 x459.Limit, .sl 97 .ro (x459.Last.map pv97), .int .i64 (x459.Counts 0), .int .i64 (x459.Counts 1), .int .i64 (x459.Counts 2), .int .i64 (x459.Counts 3), .int .i64 (x459.Counts 4), .int .i64 x459.Frames, .int .i64 (x459.Buckets 0), .int .i64 (x459.Buckets 1), .int .i64 (x459.Buckets 2), .int .i64 (x459.Buckets 3), .int .i64 (x459.Buckets 4), .int .i64 (x459.Buckets 5), .int .i64 (x459.Buckets 6), .int .i64 (x459.Buckets 7), .int .i64 (x459.Buckets 8), .int .i64 (x459.Buckets 9), .int .i64 (x459.Buckets 10), .int .i64 (x459.Buckets 11), .int .i64 (x459.Buckets 12), .int .i64 (x459.Buckets 13), .int .i64 (x459.Buckets 14), .int .i64 (x459.Buckets 15), .int .i64 (x459.Buckets 16), .int .i64 (x459.Buckets 17), .int .i64 (x459.Buckets 18), .int .i64 (x459.Buckets 19), .int .i64 (x459.Buckets 20), .int .i64 (x459.Buckets 21), .int .i64 (x459.Buckets 22), .int .i64 (x459.Buckets 23)]), ((.loc 11 2), [.sl 3 .ro (y502.2.L.map (PV.int .i64)), .int .i64 y502.2.At])]⟩]
                  [(1, .sl 3 .ro (a1.map (PV.int .i64))), (4, .int .i64 a4), (5, .int .i64 a5), (9, .ptr (.loc 0 1) 0), (15, .ptr (.loc 8 2) 0), (42, .sl 60 .ro (([(⟨y7.Limit, y7.Last, y7.Counts, y7.Frames, y7.Buckets⟩ : Recorder), (⟨a2.Limit, a2.Last, a2.Counts, a2.Frames, a2.Buckets⟩ : Recorder)] : List Recorder).map pv60)), (43, .int .i64 (([(⟨y7.Limit, y7.Last, y7.Counts, y7.Frames, y7.Buckets⟩ : Recorder), (⟨a2.Limit, a2.Last, a2.Counts, a2.Frames, a2.Buckets⟩ : Recorder)] : List Recorder).length : Int)), (44, .int .i64 v307)]
                  (.cons [9] [] (fun _ _ h => .val (h _)) rfl rfl <|
                  .cons [9] [] (fun _ _ h => .val (h _)) rfl rfl <|
                  .cons [9] [] (fun _ _ h => .val (h _)) rfl rfl <|
                  .cons [1] [] (fun _ _ h => .move (h _)) rfl rfl <|
                  .cons [53, 56] [] (fun _ _ h => .litR (f := pv97) ([(⟨a3.Kind, a3.At, a3.Quanta, a3.Stream, a3.Device, a3.Frames⟩ : Glitch), y502.1] : List Glitch) (h _)) rfl rfl <|
                  .cons [57] [] (fun _ _ h => .lenL (f := pv97) (h _)) rfl rfl <|
                  .cons [] [] (fun _ _ h => .move (h _)) rfl rfl <|
                  .cons [] [] (fun _ _ h => .move (h _)) rfl rfl <|
                  .cons [] [] (fun _ _ h => .move (h _)) rfl rfl <|
                  .nil)
                  (.cons (PV.sub (oneSub (.loc 11 2) .kill)) [54] [] (fun _ _ h => .cB (.loc 11 2) (g42 hy501) (h _ _ (.cons rfl (.cons rfl (.cons rfl (.nil)))))) rfl (.old rfl (.old rfl (.new rfl (.old rfl (.old rfl (.old rfl (.old rfl (.old rfl (.old rfl (.old rfl (.old rfl (.old rfl (.nil))))))))))))) rfl rfl <|
                  .cons (fun x => x) [55] [] (fun _ _ h => .cH (.loc 11 2) (g62 hy502) (h _ _ (.cons rfl (.cons rfl (.cons rfl (.nil)))))) rfl (.old rfl (.old rfl (.old rfl (.new rfl (.new rfl (.new rfl (.old rfl (.old rfl (.old rfl (.old rfl (.old rfl (.old rfl (.old rfl (.old rfl (.old rfl (.nil)))))))))))))))) rfl rfl <|
                  .nil)
                  (by kernel_rfl) rfl (.cons rfl (.cons rfl (.cons rfl (.cons rfl (.cons rfl (.cons rfl (.cons rfl (.cons rfl (.nil))))))))) (.nil) (.cons rfl (.cons rfl (.nil))) ?_
                refine .imp (T := St.of [(1, .sl 3 .ro (a1.map (PV.int .i64))), (4, .int .i64 a4), (5, .int .i64 a5), (9, .ptr (.loc 0 1) 0), (15, .ptr (.loc 8 2) 0), (42, .sl 60 .ro (([(⟨y7.Limit, y7.Last, y7.Counts, y7.Frames, y7.Buckets⟩ : Recorder), (⟨a2.Limit, a2.Last, a2.Counts, a2.Frames, a2.Buckets⟩ : Recorder)] : List Recorder).map pv60)), (43, .int .i64 (([(⟨y7.Limit, y7.Last, y7.Counts, y7.Frames, y7.Buckets⟩ : Recorder), (⟨a2.Limit, a2.Last, a2.Counts, a2.Frames, a2.Buckets⟩ : Recorder)] : List Recorder).length : Int)), (44, .int .i64 v307), (57, .sl 97 .ro (([(⟨a3.Kind, a3.At, a3.Quanta, a3.Stream, a3.Device, a3.Frames⟩ : Glitch), y502.1] : List Glitch).map pv97)), (58, .int .i64 (([(⟨a3.Kind, a3.At, a3.Quanta, a3.Stream, a3.Device, a3.Frames⟩ : Glitch), y502.1] : List Glitch).length : Int)), (59, .int .i64 0)] [((.loc 0 1), [.int .i64 a3.Kind, .int .i64 a3.At, .int .i64 a3.Quanta, .int .i64 a3.Stream, .int .u64 a3.Device, .int .i64 a3.Frames]), ((.loc 8 2), [.int .i64 x459.Limit, .sl 97 .ro (x459.Last.map pv97), .int .i64 (x459.Counts 0), .int .i64 (x459.Counts 1), .int .i64 (x459.Counts 2), .int .i64 (x459.Counts 3), .int .i64 (x459.Counts 4), .int .i64 x459.Frames, .int .i64 (x459.Buckets 0), .int .i64 (x459.Buckets 1), .int .i64 (x459.Buckets 2), .int .i64 (x459.Buckets 3), .int .i64 (x459.Buckets 4), .int .i64 (x459.Buckets 5), .int .i64 (x459.Buckets 6), .int .i64 (x459.Buckets 7), .int .i64 (x459.Buckets 8), .int .i64 (x459.Buckets 9), .int .i64 (x459.Buckets 10), .int .i64 (x459.Buckets 11), .int .i64 (x459.Buckets 12), .int .i64 (x459.Buckets 13), .int .i64 (x459.Buckets 14), .int .i64 (x459.Buckets 15), .int .i64 (x459.Buckets 16), .int .i64 (x459.Buckets 17), .int .i64 (x459.Buckets 18), .int .i64 (x459.Buckets 19), .int .i64 (x459.Buckets 20), .int .i64 (x459.Buckets 21), .int .i64 (x459.Buckets 22), .int .i64 (x459.Buckets 23)])]) (imp_of (.cons rfl (.cons rfl (.cons rfl (.cons rfl (.cons rfl (.cons rfl (.cons rfl (.cons rfl (.cons rfl (.cons rfl (.cons rfl (.nil)))))))))))) (.cons rfl (.cons rfl (.nil)))) ?_
                refine .block ?_
                refine .loopI (fun m T => ∃ (v513 : Int), T = St.of [(1, .sl 3 .ro (a1.map (PV.int .i64))), (4, .int .i64 a4), (5, .int .i64 a5), (9, .ptr (.loc 0 1) 0), (15, .ptr (.loc 8 2) 0), (42, .sl 60 .ro (([(⟨y7.Limit, y7.Last, y7.Counts, y7.Frames, y7.Buckets⟩ : Recorder), (⟨a2.Limit, a2.Last, a2.Counts, a2.Frames, a2.Buckets⟩ : Recorder)] : List Recorder).map pv60)), (43, .int .i64 (([(⟨y7.Limit, y7.Last, y7.Counts, y7.Frames, y7.Buckets⟩ : Recorder), (⟨a2.Limit, a2.Last, a2.Counts, a2.Frames, a2.Buckets⟩ : Recorder)] : List Recorder).length : Int)), (44, .int .i64 v307), (57, .sl 97 .ro (([(⟨a3.Kind, a3.At, a3.Quanta, a3.Stream, a3.Device, a3.Frames⟩ : Glitch), y502.1] : List Glitch).map pv97)), (58, .int .i64 (([(⟨a3.Kind, a3.At, a3.Quanta, a3.Stream, a3.Device, a3.Frames⟩ : Glitch), y502.1] : List Glitch).length : Int)), (59, .int .i64 v513)] [((.loc 0 1), [.int .i64 a3.Kind, .int .i64 a3.At, .int .i64 a3.Quanta, .int .i64 a3.Stream, .int .u64 a3.Device, .int .i64 a3.Frames]), ((.loc 8 2), [.int .i64 x459.Limit, .sl 97 .ro (x459.Last.map pv97), .int .i64 (x459.Counts 0), .int .i64 (x459.Counts 1), .int .i64 (x459.Counts 2), .int .i64 (x459.Counts 3), .int .i64 (x459.Counts 4), .int .i64 x459.Frames, .int .i64 (x459.Buckets 0), .int .i64 (x459.Buckets 1), .int .i64 (x459.Buckets 2), .int .i64 (x459.Buckets 3), .int .i64 (x459.Buckets 4), .int .i64 (x459.Buckets 5), .int .i64 (x459.Buckets 6), .int .i64 (x459.Buckets 7), .int .i64 (x459.Buckets 8), .int .i64 (x459.Buckets 9), .int .i64 (x459.Buckets 10), .int .i64 (x459.Buckets 11), .int .i64 (x459.Buckets 12), .int .i64 (x459.Buckets 13), .int .i64 (x459.Buckets 14), .int .i64 (x459.Buckets 15), .int .i64 (x459.Buckets 16), .int .i64 (x459.Buckets 17), .int .i64 (x459.Buckets 18), .int .i64 (x459.Buckets 19), .int .i64 (x459.Buckets 20), .int .i64 (x459.Buckets 21), .int .i64 (x459.Buckets 22), .int .i64 (x459.Buckets 23)])] ∧ f12_l2 n a3 x459 j500 y502 m v513 = some r) _ _ ⟨_, rfl, h⟩ (imp_of (.cons rfl (.cons rfl (.cons rfl (.cons rfl (.cons rfl (.cons rfl (.cons rfl (.cons rfl (.cons rfl (.cons rfl (.cons rfl (.nil)))))))))))) (.cons rfl (.cons rfl (.nil)))) ?_
                rintro m525 T ⟨v513, rfl, h⟩
                obtain _ | m525 := m525
                · rw [f12_l2] at h; cases h
                rw [f12_l2] at h
                refine .seq ?_
                refine .region ?_
                refine .val ?_
                refine .nil ?_
                refine .seq ?_
                refine .cond (fun hc527 => ?_) (fun hc527 => ?_)
                · replace h := (if_pos hc527).symm.trans h
                  refine .skip ?_
                  refine .seq ?_
                  refine .block ?_
                  refine .seq ?_
                  refine .region ?_
                  obtain ⟨x537, hx537, h⟩ := bindE h
                  refine .idxL (f := pv97) hx537 ?_
                  refine .ldL hx537 (y := .agg [.int .i64 x537.Kind, .int .i64 x537.At, .int .i64 x537.Quanta, .int .i64 x537.Stream, .int .u64 x537.Device, .int .i64 x537.Frames]) ?_
                  refine .allocL (cs := [.int .i64 0, .int .i64 0, .int .i64 0, .int .i64 0, .int .u64 0, .int .i64 0]) ?_
                  refine .wrL (cs := [.int .i64 x537.Kind, .int .i64 x537.At, .int .i64 x537.Quanta, .int .i64 x537.Stream, .int .u64 x537.Device, .int .i64 x537.Frames]) ?_
                  refine .nil ?_
                  refine .seq ?_
                  refine .region ?_
                  refine .val (v := .agg [.int .i64 x459.Limit, .sl 97 .ro (x459.Last.map pv97), .int .i64 (x459.Counts 0), .int .i64 (x459.Counts 1), .int .i64 (x459.Counts 2), .int .i64 (x459.Counts 3), .int .i64 (x459.Counts 4), .int .i64 x459.Frames, .int .i64 (x459.Buckets 0), .int .i64 (x459.Buckets 1), .int .i64 (x459.Buckets 2), .int .i64 (x459.Buckets 3), .int .i64 (x459.Buckets 4), .int .i64 (x459.Buckets 5), .int .i64 (x459.Buckets 6), .int .i64 (x459.Buckets 7), .int .i64 (x459.Buckets 8), .int .i64 (x459.Buckets 9), .int .i64 (x459.Buckets 10), .int .i64 (x459.Buckets 11), .int .i64 (x459.Buckets 12), .int .i64 (x459.Buckets 13), .int .i64 (x459.Buckets 14), .int .i64 (x459.Buckets 15), .int .i64 (x459.Buckets 16), .int .i64 (x459.Buckets 17), .int .i64 (x459.Buckets 18), .int .i64 (x459.Buckets 19), .int .i64 (x459.Buckets 20), .int .i64 (x459.Buckets 21), .int .i64 (x459.Buckets 22), .int .i64 (x459.Buckets 23)]) ?_
                  refine .val (v := .agg [.int .i64 x537.Kind, .int .i64 x537.At, .int .i64 x537.Quanta, .int .i64 x537.Stream, .int .u64 x537.Device, .int .i64 x537.Frames]) ?_
                  obtain ⟨y538, hy538, h⟩ := bindE h
                  refine .cP (g63 hy538) ?_
                  refine .move ?_
                  refine .val ?_
                  refine .val ?_
                  refine .allocL (cs := [.int .i64 0, .sl 97 .full [], .int .i64 (aZ 0), .int .i64 (aZ 1), .int .i64 (aZ 2), .int .i64 (aZ 3), .int .i64 (aZ 4), .int .i64 0, .int .i64 (aZ 0), .int .i64 (aZ 1), .int .i64 (aZ 2), .int .i64 (aZ 3), .int .i64 (aZ 4), .int .i64 (aZ 5), .int .i64 (aZ 6), .int .i64 (aZ 7), .int .i64 (aZ 8), .int .i64 (aZ 9), .int .i64 (aZ 10), .int .i64 (aZ 11), .int .i64 (aZ 12), .int .i64 (aZ 13), .int .i64 (aZ 14), .int .i64 (aZ 15), .int .i64 (aZ 16), .int .i64 (aZ 17), .int .i64 (aZ 18), .int .i64 (aZ 19), .int .i64 (aZ 20), .int .i64 (aZ 21), .int .i64 (aZ 22), .int .i64 (aZ 23)]) ?_
                  refine .wrL (cs := [.int .i64 y538.1.Limit, .sl 97 .ro (y538.1.Last.map pv97), .int .i64 (y538.1.Counts 0), .int .i64 (y538.1.Counts 1), .int .i64 (y538.1.Counts 2), .int .i64 (y538.1.Counts 3), .int .i64 (y538.1.Counts 4), .int .i64 y538.1.Frames, .int .i64 (y538.1.Buckets 0), .int .i64 (y538.1.Buckets 1), .int .i64 (y538.1.Buckets 2), .int .i64 (y538.1.Buckets 3), .int .i64 (y538.1.Buckets 4), .int .i64 (y538.1.Buckets 5), .int .i64 (y538.1.Buckets 6), .int .i64 (y538.1.Buckets 7), .int .i64 (y538.1.Buckets 8), .int .i64 (y538.1.Buckets 9), .int .i64 (y538.1.Buckets 10), .int .i64 (y538.1.Buckets 11), .int .i64 (y538.1.Buckets 12), .int .i64 (y538.1.Buckets 13), .int .i64 (y538.1.Buckets 14), .int .i64 (y538.1.Buckets 15), .int .i64 (y538.1.Buckets 16), .int .i64 (y538.1.Buckets 17), .int .i64 (y538.1.Buckets 18), .int .i64 (y538.1.Buckets 19), .int .i64 (y538.1.Buckets 20), .int .i64 (y538.1.Buckets 21), .int .i64 (y538.1.Buckets 22), .int .i64 (y538.1.Buckets 23)]) ?_
                  refine .assign ?_
                  refine .nil ?_
                  refine .seq ?_
                  refine .region ?_
                  refine .val (v := .agg [.int .i64 x459.Limit, .sl 97 .ro (x459.Last.map pv97), .int .i64 (x459.Counts 0), .int .i64 (x459.Counts 1), .int .i64 (x459.Counts 2), .int .i64 (x459.Counts 3), .int .i64 (x459.Counts 4), .int .i64 x459.Frames, .int .i64 (x459.Buckets 0), .int .i64 (x459.Buckets 1), .int .i64 (x459.Buckets 2), .int .i64 (x459.Buckets 3), .int .i64 (x459.Buckets 4), .int .i64 (x459.Buckets 5), .int .i64 (x459.Buckets 6), .int .i64 (x459.Buckets 7), .int .i64 (x459.Buckets 8), .int .i64 (x459.Buckets 9), .int .i64 (x459.Buckets 10), .int .i64 (x459.Buckets 11), .int .i64 (x459.Buckets 12), .int .i64 (x459.Buckets 13), .int .i64 (x459.Buckets 14), .int .i64 (x459.Buckets 15), .int .i64 (x459.Buckets 16), .int .i64 (x459.Buckets 17), .int .i64 (x459.Buckets 18), .int .i64 (x459.Buckets 19), .int .i64 (x459.Buckets 20), .int .i64 (x459.Buckets 21), .int .i64 (x459.Buckets 22), .int .i64 (x459.Buckets 23)]) ?_
                  refine .val (v := .agg [.int .i64 x537.Kind, .int .i64 x537.At, .int .i64 x537.Quanta, .int .i64 x537.Stream, .int .u64 x537.Device, .int .i64 x537.Frames]) ?_
                  obtain ⟨y539, hy539, h⟩ := bindE h
                  refine .cP (g64 hy539) ?_
                  refine .move ?_
                  refine .val ?_
                  refine .val ?_
                  refine .allocL (cs := [.int .i64 0, .sl 97 .full [], .int .i64 (aZ 0), .int .i64 (aZ 1), .int .i64 (aZ 2), .int .i64 (aZ 3), .int .i64 (aZ 4), .int .i64 0, .int .i64 (aZ 0), .int .i64 (aZ 1), .int .i64 (aZ 2), .int .i64 (aZ 3), .int .i64 (aZ 4), .int .i64 (aZ 5), .int .i64 (aZ 6), .int .i64 (aZ 7), .int .i64 (aZ 8), .int .i64 (aZ 9), .int .i64 (aZ 10), .int .i64 (aZ 11), .int .i64 (aZ 12), .int .i64 (aZ 13), .int .i64 (aZ 14), .int .i64 (aZ 15), .int .i64 (aZ 16), .int .i64 (aZ 17), .int .i64 (aZ 18), .int .i64 (aZ 19), .int .i64 (aZ 20), .int .i64 (aZ 21), .int .i64 (aZ 22), .int .i64 (aZ 23)]) ?_
                  refine .wrL (cs := [.int .i64 y539.1.Limit, .sl 97 .ro (y539.1.Last.map pv97), .int .i64 (y539.1.Counts 0), .int .i64 (y539.1.Counts 1), .int .i64 (y539.1.Counts 2), .int .i64 (y539.1.Counts 3), .int .i64 (y539.1.Counts 4), .int .i64 y539.1.Frames, .int .i64 (y539.1.Buckets 0), .int .i64 (y539.1.Buckets 1), .int .i64 (y539.1.Buckets 2), .int .i64 (y539.1.Buckets 3), .int .i64 (y539.1.Buckets 4), .int .i64 (y539.1.Buckets 5), .int .i64 (y539.1.Buckets 6), .int .i64 (y539.1.Buckets 7), .int .i64 (y539.1.Buckets 8), .int .i64 (y539.1.Buckets 9), .int .i64 (y539.1.Buckets 10), .int .i64 (y539.1.Buckets 11), .int .i64 (y539.1.Buckets 12), .int .i64 (y539.1.Buckets 13), .int .i64 (y539.1.Buckets 14), .int .i64 (y539.1.Buckets 15), .int .i64 (y539.1.Buckets 16), .int .i64 (y539.1.Buckets 17), .int .i64 (y539.1.Buckets 18), .int .i64 (y539.1.Buckets 19), .int .i64 (y539.1.Buckets 20), .int .i64 (y539.1.Buckets 21), .int .i64 (y539.1.Buckets 22), .int .i64 (y539.1.Buckets 23)]) ?_
                  refine .assign ?_
                  refine .nil ?_
                  refine .imp (T := St.of [(1, .sl 3 .ro (a1.map (PV.int .i64))), (4, .int .i64 a4), (5, .int .i64 a5), (9, .ptr (.loc 0 1) 0), (15, .ptr (.loc 8 2) 0), (18, .ptr (.loc 14 6) 0), (19, .int .i64 y538.2), (20, .ptr (.loc 15 6) 0), (21, .int .i64 y539.2), (42, .sl 60 .ro (([(⟨y7.Limit, y7.Last, y7.Counts, y7.Frames, y7.Buckets⟩ : Recorder), (⟨a2.Limit, a2.Last, a2.Counts, a2.Frames, a2.Buckets⟩ : Recorder)] : List Recorder).map pv60)), (43, .int .i64 (([(⟨y7.Limit, y7.Last, y7.Counts, y7.Frames, y7.Buckets⟩ : Recorder), (⟨a2.Limit, a2.Last, a2.Counts, a2.Frames, a2.Buckets⟩ : Recorder)] : List Recorder).length : Int)), (44, .int .i64 v307), (57, .sl 97 .ro (([(⟨a3.Kind, a3.At, a3.Quanta, a3.Stream, a3.Device, a3.Frames⟩ : Glitch), y502.1] : List Glitch).map pv97)), (58, .int .i64 (([(⟨a3.Kind, a3.At, a3.Quanta, a3.Stream, a3.Device, a3.Frames⟩ : Glitch), y502.1] : List Glitch).length : Int)), (59, .int .i64 v513)] [((.loc 0 1), [.int .i64 a3.Kind, .int .i64 a3.At, .int .i64 a3.Quanta, .int .i64 a3.Stream, .int .u64 a3.Device, .int .i64 a3.Frames]), ((.loc 8 2), [.int .i64 x459.Limit, .sl 97 .ro (x459.Last.map pv97), .int .i64 (x459.Counts 0), .int .i64 (x459.Counts 1), .int .i64 (x459.Counts 2), .int .i64 (x459.Counts 3), .int .i64 (x459.Counts 4), .int .i64 x459.Frames, .int .i64 (x459.Buckets 0), .int .i64 (x459.Buckets 1), .int .i64 (x459.Buckets 2), .int .i64 (x459.Buckets 3), .int .i64 (x459.Buckets 4), .int .i64 (x459.Buckets 5), .int .i64 (x459.Buckets 6), .int .i64 (x459.Buckets 7), .int .i64 (x459.Buckets 8), .int .i64 (x459.Buckets 9), .int .i64 (x459.Buckets 10), .int .i64 (x459.Buckets 11), .int .i64 (x459.Buckets 12), .int .i64 (x459.Buckets 13), .int .i64 (x459.Buckets 14), .int .i64 (x459.Buckets 15), .int .i64 (x459.Buckets 16), .int .i64 (x459.Buckets 17), .int .i64 (x459.Buckets 18), .int .i64 (x459.Buckets 19), .int .i64 (x459.Buckets 20), .int .i64 (x459.Buckets 21), .int .i64 (x459.Buckets 22), .int .i64 (x459.Buckets 23)]), ((.loc 14 6), [.int .i64 y538.1.Limit, .sl 97 .ro (y538.1.Last.map pv97), .int .i64 (y538.1.Counts 0), .int .i64 (y538.1.Counts 1), .int .i64 (y538.1.Counts 2), .int .i64 (y538.1.Counts 3), .int .i64 (y538.1.Counts 4), .int .i64 y538.1.Frames, .int .i64 (y538.1.Buckets 0), .int .i64 (y538.1.Buckets 1), .int .i64 (y538.1.Buckets 2), .int .i64 (y538.1.Buckets 3), .int .i64 (y538.1.Buckets 4), .int .i64 (y538.1.Buckets 5), .int .i64 (y538.1.Buckets 6), .int .i64 (y538.1.Buckets 7), .int .i64 (y538.1.Buckets 8), .int .i64 (y538.1.Buckets 9), .int .i64 (y538.1.Buckets 10), .int .i64 (y538.1.Buckets 11), .int .i64 (y538.1.Buckets 12), .int .i64 (y538.1.Buckets 13), .int .i64 (y538.1.Buckets 14), .int .i64 (y538.1.Buckets 15), .int .i64 (y538.1.Buckets 16), .int .i64 (y538.1.Buckets 17), .int .i64 (y538.1.Buckets 18), .int .i64 (y538.1.Buckets 19), .int .i64 (y538.1.Buckets 20), .int .i64 (y538.1.Buckets 21), .int .i64 (y538.1.Buckets 22), .int .i64 (y538.1.Buckets 23)]), ((.loc 15 6), [.int .i64 y539.1.Limit, .sl 97 .ro (y539.1.Last.map pv97), .int .i64 (y539.1.Counts 0), .int .i64 (y539.1.Counts 1), .int .i64 (y539.1.Counts 2), .int .i64 (y539.1.Counts 3), .int .i64 (y539.1.Counts 4), .int .i64 y539.1.Frames, .int .i64 (y539.1.Buckets 0), .int .i64 (y539.1.Buckets 1), .int .i64 (y539.1.Buckets 2), .int .i64 (y539.1.Buckets 3), .int .i64 (y539.1.Buckets 4), .int .i64 (y539.1.Buckets 5), .int .i64 (y539.1.Buckets 6), .int .i64 (y539.1.Buckets 7), .int .i64 (y539.1.Buckets 8), .int .i64 (y539.1.Buckets 9), .int .i64 (y539.1.Buckets 10), .int .i64 (y539.1.Buckets 11), .int .i64 (y539.1.Buckets 12), .int .i64 (y539.1.Buckets 13), .int .i64 (y539.1.Buckets 14), .int .i64 (y539.1.Buckets 15), .int .i64 (y539.1.Buckets 16), .int .i64 (y539.1.Buckets 17), .int .i64 (y539.1.Buckets 18), .int .i64 (y539.1.Buckets 19), .int .i64 (y539.1.Buckets 20), .int .i64 (y539.1.Buckets 21), .int .i64 (y539.1.Buckets 22), .int .i64 (y539.1.Buckets 23)])]) (imp_of (.cons rfl (.cons rfl (.cons rfl (.cons rfl (.cons rfl (.cons rfl (.cons rfl (.cons rfl (.cons rfl (.cons rfl (.cons rfl (.cons rfl (.cons rfl (.cons rfl (.cons rfl (.nil)))))))))))))))) (.cons rfl (.cons rfl (.cons rfl (.cons rfl (.nil)))))) ?_
                  obtain ⟨j542, hj542, h⟩ := joinE h
                  obtain ⟨j544, hj544, h⟩ := joinE h
                  refine .cutI (fun T => (T = St.of [(1, .sl 3 .ro (a1.map (PV.int .i64))), (4, .int .i64 a4), (5, .int .i64 a5), (9, .ptr (.loc 0 1) 0), (15, .ptr (.loc 8 2) 0), (42, .sl 60 .ro (([(⟨y7.Limit, y7.Last, y7.Counts, y7.Frames, y7.Buckets⟩ : Recorder), (⟨a2.Limit, a2.Last, a2.Counts, a2.Frames, a2.Buckets⟩ : Recorder)] : List Recorder).map pv60)), (43, .int .i64 (([(⟨y7.Limit, y7.Last, y7.Counts, y7.Frames, y7.Buckets⟩ : Recorder), (⟨a2.Limit, a2.Last, a2.Counts, a2.Frames, a2.Buckets⟩ : Recorder)] : List Recorder).length : Int)), (44, .int .i64 v307), (57, .sl 97 .ro (([(⟨a3.Kind, a3.At, a3.Quanta, a3.Stream, a3.Device, a3.Frames⟩ : Glitch), y502.1] : List Glitch).map pv97)), (58, .int .i64 (([(⟨a3.Kind, a3.At, a3.Quanta, a3.Stream, a3.Device, a3.Frames⟩ : Glitch), y502.1] : List Glitch).length : Int)), (59, .int .i64 v513), (83, .bool true)] [((.loc 0 1), [.int .i64 a3.Kind, .int .i64 a3.At, .int .i64 a3.Quanta, .int .i64 a3.Stream, .int .u64 a3.Device, .int .i64 a3.Frames]), ((.loc 8 2), [.int .i64 x459.Limit, .sl 97 .ro (x459.Last.map pv97), .int .i64 (x459.Counts 0), .int .i64 (x459.Counts 1), .int .i64 (x459.Counts 2), .int .i64 (x459.Counts 3), .int .i64 (x459.Counts 4), .int .i64 x459.Frames, .int .i64 (x459.Buckets 0), .int .i64 (x459.Buckets 1), .int .i64 (x459.Buckets 2), .int .i64 (x459.Buckets 3), .int .i64 (x459.Buckets 4), .int .i64 (x459.Buckets 5), .int .i64 (x459.Buckets 6), .int .i64 (x459.Buckets 7), .int .i64 (x459.Buckets 8), .int .i64 (x459.Buckets 9), .int .i64 (x459.Buckets 10), .int .i64 (x459.Buckets 11), .int .i64 (x459.Buckets 12), .int .i64 (x459.Buckets 13), .int .i64 (x459.Buckets 14), .int .i64 (x459.Buckets 15), .int .i64 (x459.Buckets 16), .int .i64 (x459.Buckets 17), .int .i64 (x459.Buckets 18), .int .i64 (x459.Buckets 19), .int .i64 (x459.Buckets 20), .int .i64 (x459.Buckets 21), .int .i64 (x459.Buckets 22), .int .i64 (x459.Buckets 23)])] ∧ j542 () = some r) ∨ (∃ (v543 : Bool), T = St.of [(1, .sl 3 .ro (a1.map (PV.int .i64))), (4, .int .i64 a4), (5, .int .i64 a5), (9, .ptr (.loc 0 1) 0), (15, .ptr (.loc 8 2) 0), (42, .sl 60 .ro (([(⟨y7.Limit, y7.Last, y7.Counts, y7.Frames, y7.Buckets⟩ : Recorder), (⟨a2.Limit, a2.Last, a2.Counts, a2.Frames, a2.Buckets⟩ : Recorder)] : List Recorder).map pv60)), (43, .int .i64 (([(⟨y7.Limit, y7.Last, y7.Counts, y7.Frames, y7.Buckets⟩ : Recorder), (⟨a2.Limit, a2.Last, a2.Counts, a2.Frames, a2.Buckets⟩ : Recorder)] : List Recorder).length : Int)), (44, .int .i64 v307), (57, .sl 97 .ro (([(⟨a3.Kind, a3.At, a3.Quanta, a3.Stream, a3.Device, a3.Frames⟩ : Glitch), y502.1] : List Glitch).map pv97)), (58, .int .i64 (([(⟨a3.Kind, a3.At, a3.Quanta, a3.Stream, a3.Device, a3.Frames⟩ : Glitch), y502.1] : List Glitch).length : Int)), (59, .int .i64 v513), (83, .bool v543)] [((.loc 0 1), [.int .i64 a3.Kind, .int .i64 a3.At, .int .i64 a3.Quanta, .int .i64 a3.Stream, .int .u64 a3.Device, .int .i64 a3.Frames]), ((.loc 8 2), [.int .i64 x459.Limit, .sl 97 .ro (x459.Last.map pv97), .int .i64 (x459.Counts 0), .int .i64 (x459.Counts 1), .int .i64 (x459.Counts 2), .int .i64 (x459.Counts 3), .int .i64 (x459.Counts 4), .int .i64 x459.Frames, .int .i64 (x459.Buckets 0), .int .i64 (x459.Buckets 1), .int .i64 (x459.Buckets 2), .int .i64 (x459.Buckets 3), .int .i64 (x459.Buckets 4), .int .i64 (x459.Buckets 5), .int .i64 (x459.Buckets 6), .int .i64 (x459.Buckets 7), .int .i64 (x459.Buckets 8), .int .i64 (x459.Buckets 9), .int .i64 (x459.Buckets 10), .int .i64 (x459.Buckets 11), .int .i64 (x459.Buckets 12), .int .i64 (x459.Buckets 13), .int .i64 (x459.Buckets 14), .int .i64 (x459.Buckets 15), .int .i64 (x459.Buckets 16), .int .i64 (x459.Buckets 17), .int .i64 (x459.Buckets 18), .int .i64 (x459.Buckets 19), .int .i64 (x459.Buckets 20), .int .i64 (x459.Buckets 21), .int .i64 (x459.Buckets 22), .int .i64 (x459.Buckets 23)])] ∧ j544 v543 = some r)) ?_ ?_
                  · refine .region ?_
                    refine .move ?_
                    refine .move ?_
                    refine .val ?_
                    refine .move ?_
                    refine .caseG (fun hc545 => ?_) (fun hc545 => ?_)
                    · replace h := (if_pos hc545).symm.trans h
                      refine .skip ?_
                      refine .skip ?_
                      refine .skip ?_
                      refine .skip ?_
                      refine .brT ?_
                      refine .nil ?_
                      exact ⟨_, (.inl ⟨rfl, h⟩), (imp_of (.cons rfl (.cons rfl (.cons rfl (.cons rfl (.cons rfl (.cons rfl (.cons rfl (.cons rfl (.cons rfl (.cons rfl (.cons rfl (.cons rfl (.nil))))))))))))) (.cons rfl (.cons rfl (.nil))))⟩
                    · replace h := (if_neg (nt hc545)).symm.trans h
                      refine .val (v := .agg [.int .i64 y538.1.Limit, .sl 97 .ro (y538.1.Last.map pv97), .int .i64 (y538.1.Counts 0), .int .i64 (y538.1.Counts 1), .int .i64 (y538.1.Counts 2), .int .i64 (y538.1.Counts 3), .int .i64 (y538.1.Counts 4), .int .i64 y538.1.Frames, .int .i64 (y538.1.Buckets 0), .int .i64 (y538.1.Buckets 1), .int .i64 (y538.1.Buckets 2), .int .i64 (y538.1.Buckets 3), .int .i64 (y538.1.Buckets 4), .int .i64 (y538.1.Buckets 5), .int .i64 (y538.1.Buckets 6), .int .i64 (y538.1.Buckets 7), .int .i64 (y538.1.Buckets 8), .int .i64 (y538.1.Buckets 9), .int .i64 (y538.1.Buckets 10), .int .i64 (y538.1.Buckets 11), .int .i64 (y538.1.Buckets 12), .int .i64 (y538.1.Buckets 13), .int .i64 (y538.1.Buckets 14), .int .i64 (y538.1.Buckets 15), .int .i64 (y538.1.Buckets 16), .int .i64 (y538.1.Buckets 17), .int .i64 (y538.1.Buckets 18), .int .i64 (y538.1.Buckets 19), .int .i64 (y538.1.Buckets 20), .int .i64 (y538.1.Buckets 21), .int .i64 (y538.1.Buckets 22), .int .i64 (y538.1.Buckets 23)]) ?_
                      refine .val (v := .agg [.int .i64 y539.1.Limit, .sl 97 .ro (y539.1.Last.map pv97), .int .i64 (y539.1.Counts 0), .int .i64 (y539.1.Counts 1), .int .i64 (y539.1.Counts 2), .int .i64 (y539.1.Counts 3), .int .i64 (y539.1.Counts 4), .int .i64 y539.1.Frames, .int .i64 (y539.1.Buckets 0), .int .i64 (y539.1.Buckets 1), .int .i64 (y539.1.Buckets 2), .int .i64 (y539.1.Buckets 3), .int .i64 (y539.1.Buckets 4), .int .i64 (y539.1.Buckets 5), .int .i64 (y539.1.Buckets 6), .int .i64 (y539.1.Buckets 7), .int .i64 (y539.1.Buckets 8), .int .i64 (y539.1.Buckets 9), .int .i64 (y539.1.Buckets 10), .int .i64 (y539.1.Buckets 11), .int .i64 (y539.1.Buckets 12), .int .i64 (y539.1.Buckets 13), .int .i64 (y539.1.Buckets 14), .int .i64 (y539.1.Buckets 15), .int .i64 (y539.1.Buckets 16), .int .i64 (y539.1.Buckets 17), .int .i64 (y539.1.Buckets 18), .int .i64 (y539.1.Buckets 19), .int .i64 (y539.1.Buckets 20), .int .i64 (y539.1.Buckets 21), .int .i64 (y539.1.Buckets 22), .int .i64 (y539.1.Buckets 23)]) ?_
                      obtain ⟨y546, hy546, h⟩ := bindE h
                      refine .cP (g65 hy546) ?_
                      refine .val ?_
                      refine .brF ?_
                      refine .nil ?_
                      exact ⟨_, (.inr (⟨_, rfl, h⟩)), (imp_of (.cons rfl (.cons rfl (.cons rfl (.cons rfl (.cons rfl (.cons rfl (.cons rfl (.cons rfl (.cons rfl (.cons rfl (.cons rfl (.cons rfl (.nil))))))))))))) (.cons rfl (.cons rfl (.nil))))⟩
                  · rintro T (⟨rfl, h⟩ | ⟨v543, rfl, h⟩)
                    · subst hj542
                      refine .condT ?_
                      refine .seq ?_
                      refine .region ?_
                      refine .assign ?_
                      refine .nil ?_
                      cases h
                      exact .ret (fin_gen0 none)
                    · subst hj544
                      refine .cond (fun hc547 => ?_) (fun hc547 => ?_)
                      · replace h := (if_pos hc547).symm.trans h
                        refine .seq ?_
                        refine .region ?_
                        refine .assign ?_
                        refine .nil ?_
                        cases h
                        exact .ret (fin_gen0 none)
                      · replace h := (if_neg (nt hc547)).symm.trans h
                        refine .skip ?_
                        refine .region ?_
                        refine .val ?_
                        refine .move ?_
                        refine .nil ?_
                        exact ⟨m525, _, Nat.lt_succ_self m525, ⟨_, rfl, h⟩, (imp_of (.cons rfl (.cons rfl (.cons rfl (.cons rfl (.cons rfl (.cons rfl (.cons rfl (.cons rfl (.cons rfl (.cons rfl (.cons rfl (.nil)))))))))))) (.cons rfl (.cons rfl (.nil))))⟩
                · replace h := (if_neg (nt hc527)).symm.trans h
                  refine .exit (.hit ?_)
                  exact ⟨_, ⟨rfl, h⟩, (imp_of (.cons rfl (.cons rfl (.cons rfl (.cons rfl (.cons rfl (.cons rfl (.cons rfl (.cons rfl (.nil))))))))) (.cons rfl (.cons rfl (.nil))))⟩
              · rintro T ⟨rfl, h⟩
                subst hj500
                refine .seq ?_
                refine .region ?_
                refine .move ?_
                refine .move ?_
                obtain ⟨y548, hy548, h⟩ := bindE h
                refine .cP (g39 hy548) ?_
                refine .litR (f := (PV.int .i64)) ([a4, y548] : List Int) ?_
                refine .lenL (f := (PV.int .i64)) ?_
                refine .move ?_
                refine .nil ?_
                refine .block ?_
                refine .loopI (fun m T => ∃ (v559 : Int), T = St.of [(1, .sl 3 .ro (a1.map (PV.int .i64))), (4, .int .i64 a4), (5, .int .i64 a5), (9, .ptr (.loc 0 1) 0), (15, .ptr (.loc 8 2) 0), (42, .sl 60 .ro (([(⟨y7.Limit, y7.Last, y7.Counts, y7.Frames, y7.Buckets⟩ : Recorder), (⟨a2.Limit, a2.Last, a2.Counts, a2.Frames, a2.Buckets⟩ : Recorder)] : List Recorder).map pv60)), (43, .int .i64 (([(⟨y7.Limit, y7.Last, y7.Counts, y7.Frames, y7.Buckets⟩ : Recorder), (⟨a2.Limit, a2.Last, a2.Counts, a2.Frames, a2.Buckets⟩ : Recorder)] : List Recorder).length : Int)), (44, .int .i64 v307), (88, .sl 3 .ro (([a4, y548] : List Int).map (PV.int .i64))), (89, .int .i64 (([a4, y548] : List Int).length : Int)), (90, .int .i64 v559)] [((.loc 0 1), [.int .i64 a3.Kind, .int .i64 a3.At, .int .i64 a3.Quanta, .int .i64 a3.Stream, .int .u64 a3.Device, .int .i64 a3.Frames]), ((.loc 8 2), [.int .i64 x459.Limit, .sl 97 .ro (x459.Last.map pv97), .int .i64 (x459.Counts 0), .int .i64 (x459.Counts 1), .int .i64 (x459.Counts 2), .int .i64 (x459.Counts 3), .int .i64 (x459.Counts 4), .int .i64 x459.Frames, .int .i64 (x459.Buckets 0), .int .i64 (x459.Buckets 1), .int .i64 (x459.Buckets 2), .int .i64 (x459.Buckets 3), .int .i64 (x459.Buckets 4), .int .i64 (x459.Buckets 5), .int .i64 (x459.Buckets 6), .int .i64 (x459.Buckets 7), .int .i64 (x459.Buckets 8), .int .i64 (x459.Buckets 9), .int .i64 (x459.Buckets 10), .int .i64 (x459.Buckets 11), .int .i64 (x459.Buckets 12), .int .i64 (x459.Buckets 13), .int .i64 (x459.Buckets 14), .int .i64 (x459.Buckets 15), .int .i64 (x459.Buckets 16), .int .i64 (x459.Buckets 17), .int .i64 (x459.Buckets 18), .int .i64 (x459.Buckets 19), .int .i64 (x459.Buckets 20), .int .i64 (x459.Buckets 21), .int .i64 (x459.Buckets 22), .int .i64 (x459.Buckets 23)])] ∧ f12_l3 n a4 j458 x459 y548 m v559 = some r) _ _ ⟨_, rfl, h⟩ (imp_of (.cons rfl (.cons rfl (.cons rfl (.cons rfl (.cons rfl (.cons rfl (.cons rfl (.cons rfl (.cons rfl (.cons rfl (.cons rfl (.nil)))))))))))) (.cons rfl (.cons rfl (.nil)))) ?_
                rintro m571 T ⟨v559, rfl, h⟩
                obtain _ | m571 := m571
                · rw [f12_l3] at h; cases h
                rw [f12_l3] at h
                refine .seq ?_
                refine .region ?_
                refine .val ?_
                refine .nil ?_
                refine .seq ?_
                refine .cond (fun hc573 => ?_) (fun hc573 => ?_)
                · replace h := (if_pos hc573).symm.trans h
                  refine .skip ?_
                  refine .seq ?_
                  refine .block ?_
                  refine .seq ?_
                  refine .region ?_
                  obtain ⟨x583, hx583, h⟩ := bindE h
                  refine .idxL (f := (PV.int .i64)) hx583 ?_
                  refine .ldL hx583 (y := .int .i64 x583) ?_
                  refine .assign ?_
                  refine .nil ?_
                  refine .seq ?_
                  refine .region ?_
                  refine .val (v := .agg [.int .i64 x459.Limit, .sl 97 .ro (x459.Last.map pv97), .int .i64 (x459.Counts 0), .int .i64 (x459.Counts 1), .int .i64 (x459.Counts 2), .int .i64 (x459.Counts 3), .int .i64 (x459.Counts 4), .int .i64 x459.Frames, .int .i64 (x459.Buckets 0), .int .i64 (x459.Buckets 1), .int .i64 (x459.Buckets 2), .int .i64 (x459.Buckets 3), .int .i64 (x459.Buckets 4), .int .i64 (x459.Buckets 5), .int .i64 (x459.Buckets 6), .int .i64 (x459.Buckets 7), .int .i64 (x459.Buckets 8), .int .i64 (x459.Buckets 9), .int .i64 (x459.Buckets 10), .int .i64 (x459.Buckets 11), .int .i64 (x459.Buckets 12), .int .i64 (x459.Buckets 13), .int .i64 (x459.Buckets 14), .int .i64 (x459.Buckets 15), .int .i64 (x459.Buckets 16), .int .i64 (x459.Buckets 17), .int .i64 (x459.Buckets 18), .int .i64 (x459.Buckets 19), .int .i64 (x459.Buckets 20), .int .i64 (x459.Buckets 21), .int .i64 (x459.Buckets 22), .int .i64 (x459.Buckets 23)]) ?_
                  refine .move ?_
                  obtain ⟨y584, hy584, h⟩ := bindE h
                  refine .cP (g38 hy584) ?_
                  refine .move ?_
                  refine .val ?_
                  refine .val ?_
                  refine .allocL (cs := [.int .i64 0, .sl 97 .full [], .int .i64 (aZ 0), .int .i64 (aZ 1), .int .i64 (aZ 2), .int .i64 (aZ 3), .int .i64 (aZ 4), .int .i64 0, .int .i64 (aZ 0), .int .i64 (aZ 1), .int .i64 (aZ 2), .int .i64 (aZ 3), .int .i64 (aZ 4), .int .i64 (aZ 5), .int .i64 (aZ 6), .int .i64 (aZ 7), .int .i64 (aZ 8), .int .i64 (aZ 9), .int .i64 (aZ 10), .int .i64 (aZ 11), .int .i64 (aZ 12), .int .i64 (aZ 13), .int .i64 (aZ 14), .int .i64 (aZ 15), .int .i64 (aZ 16), .int .i64 (aZ 17), .int .i64 (aZ 18), .int .i64 (aZ 19), .int .i64 (aZ 20), .int .i64 (aZ 21), .int .i64 (aZ 22), .int .i64 (aZ 23)]) ?_
                  refine .wrL (cs := [.int .i64 y584.1.Limit, .sl 97 .ro (y584.1.Last.map pv97), .int .i64 (y584.1.Counts 0), .int .i64 (y584.1.Counts 1), .int .i64 (y584.1.Counts 2), .int .i64 (y584.1.Counts 3), .int .i64 (y584.1.Counts 4), .int .i64 y584.1.Frames, .int .i64 (y584.1.Buckets 0), .int .i64 (y584.1.Buckets 1), .int .i64 (y584.1.Buckets 2), .int .i64 (y584.1.Buckets 3), .int .i64 (y584.1.Buckets 4), .int .i64 (y584.1.Buckets 5), .int .i64 (y584.1.Buckets 6), .int .i64 (y584.1.Buckets 7), .int .i64 (y584.1.Buckets 8), .int .i64 (y584.1.Buckets 9), .int .i64 (y584.1.Buckets 10), .int .i64 (y584.1.Buckets 11), .int .i64 (y584.1.Buckets 12), .int .i64 (y584.1.Buckets 13), .int .i64 (y584.1.Buckets 14), .int .i64 (y584.1.Buckets 15), .int .i64 (y584.1.Buckets 16), .int .i64 (y584.1.Buckets 17), .int .i64 (y584.1.Buckets 18), .int .i64 (y584.1.Buckets 19), .int .i64 (y584.1.Buckets 20), .int .i64 (y584.1.Buckets 21), .int .i64 (y584.1.Buckets 22), .int .i64 (y584.1.Buckets 23)]) ?_
                  refine .assign ?_
                  refine .nil ?_
                  refine .seq ?_
                  refine .region ?_
                  refine .val (v := .agg [.int .i64 x459.Limit, .sl 97 .ro (x459.Last.map pv97), .int .i64 (x459.Counts 0), .int .i64 (x459.Counts 1), .int .i64 (x459.Counts 2), .int .i64 (x459.Counts 3), .int .i64 (x459.Counts 4), .int .i64 x459.Frames, .int .i64 (x459.Buckets 0), .int .i64 (x459.Buckets 1), .int .i64 (x459.Buckets 2), .int .i64 (x459.Buckets 3), .int .i64 (x459.Buckets 4), .int .i64 (x459.Buckets 5), .int .i64 (x459.Buckets 6), .int .i64 (x459.Buckets 7), .int .i64 (x459.Buckets 8), .int .i64 (x459.Buckets 9), .int .i64 (x459.Buckets 10), .int .i64 (x459.Buckets 11), .int .i64 (x459.Buckets 12), .int .i64 (x459.Buckets 13), .int .i64 (x459.Buckets 14), .int .i64 (x459.Buckets 15), .int .i64 (x459.Buckets 16), .int .i64 (x459.Buckets 17), .int .i64 (x459.Buckets 18), .int .i64 (x459.Buckets 19), .int .i64 (x459.Buckets 20), .int .i64 (x459.Buckets 21), .int .i64 (x459.Buckets 22), .int .i64 (x459.Buckets 23)]) ?_
                  refine .move ?_
                  obtain ⟨y585, hy585, h⟩ := bindE h
                  refine .cP (g66 hy585) ?_
                  refine .move ?_
                  refine .val ?_
                  refine .val ?_
                  refine .allocL (cs := [.int .i64 0, .sl 97 .full [], .int .i64 (aZ 0), .int .i64 (aZ 1), .int .i64 (aZ 2), .int .i64 (aZ 3), .int .i64 (aZ 4), .int .i64 0, .int .i64 (aZ 0), .int .i64 (aZ 1), .int .i64 (aZ 2), .int .i64 (aZ 3), .int .i64 (aZ 4), .int .i64 (aZ 5), .int .i64 (aZ 6), .int .i64 (aZ 7), .int .i64 (aZ 8), .int .i64 (aZ 9), .int .i64 (aZ 10), .int .i64 (aZ 11), .int .i64 (aZ 12), .int .i64 (aZ 13), .int .i64 (aZ 14), .int .i64 (aZ 15), .int .i64 (aZ 16), .int .i64 (aZ 17), .int .i64 (aZ 18), .int .i64 (aZ 19), .int .i64 (aZ 20), .int .i64 (aZ 21), .int .i64 (aZ 22), .int .i64 (aZ 23)]) ?_
                  refine .wrL (cs := [.int .i64 y585.1.Limit, .sl 97 .ro (y585.1.Last.map pv97), .int .i64 (y585.1.Counts 0), .int .i64 (y585.1.Counts 1), .int .i64 (y585.1.Counts 2), .int .i64 (y585.1.Counts 3), .int .i64 (y585.1.Counts 4), .int .i64 y585.1.Frames, .int .i64 (y585.1.Buckets 0), .int .i64 (y585.1.Buckets 1), .int .i64 (y585.1.Buckets 2), .int .i64 (y585.1.Buckets 3), .int .i64 (y585.1.Buckets 4), .int .i64 (y585.1.Buckets 5), .int .i64 (y585.1.Buckets 6), .int .i64 (y585.1.Buckets 7), .int .i64 (y585.1.Buckets 8), .int .i64 (y585.1.Buckets 9), .int .i64 (y585.1.Buckets 10), .int .i64 (y585.1.Buckets 11), .int .i64 (y585.1.Buckets 12), .int .i64 (y585.1.Buckets 13), .int .i64 (y585.1.Buckets 14), .int .i64 (y585.1.Buckets 15), .int .i64 (y585.1.Buckets 16), .int .i64 (y585.1.Buckets 17), .int .i64 (y585.1.Buckets 18), .int .i64 (y585.1.Buckets 19), .int .i64 (y585.1.Buckets 20), .int .i64 (y585.1.Buckets 21), .int .i64 (y585.1.Buckets 22), .int .i64 (y585.1.Buckets 23)]) ?_
                  refine .assign ?_
                  refine .nil ?_
                  obtain ⟨j588, hj588, h⟩ := joinE h
                  obtain ⟨j590, hj590, h⟩ := joinE h
                  refine .cutI (fun T => (T = St.of [(1, .sl 3 .ro (a1.map (PV.int .i64))), (4, .int .i64 a4), (5, .int .i64 a5), (9, .ptr (.loc 0 1) 0), (15, .ptr (.loc 8 2) 0), (42, .sl 60 .ro (([(⟨y7.Limit, y7.Last, y7.Counts, y7.Frames, y7.Buckets⟩ : Recorder), (⟨a2.Limit, a2.Last, a2.Counts, a2.Frames, a2.Buckets⟩ : Recorder)] : List Recorder).map pv60)), (43, .int .i64 (([(⟨y7.Limit, y7.Last, y7.Counts, y7.Frames, y7.Buckets⟩ : Recorder), (⟨a2.Limit, a2.Last, a2.Counts, a2.Frames, a2.Buckets⟩ : Recorder)] : List Recorder).length : Int)), (44, .int .i64 v307), (88, .sl 3 .ro (([a4, y548] : List Int).map (PV.int .i64))), (89, .int .i64 (([a4, y548] : List Int).length : Int)), (90, .int .i64 v559), (114, .bool true)] [((.loc 0 1), [.int .i64 a3.Kind, .int .i64 a3.At, .int .i64 a3.Quanta, .int .i64 a3.Stream, .int .u64 a3.Device, .int .i64 a3.Frames]), ((.loc 8 2), [.int .i64 x459.Limit, .sl 97 .ro (x459.Last.map pv97), .int .i64 (x459.Counts 0), .int .i64 (x459.Counts 1), .int .i64 (x459.Counts 2), .int .i64 (x459.Counts 3), .int .i64 (x459.Counts 4), .int .i64 x459.Frames, .int .i64 (x459.Buckets 0), .int .i64 (x459.Buckets 1), .int .i64 (x459.Buckets 2), .int .i64 (x459.Buckets 3), .int .i64 (x459.Buckets 4), .int .i64 (x459.Buckets 5), .int .i64 (x459.Buckets 6), .int .i64 (x459.Buckets 7), .int .i64 (x459.Buckets 8), .int .i64 (x459.Buckets 9), .int .i64 (x459.Buckets 10), .int .i64 (x459.Buckets 11), .int .i64 (x459.Buckets 12), .int .i64 (x459.Buckets 13), .int .i64 (x459.Buckets 14), .int .i64 (x459.Buckets 15), .int .i64 (x459.Buckets 16), .int .i64 (x459.Buckets 17), .int .i64 (x459.Buckets 18), .int .i64 (x459.Buckets 19), .int .i64 (x459.Buckets 20), .int .i64 (x459.Buckets 21), .int .i64 (x459.Buckets 22), .int .i64 (x459.Buckets 23)])] ∧ j588 () = some r) ∨ (∃ (v589 : Bool), T = St.of [(1, .sl 3 .ro (a1.map (PV.int .i64))), (4, .int .i64 a4), (5, .int .i64 a5), (9, .ptr (.loc 0 1) 0), (15, .ptr (.loc 8 2) 0), (42, .sl 60 .ro (([(⟨y7.Limit, y7.Last, y7.Counts, y7.Frames, y7.Buckets⟩ : Recorder), (⟨a2.Limit, a2.Last, a2.Counts, a2.Frames, a2.Buckets⟩ : Recorder)] : List Recorder).map pv60)), (43, .int .i64 (([(⟨y7.Limit, y7.Last, y7.Counts, y7.Frames, y7.Buckets⟩ : Recorder), (⟨a2.Limit, a2.Last, a2.Counts, a2.Frames, a2.Buckets⟩ : Recorder)] : List Recorder).length : Int)), (44, .int .i64 v307), (88, .sl 3 .ro (([a4, y548] : List Int).map (PV.int .i64))), (89, .int .i64 (([a4, y548] : List Int).length : Int)), (90, .int .i64 v559), (114, .bool v589)] [((.loc 0 1), [.int .i64 a3.Kind, .int .i64 a3.At, .int .i64 a3.Quanta, .int .i64 a3.Stream, .int .u64 a3.Device, .int .i64 a3.Frames]), ((.loc 8 2), [.int .i64 x459.Limit, .sl 97 .ro (x459.Last.map pv97), .int .i64 (x459.Counts 0), .int .i64 (x459.Counts 1), .int .i64 (x459.Counts 2), .int .i64 (x459.Counts 3), .int .i64 (x459.Counts 4), .int .i64 x459.Frames, .int .i64 (x459.Buckets 0), .int .i64 (x459.Buckets 1), .int .i64 (x459.Buckets 2), .int .i64 (x459.Buckets 3), .int .i64 (x459.Buckets 4), .int .i64 (x459.Buckets 5), .int .i64 (x459.Buckets 6), .int .i64 (x459.Buckets 7), .int .i64 (x459.Buckets 8), .int .i64 (x459.Buckets 9), .int .i64 (x459.Buckets 10), .int .i64 (x459.Buckets 11), .int .i64 (x459.Buckets 12), .int .i64 (x459.Buckets 13), .int .i64 (x459.Buckets 14), .int .i64 (x459.Buckets 15), .int .i64 (x459.Buckets 16), .int .i64 (x459.Buckets 17), .int .i64 (x459.Buckets 18), .int .i64 (x459.Buckets 19), .int .i64 (x459.Buckets 20), .int .i64 (x459.Buckets 21), .int .i64 (x459.Buckets 22), .int .i64 (x459.Buckets 23)])] ∧ j590 v589 = some r)) ?_ ?_
                  · refine .region ?_
                    refine .move ?_
                    refine .move ?_
                    refine .val ?_
                    refine .move ?_
                    refine .caseG (fun hc591 => ?_) (fun hc591 => ?_)
                    · replace h := (if_pos hc591).symm.trans h
                      refine .skip ?_
                      refine .skip ?_
                      refine .skip ?_
                      refine .skip ?_
                      refine .brT ?_
                      refine .nil ?_
                      exact ⟨_, (.inl ⟨rfl, h⟩), (imp_of (.cons rfl (.cons rfl (.cons rfl (.cons rfl (.cons rfl (.cons rfl (.cons rfl (.cons rfl (.cons rfl (.cons rfl (.cons rfl (.cons rfl (.nil))))))))))))) (.cons rfl (.cons rfl (.nil))))⟩
                    · replace h := (if_neg (nt hc591)).symm.trans h
                      refine .val (v := .agg [.int .i64 y584.1.Limit, .sl 97 .ro (y584.1.Last.map pv97), .int .i64 (y584.1.Counts 0), .int .i64 (y584.1.Counts 1), .int .i64 (y584.1.Counts 2), .int .i64 (y584.1.Counts 3), .int .i64 (y584.1.Counts 4), .int .i64 y584.1.Frames, .int .i64 (y584.1.Buckets 0), .int .i64 (y584.1.Buckets 1), .int .i64 (y584.1.Buckets 2), .int .i64 (y584.1.Buckets 3), .int .i64 (y584.1.Buckets 4), .int .i64 (y584.1.Buckets 5), .int .i64 (y584.1.Buckets 6), .int .i64 (y584.1.Buckets 7), .int .i64 (y584.1.Buckets 8), .int .i64 (y584.1.Buckets 9), .int .i64 (y584.1.Buckets 10), .int .i64 (y584.1.Buckets 11), .int .i64 (y584.1.Buckets 12), .int .i64 (y584.1.Buckets 13), .int .i64 (y584.1.Buckets 14), .int .i64 (y584.1.Buckets 15), .int .i64 (y584.1.Buckets 16), .int .i64 (y584.1.Buckets 17), .int .i64 (y584.1.Buckets 18), .int .i64 (y584.1.Buckets 19), .int .i64 (y584.1.Buckets 20), .int .i64 (y584.1.Buckets 21), .int .i64 (y584.1.Buckets 22), .int .i64 (y584.1.Buckets 23)]) ?_
                      refine .val (v := .agg [.int .i64 y585.1.Limit, .sl 97 .ro (y585.1.Last.map pv97), .int .i64 (y585.1.Counts 0), .int .i64 (y585.1.Counts 1), .int .i64 (y585.1.Counts 2), .int .i64 (y585.1.Counts 3), .int .i64 (y585.1.Counts 4), .int .i64 y585.1.Frames, .int .i64 (y585.1.Buckets 0), .int .i64 (y585.1.Buckets 1), .int .i64 (y585.1.Buckets 2), .int .i64 (y585.1.Buckets 3), .int .i64 (y585.1.Buckets 4), .int .i64 (y585.1.Buckets 5), .int .i64 (y585.1.Buckets 6), .int .i64 (y585.1.Buckets 7), .int .i64 (y585.1.Buckets 8), .int .i64 (y585.1.Buckets 9), .int .i64 (y585.1.Buckets 10), .int .i64 (y585.1.Buckets 11), .int .i64 (y585.1.Buckets 12), .int .i64 (y585.1.Buckets 13), .int .i64 (y585.1.Buckets 14), .int .i64 (y585.1.Buckets 15), .int .i64 (y585.1.Buckets 16), .int .i64 (y585.1.Buckets 17), .int .i64 (y585.1.Buckets 18), .int .i64 (y585.1.Buckets 19), .int .i64 (y585.1.Buckets 20), .int .i64 (y585.1.Buckets 21), .int .i64 (y585.1.Buckets 22), .int .i64 (y585.1.Buckets 23)]) ?_
                      obtain ⟨y592, hy592, h⟩ := bindE h
                      refine .cP (g65 hy592) ?_
                      refine .val ?_
                      refine .brF ?_
                      refine .nil ?_
                      exact ⟨_, (.inr (⟨_, rfl, h⟩)), (imp_of (.cons rfl (.cons rfl (.cons rfl (.cons rfl (.cons rfl (.cons rfl (.cons rfl (.cons rfl (.cons rfl (.cons rfl (.cons rfl (.cons rfl (.nil))))))))))))) (.cons rfl (.cons rfl (.nil))))⟩
                  · rintro T (⟨rfl, h⟩ | ⟨v589, rfl, h⟩)
                    · subst hj588
                      refine .condT ?_
                      refine .seq ?_
                      refine .region ?_
                      refine .assign ?_
                      refine .nil ?_
                      cases h
                      exact .ret (fin_gen0 none)
                    · subst hj590
                      refine .cond (fun hc593 => ?_) (fun hc593 => ?_)
                      · replace h := (if_pos hc593).symm.trans h
                        refine .seq ?_
                        refine .region ?_
                        refine .assign ?_
                        refine .nil ?_
                        cases h
                        exact .ret (fin_gen0 none)
                      · replace h := (if_neg (nt hc593)).symm.trans h
                        refine .skip ?_
                        refine .region ?_
                        refine .val ?_
                        refine .move ?_
                        refine .nil ?_
                        exact ⟨m571, _, Nat.lt_succ_self m571, ⟨_, rfl, h⟩, (imp_of (.cons rfl (.cons rfl (.cons rfl (.cons rfl (.cons rfl (.cons rfl (.cons rfl (.cons rfl (.cons rfl (.cons rfl (.cons rfl (.nil)))))))))))) (.cons rfl (.cons rfl (.nil))))⟩
                · replace h := (if_neg (nt hc573)).symm.trans h
                  refine .exit (.hit ?_)
                  exact ⟨_, ⟨rfl, h⟩, (imp_of (.cons rfl (.cons rfl (.cons rfl (.cons rfl (.cons rfl (.cons rfl (.cons rfl (.nil)))))))) (.cons rfl (.nil)))⟩
          · rintro T ⟨rfl, h⟩
            subst hj458
            refine .region ?_
            refine .val ?_
            refine .move ?_
            refine .nil ?_
            exact ⟨m383, _, Nat.lt_succ_self m383, ⟨_, rfl, h⟩, (imp_of (.cons rfl (.cons rfl (.cons rfl (.cons rfl (.cons rfl (.cons rfl (.cons rfl (.nil)))))))) (.cons rfl (.nil)))⟩
        · replace h := (if_neg (nt hc385)).symm.trans h
          refine .exit (.hit ?_)
          exact ⟨_, ⟨rfl, h⟩, (imp_of (.cons rfl (.nil)) (.nil))⟩
      · rintro T ⟨rfl, h⟩
        subst hj232
        refine .seq ?_
        refine .region ?_
        refine .move ?_
        obtain ⟨y594, hy594, h⟩ := bindE h
        refine .cP (g37 hy594) ?_
        refine .move ?_
        refine .val ?_
        refine .val ?_
        refine .allocL (cs := [.int .i64 0, .sl 97 .full [], .int .i64 (aZ 0), .int .i64 (aZ 1), .int .i64 (aZ 2), .int .i64 (aZ 3), .int .i64 (aZ 4), .int .i64 0, .int .i64 (aZ 0), .int .i64 (aZ 1), .int .i64 (aZ 2), .int .i64 (aZ 3), .int .i64 (aZ 4), .int .i64 (aZ 5), .int .i64 (aZ 6), .int .i64 (aZ 7), .int .i64 (aZ 8), .int .i64 (aZ 9), .int .i64 (aZ 10), .int .i64 (aZ 11), .int .i64 (aZ 12), .int .i64 (aZ 13), .int .i64 (aZ 14), .int .i64 (aZ 15), .int .i64 (aZ 16), .int .i64 (aZ 17), .int .i64 (aZ 18), .int .i64 (aZ 19), .int .i64 (aZ 20), .int .i64 (aZ 21), .int .i64 (aZ 22), .int .i64 (aZ 23)]) ?_
        refine .wrL (cs := [.int .i64 y594.1.Limit, .sl 97 .ro (y594.1.Last.map pv97), .int .i64 (y594.1.Counts 0), .int .i64 (y594.1.Counts 1), .int .i64 (y594.1.Counts 2), .int .i64 (y594.1.Counts 3), .int .i64 (y594.1.Counts 4), .int .i64 y594.1.Frames, .int .i64 (y594.1.Buckets 0), .int .i64 (y594.1.Buckets 1), .int .i64 (y594.1.Buckets 2), .int .i64 (y594.1.Buckets 3), .int .i64 (y594.1.Buckets 4), .int .i64 (y594.1.Buckets 5), .int .i64 (y594.1.Buckets 6), .int .i64 (y594.1.Buckets 7), .int .i64 (y594.1.Buckets 8), .int .i64 (y594.1.Buckets 9), .int .i64 (y594.1.Buckets 10), .int .i64 (y594.1.Buckets 11), .int .i64 (y594.1.Buckets 12), .int .i64 (y594.1.Buckets 13), .int .i64 (y594.1.Buckets 14), .int .i64 (y594.1.Buckets 15), .int .i64 (y594.1.Buckets 16), .int .i64 (y594.1.Buckets 17), .int .i64 (y594.1.Buckets 18), .int .i64 (y594.1.Buckets 19), .int .i64 (y594.1.Buckets 20), .int .i64 (y594.1.Buckets 21), .int .i64 (y594.1.Buckets 22), .int .i64 (y594.1.Buckets 23)]) ?_
        refine .assign ?_
        refine .nil ?_
        refine .seq ?_
        refine .region ?_
        refine .move ?_
        obtain ⟨y595, hy595, h⟩ := bindE h
        refine .cP (g67 hy595) ?_
        refine .move ?_
        refine .val ?_
        refine .val ?_
        refine .allocL (cs := [.int .i64 0, .sl 97 .full [], .int .i64 (aZ 0), .int .i64 (aZ 1), .int .i64 (aZ 2), .int .i64 (aZ 3), .int .i64 (aZ 4), .int .i64 0, .int .i64 (aZ 0), .int .i64 (aZ 1), .int .i64 (aZ 2), .int .i64 (aZ 3), .int .i64 (aZ 4), .int .i64 (aZ 5), .int .i64 (aZ 6), .int .i64 (aZ 7), .int .i64 (aZ 8), .int .i64 (aZ 9), .int .i64 (aZ 10), .int .i64 (aZ 11), .int .i64 (aZ 12), .int .i64 (aZ 13), .int .i64 (aZ 14), .int .i64 (aZ 15), .int .i64 (aZ 16), .int .i64 (aZ 17), .int .i64 (aZ 18), .int .i64 (aZ 19), .int .i64 (aZ 20), .int .i64 (aZ 21), .int .i64 (aZ 22), .int .i64 (aZ 23)]) ?_
        refine .wrL (cs := [.int .i64 y595.1.Limit, .sl 97 .ro (y595.1.Last.map pv97), .int .i64 (y595.1.Counts 0), .int .i64 (y595.1.Counts 1), .int .i64 (y595.1.Counts 2), .int .i64 (y595.1.Counts 3), .int .i64 (y595.1.Counts 4), .int .i64 y595.1.Frames, .int .i64 (y595.1.Buckets 0), .int .i64 (y595.1.Buckets 1), .int .i64 (y595.1.Buckets 2), .int .i64 (y595.1.Buckets 3), .int .i64 (y595.1.Buckets 4), .int .i64 (y595.1.Buckets 5), .int .i64 (y595.1.Buckets 6), .int .i64 (y595.1.Buckets 7), .int .i64 (y595.1.Buckets 8), .int .i64 (y595.1.Buckets 9), .int .i64 (y595.1.Buckets 10), .int .i64 (y595.1.Buckets 11), .int .i64 (y595.1.Buckets 12), .int .i64 (y595.1.Buckets 13), .int .i64 (y595.1.Buckets 14), .int .i64 (y595.1.Buckets 15), .int .i64 (y595.1.Buckets 16), .int .i64 (y595.1.Buckets 17), .int .i64 (y595.1.Buckets 18), .int .i64 (y595.1.Buckets 19), .int .i64 (y595.1.Buckets 20), .int .i64 (y595.1.Buckets 21), .int .i64 (y595.1.Buckets 22), .int .i64 (y595.1.Buckets 23)]) ?_
        refine .assign ?_
        refine .nil ?_
        refine .seq ?_
        refine .region ?_
        refine .move ?_
        refine .move ?_
        refine .val ?_
        refine .move ?_
        refine .caseG (fun hc598 => ?_) (fun hc598 => ?_)
        · replace h := (if_pos hc598).symm.trans h
          refine .val (v := .agg [.int .i64 y594.1.Limit, .sl 97 .ro (y594.1.Last.map pv97), .int .i64 (y594.1.Counts 0), .int .i64 (y594.1.Counts 1), .int .i64 (y594.1.Counts 2), .int .i64 (y594.1.Counts 3), .int .i64 (y594.1.Counts 4), .int .i64 y594.1.Frames, .int .i64 (y594.1.Buckets 0), .int .i64 (y594.1.Buckets 1), .int .i64 (y594.1.Buckets 2), .int .i64 (y594.1.Buckets 3), .int .i64 (y594.1.Buckets 4), .int .i64 (y594.1.Buckets 5), .int .i64 (y594.1.Buckets 6), .int .i64 (y594.1.Buckets 7), .int .i64 (y594.1.Buckets 8), .int .i64 (y594.1.Buckets 9), .int .i64 (y594.1.Buckets 10), .int .i64 (y594.1.Buckets 11), .int .i64 (y594.1.Buckets 12), .int .i64 (y594.1.Buckets 13), .int .i64 (y594.1.Buckets 14), .int .i64 (y594.1.Buckets 15), .int .i64 (y594.1.Buckets 16), .int .i64 (y594.1.Buckets 17), .int .i64 (y594.1.Buckets 18), .int .i64 (y594.1.Buckets 19), .int .i64 (y594.1.Buckets 20), .int .i64 (y594.1.Buckets 21), .int .i64 (y594.1.Buckets 22), .int .i64 (y594.1.Buckets 23)]) ?_
          refine .val (v := .agg [.int .i64 y595.1.Limit, .sl 97 .ro (y595.1.Last.map pv97), .int .i64 (y595.1.Counts 0), .int .i64 (y595.1.Counts 1), .int .i64 (y595.1.Counts 2), .int .i64 (y595.1.Counts 3), .int .i64 (y595.1.Counts 4), .int .i64 y595.1.Frames, .int .i64 (y595.1.Buckets 0), .int .i64 (y595.1.Buckets 1), .int .i64 (y595.1.Buckets 2), .int .i64 (y595.1.Buckets 3), .int .i64 (y595.1.Buckets 4), .int .i64 (y595.1.Buckets 5), .int .i64 (y595.1.Buckets 6), .int .i64 (y595.1.Buckets 7), .int .i64 (y595.1.Buckets 8), .int .i64 (y595.1.Buckets 9), .int .i64 (y595.1.Buckets 10), .int .i64 (y595.1.Buckets 11), .int .i64 (y595.1.Buckets 12), .int .i64 (y595.1.Buckets 13), .int .i64 (y595.1.Buckets 14), .int .i64 (y595.1.Buckets 15), .int .i64 (y595.1.Buckets 16), .int .i64 (y595.1.Buckets 17), .int .i64 (y595.1.Buckets 18), .int .i64 (y595.1.Buckets 19), .int .i64 (y595.1.Buckets 20), .int .i64 (y595.1.Buckets 21), .int .i64 (y595.1.Buckets 22), .int .i64 (y595.1.Buckets 23)]) ?_
          obtain ⟨y599, hy599, h⟩ := bindE h
          refine .cP (g65 hy599) ?_
          refine .brT ?_
          refine .assign ?_
          refine .nil ?_
          cases h
          exact .ret (fin_gen0 none)
        · replace h := (if_neg (nt hc598)).symm.trans h
          refine .skip ?_
          refine .skip ?_
          refine .skip ?_
          refine .brF ?_
          refine .assign ?_
          refine .nil ?_
          cases h
          exact .ret (fin_gen0 none)
end Go.Proofs.Ytacdknbakjbpiaa
