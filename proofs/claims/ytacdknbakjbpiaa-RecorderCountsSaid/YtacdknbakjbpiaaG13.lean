/-
  Plain functions of soundservicelaw38, and that the code does what they say.
-/
import Derived.Test.YtacdknbakjbpiaaGm
namespace Go.Proofs.Ytacdknbakjbpiaa
open Go Ab
/- soundservice/soundservicelaw38.RecorderCounts -/
def f13_l1 (n : Nat) (j120 : Unit → Option Bool) : Nat → (List Int) → Int → Int → (List Glitch) → (Nat → Int) → Int → (Nat → Int) → Int → (List Glitch) → (Nat → Int) → Int → (Nat → Int) → Int → Option Bool
  | 0, _, _, _, _, _, _, _, _, _, _, _, _, _ => none
  | m195 + 1, v145, v146, v147, v148, v149, v150, v151, v152, v153, v154, v155, v156, v157 =>
    joinK (fun (v207 : (List Int)) (v208 : Int) =>
    if decide (v157 < (30 : Int)) then (
    (f62 n (⟨v207, v208⟩ : Deck)).bind fun y231 =>
    (f63 n (⟨v147, v148, v149, v150, v151⟩ : Recorder) (⟨y231.1.Kind, y231.1.At, y231.1.Quanta, y231.1.Stream, y231.1.Device, y231.1.Frames⟩ : Glitch)).bind fun y232 =>
    (f63 n (⟨v152, v153, v154, v155, v156⟩ : Recorder) (⟨y231.1.Kind, y231.1.At, y231.1.Quanta, y231.1.Stream, y231.1.Device, y231.1.Frames⟩ : Glitch)).bind fun y233 =>
    joinK (fun (_ : Unit) =>
    some false) fun j242 =>
    joinK (fun (v243 : Bool) =>
    if v243 then (
    some false)
    else (
    f13_l1 n j120 m195 y231.2.L y231.2.At y232.1.Limit y232.1.Last y232.1.Counts y232.1.Frames y232.1.Buckets y233.1.Limit y233.1.Last y233.1.Counts y233.1.Frames y233.1.Buckets (w64 (v157 + (1 : Int))))) fun j244 =>
    if (y232.2 != (0 : Int)) then (
    j242 ())
    else (
    if (y233.2 != (0 : Int)) then (
    j242 ())
    else (
    if !(aEq 5 y232.1.Counts y233.1.Counts) then (
    j242 ())
    else (
    if (y232.1.Frames != y233.1.Frames) then (
    j242 ())
    else (
    if decide ((y232.1.Last.length : Int) > y232.1.Limit) then (
    j242 ())
    else (
    if decide ((w64 ((y233.1.Last.length : Int) - (y232.1.Last.length : Int))) < (0 : Int)) then (
    j242 ())
    else (
    (lPart y233.1.Last (w64 ((y233.1.Last.length : Int) - (y232.1.Last.length : Int))) (y233.1.Last.length : Int)).bind fun x251 =>
    (f52 n y232.1.Last x251).bind fun y252 =>
    j244 (!y252))))))))
    else (
    j120 ())) fun j209 =>
    joinK (fun (v210 : (List Int)) (v211 : Int) =>
    j120 ()) fun j212 =>
    (f69 n (⟨v145, v146⟩ : Deck)).bind fun y213 =>
    if y213.1 then (
    j209 y213.2.L y213.2.At)
    else (
    j212 y213.2.L y213.2.At)
def f13 (n : Nat) (a0 : (List Int)) (a1 : Int) : Option Bool :=
  (f36 n ).bind fun y3 =>
  if !y3 then (
  some false)
  else (
  (f68 n a0).bind fun y7 =>
  if !y7 then (
  some true)
  else (
  (f42 n a0).bind fun y9 =>
  (f39 n a1 (6 : Int)).bind fun y10 =>
  (f37 n (w64 ((1 : Int) + y10))).bind fun y11 =>
  (f37 n (256 : Int)).bind fun y12 =>
  joinK (fun (_ : Unit) =>
  some false) fun j18 =>
  joinK (fun (_ : Unit) =>
  if (y12.2 != (0 : Int)) then (
  some false)
  else (
  joinK (fun (_ : Unit) =>
  some true) fun j120 =>
  f13_l1 n j120 n y9.L y9.At y11.1.Limit y11.1.Last y11.1.Counts y11.1.Frames y11.1.Buckets y12.1.Limit y12.1.Last y12.1.Counts y12.1.Frames y12.1.Buckets 0)) fun j19 =>
  if (y11.2 != (0 : Int)) then (
  j18 ())
  else (
  j19 ())))
set_option maxHeartbeats 4000000 in
set_option maxRecDepth 100000 in
theorem g13 {n : Nat} {a0 : (List Int)} {a1 : Int} {r : Bool} (h : f13 n a0 a1 = some r) :
    Ab.Can Try.prog 13 [.sl 3 .ro (a0.map (PV.int .i64)), .int .i64 a1] H0 (.bool r) H0 := by
  refine can_of tabOK mix Try.call13 Try.func13 rfl (by kernel_rfl) (by show _ ≤ 108; simp) fun _ => ?_
  rw [f13] at h
  refine .seq ?_
  refine .region ?_
  refine .assign ?_
  refine .nil ?_
  refine .seq ?_
  refine .seq ?_
  refine .region ?_
  obtain ⟨y3, hy3, h⟩ := bindE h
  refine .cP (g36 hy3) ?_
  refine .val ?_
  refine .nil ?_
  refine .cond (fun hc4 => ?_) (fun hc4 => ?_)
  · replace h := (if_pos hc4).symm.trans h
    refine .seq ?_
    refine .region ?_
    refine .assign ?_
    refine .nil ?_
    cases h
    exact .ret (fin_gen0 none)
  · replace h := (if_neg (nt hc4)).symm.trans h
    refine .skip ?_
    refine .seq ?_
    refine .seq ?_
    refine .region ?_
    refine .move ?_
    obtain ⟨y7, hy7, h⟩ := bindE h
    refine .cP (g68 hy7) ?_
    refine .val ?_
    refine .nil ?_
    refine .cond (fun hc8 => ?_) (fun hc8 => ?_)
    · replace h := (if_pos hc8).symm.trans h
      refine .seq ?_
      refine .region ?_
      refine .assign ?_
      refine .nil ?_
      cases h
      exact .ret (fin_gen0 none)
    · replace h := (if_neg (nt hc8)).symm.trans h
      refine .skip ?_
      refine .seq ?_
      refine .region ?_
      refine .move ?_
      obtain ⟨y9, hy9, h⟩ := bindE h
      refine .cB (.loc 5 1) (g42 hy9) ?_
      refine .assign ?_
      refine .nil ?_
      refine .seq ?_
      refine .region ?_
      refine .move ?_
      obtain ⟨y10, hy10, h⟩ := bindE h
      refine .cP (g39 hy10) ?_
      refine .val ?_
      obtain ⟨y11, hy11, h⟩ := bindE h
      refine .cP (g37 hy11) ?_
      refine .move ?_
      refine .val ?_
      refine .val ?_
      refine .allocL (cs := [.int .i64 0, .sl 97 .full [], .int .i64 (aZ 0), .int .i64 (aZ 1), .int .i64 (aZ 2), .int .i64 (aZ 3), .int .i64 (aZ 4), .int .i64 0, .int .i64 (aZ 0), .int .i64 (aZ 1), .int .i64 (aZ 2), .int .i64 (aZ 3), .int .i64 (aZ 4), .int .i64 (aZ 5), .int .i64 (aZ 6), .int .i64 (aZ 7), .int .i64 (aZ 8), .int .i64 (aZ 9), .int .i64 (aZ 10), .int .i64 (aZ 11), .int .i64 (aZ 12), .int .i64 (aZ 13), .int .i64 (aZ 14), .int .i64 (aZ 15), .int .i64 (aZ 16), .int .i64 (aZ 17), .int .i64 (aZ 18), .int .i64 (aZ 19), .int .i64 (aZ 20), .int .i64 (aZ 21), .int .i64 (aZ 22), .int .i64 (aZ 23)]) ?_
      refine .wrL (cs := [.int .i64 y11.1.Limit, .sl 97 .ro (y11.1.Last.map pv97), .int .i64 (y11.1.Counts 0), .int .i64 (y11.1.Counts 1), .int .i64 (y11.1.Counts 2), .int .i64 (y11.1.Counts 3), .int .i64 (y11.1.Counts 4), .int .i64 y11.1.Frames, .int .i64 (y11.1.Buckets 0), .int .i64 (y11.1.Buckets 1), .int .i64 (y11.1.Buckets 2), .int .i64 (y11.1.Buckets 3), .int .i64 (y11.1.Buckets 4), .int .i64 (y11.1.Buckets 5), .int .i64 (y11.1.Buckets 6), .int .i64 (y11.1.Buckets 7), .int .i64 (y11.1.Buckets 8), .int .i64 (y11.1.Buckets 9), .int .i64 (y11.1.Buckets 10), .int .i64 (y11.1.Buckets 11), .int .i64 (y11.1.Buckets 12), .int .i64 (y11.1.Buckets 13), .int .i64 (y11.1.Buckets 14), .int .i64 (y11.1.Buckets 15), .int .i64 (y11.1.Buckets 16), .int .i64 (y11.1.Buckets 17), .int .i64 (y11.1.Buckets 18), .int .i64 (y11.1.Buckets 19), .int .i64 (y11.1.Buckets 20), .int .i64 (y11.1.Buckets 21), .int .i64 (y11.1.Buckets 22), .int .i64 (y11.1.Buckets 23)]) ?_
      refine .assign ?_
      refine .nil ?_
      refine .seq ?_
      refine .region ?_
      obtain ⟨y12, hy12, h⟩ := bindE h
      refine .cP (g37 hy12) ?_
      refine .move ?_
      refine .val ?_
      refine .val ?_
      refine .allocL (cs := [.int .i64 0, .sl 97 .full [], .int .i64 (aZ 0), .int .i64 (aZ 1), .int .i64 (aZ 2), .int .i64 (aZ 3), .int .i64 (aZ 4), .int .i64 0, .int .i64 (aZ 0), .int .i64 (aZ 1), .int .i64 (aZ 2), .int .i64 (aZ 3), .int .i64 (aZ 4), .int .i64 (aZ 5), .int .i64 (aZ 6), .int .i64 (aZ 7), .int .i64 (aZ 8), .int .i64 (aZ 9), .int .i64 (aZ 10), .int .i64 (aZ 11), .int .i64 (aZ 12), .int .i64 (aZ 13), .int .i64 (aZ 14), .int .i64 (aZ 15), .int .i64 (aZ 16), .int .i64 (aZ 17), .int .i64 (aZ 18), .int .i64 (aZ 19), .int .i64 (aZ 20), .int .i64 (aZ 21), .int .i64 (aZ 22), .int .i64 (aZ 23)]) ?_
      refine .wrL (cs := [.int .i64 y12.1.Limit, .sl 97 .ro (y12.1.Last.map pv97), .int .i64 (y12.1.Counts 0), .int .i64 (y12.1.Counts 1), .int .i64 (y12.1.Counts 2), .int .i64 (y12.1.Counts 3), .int .i64 (y12.1.Counts 4), .int .i64 y12.1.Frames, .int .i64 (y12.1.Buckets 0), .int .i64 (y12.1.Buckets 1), .int .i64 (y12.1.Buckets 2), .int .i64 (y12.1.Buckets 3), .int .i64 (y12.1.Buckets 4), .int .i64 (y12.1.Buckets 5), .int .i64 (y12.1.Buckets 6), .int .i64 (y12.1.Buckets 7), .int .i64 (y12.1.Buckets 8), .int .i64 (y12.1.Buckets 9), .int .i64 (y12.1.Buckets 10), .int .i64 (y12.1.Buckets 11), .int .i64 (y12.1.Buckets 12), .int .i64 (y12.1.Buckets 13), .int .i64 (y12.1.Buckets 14), .int .i64 (y12.1.Buckets 15), .int .i64 (y12.1.Buckets 16), .int .i64 (y12.1.Buckets 17), .int .i64 (y12.1.Buckets 18), .int .i64 (y12.1.Buckets 19), .int .i64 (y12.1.Buckets 20), .int .i64 (y12.1.Buckets 21), .int .i64 (y12.1.Buckets 22), .int .i64 (y12.1.Buckets 23)]) ?_
      refine .assign ?_
      refine .nil ?_
      refine .imp (T := St.of [(5, .ptr (.loc 5 1) 0), (6, .ptr (.loc 6 7) 0), (7, .int .i64 y11.2), (8, .ptr (.loc 7 4) 0), (9, .int .i64 y12.2)] [((.loc 5 1), [.sl 3 .ro (y9.L.map (PV.int .i64)), .int .i64 y9.At]), ((.loc 6 7), [.int .i64 y11.1.Limit, .sl 97 .ro (y11.1.Last.map pv97), .int .i64 (y11.1.Counts 0), .int .i64 (y11.1.Counts 1), .int .i64 (y11.1.Counts 2), .int .i64 (y11.1.Counts 3), .int .i64 (y11.1.Counts 4), .int .i64 y11.1.Frames, .int .i64 (y11.1.Buckets 0), .int .i64 (y11.1.Buckets 1), .int .i64 (y11.1.Buckets 2), .int .i64 (y11.1.Buckets 3), .int .i64 (y11.1.Buckets 4), .int .i64 (y11.1.Buckets 5), .int .i64 (y11.1.Buckets 6), .int .i64 (y11.1.Buckets 7), .int .i64 (y11.1.Buckets 8), .int .i64 (y11.1.Buckets 9), .int .i64 (y11.1.Buckets 10), .int .i64 (y11.1.Buckets 11), .int .i64 (y11.1.Buckets 12), .int .i64 (y11.1.Buckets 13), .int .i64 (y11.1.Buckets 14), .int .i64 (y11.1.Buckets 15), .int .i64 (y11.1.Buckets 16), .int .i64 (y11.1.Buckets 17), .int .i64 (y11.1.Buckets 18), .int .i64 (y11.1.Buckets 19), .int .i64 (y11.1.Buckets 20), .int .i64 (y11.1.Buckets 21), .int .i64 (y11.1.Buckets 22), .int .i64 (y11.1.Buckets 23)]), ((.loc 7 4), [.int .i64 y12.1.Limit, .sl 97 .ro (y12.1.Last.map pv97), .int .i64 (y12.1.Counts 0), .int .i64 (y12.1.Counts 1), .int .i64 (y12.1.Counts 2), .int .i64 (y12.1.Counts 3), .int .i64 (y12.1.Counts 4), .int .i64 y12.1.Frames, .int .i64 (y12.1.Buckets 0), .int .i64 (y12.1.Buckets 1), .int .i64 (y12.1.Buckets 2), .int .i64 (y12.1.Buckets 3), .int .i64 (y12.1.Buckets 4), .int .i64 (y12.1.Buckets 5), .int .i64 (y12.1.Buckets 6), .int .i64 (y12.1.Buckets 7), .int .i64 (y12.1.Buckets 8), .int .i64 (y12.1.Buckets 9), .int .i64 (y12.1.Buckets 10), .int .i64 (y12.1.Buckets 11), .int .i64 (y12.1.Buckets 12), .int .i64 (y12.1.Buckets 13), .int .i64 (y12.1.Buckets 14), .int .i64 (y12.1.Buckets 15), .int .i64 (y12.1.Buckets 16), .int .i64 (y12.1.Buckets 17), .int .i64 (y12.1.Buckets 18), .int .i64 (y12.1.Buckets 19), .int .i64 (y12.1.Buckets 20), .int .i64 (y12.1.Buckets 21), .int .i64 (y12.1.Buckets 22), .int .i64 (y12.1.Buckets 23)])]) (imp_of (.cons rfl (.cons rfl (.cons rfl (.cons rfl (.cons rfl (.nil)))))) (.cons rfl (.cons rfl (.cons rfl (.nil))))) ?_
      refine .seq ?_
      obtain ⟨j18, hj18, h⟩ := joinE h
      obtain ⟨j19, hj19, h⟩ := joinE h
      refine .cutI (fun T => (T = St.of [(5, .ptr (.loc 5 1) 0), (6, .ptr (.loc 6 7) 0), (8, .ptr (.loc 7 4) 0), (36, .bool true)] [((.loc 5 1), [.sl 3 .ro (y9.L.map (PV.int .i64)), .int .i64 y9.At]), ((.loc 6 7), [.int .i64 y11.1.Limit, .sl 97 .ro (y11.1.Last.map pv97), .int .i64 (y11.1.Counts 0), .int .i64 (y11.1.Counts 1), .int .i64 (y11.1.Counts 2), .int .i64 (y11.1.Counts 3), .int .i64 (y11.1.Counts 4), .int .i64 y11.1.Frames, .int .i64 (y11.1.Buckets 0), .int .i64 (y11.1.Buckets 1), .int .i64 (y11.1.Buckets 2), .int .i64 (y11.1.Buckets 3), .int .i64 (y11.1.Buckets 4), .int .i64 (y11.1.Buckets 5), .int .i64 (y11.1.Buckets 6), .int .i64 (y11.1.Buckets 7), .int .i64 (y11.1.Buckets 8), .int .i64 (y11.1.Buckets 9), .int .i64 (y11.1.Buckets 10), .int .i64 (y11.1.Buckets 11), .int .i64 (y11.1.Buckets 12), .int .i64 (y11.1.Buckets 13), .int .i64 (y11.1.Buckets 14), .int .i64 (y11.1.Buckets 15), .int .i64 (y11.1.Buckets 16), .int .i64 (y11.1.Buckets 17), .int .i64 (y11.1.Buckets 18), .int .i64 (y11.1.Buckets 19), .int .i64 (y11.1.Buckets 20), .int .i64 (y11.1.Buckets 21), .int .i64 (y11.1.Buckets 22), .int .i64 (y11.1.Buckets 23)]), ((.loc 7 4), [.int .i64 y12.1.Limit, .sl 97 .ro (y12.1.Last.map pv97), .int .i64 (y12.1.Counts 0), .int .i64 (y12.1.Counts 1), .int .i64 (y12.1.Counts 2), .int .i64 (y12.1.Counts 3), .int .i64 (y12.1.Counts 4), .int .i64 y12.1.Frames, .int .i64 (y12.1.Buckets 0), .int .i64 (y12.1.Buckets 1), .int .i64 (y12.1.Buckets 2), .int .i64 (y12.1.Buckets 3), .int .i64 (y12.1.Buckets 4), .int .i64 (y12.1.Buckets 5), .int .i64 (y12.1.Buckets 6), .int .i64 (y12.1.Buckets 7), .int .i64 (y12.1.Buckets 8), .int .i64 (y12.1.Buckets 9), .int .i64 (y12.1.Buckets 10), .int .i64 (y12.1.Buckets 11), .int .i64 (y12.1.Buckets 12), .int .i64 (y12.1.Buckets 13), .int .i64 (y12.1.Buckets 14), .int .i64 (y12.1.Buckets 15), .int .i64 (y12.1.Buckets 16), .int .i64 (y12.1.Buckets 17), .int .i64 (y12.1.Buckets 18), .int .i64 (y12.1.Buckets 19), .int .i64 (y12.1.Buckets 20), .int .i64 (y12.1.Buckets 21), .int .i64 (y12.1.Buckets 22), .int .i64 (y12.1.Buckets 23)])] ∧ j18 () = some r) ∨ (T = St.of [(5, .ptr (.loc 5 1) 0), (6, .ptr (.loc 6 7) 0), (8, .ptr (.loc 7 4) 0), (36, .bool (y12.2 != (0 : Int)))] [((.loc 5 1), [.sl 3 .ro (y9.L.map (PV.int .i64)), .int .i64 y9.At]), ((.loc 6 7), [.int .i64 y11.1.Limit, .sl 97 .ro (y11.1.Last.map pv97), .int .i64 (y11.1.Counts 0), .int .i64 (y11.1.Counts 1), .int .i64 (y11.1.Counts 2), .int .i64 (y11.1.Counts 3), .int .i64 (y11.1.Counts 4), .int .i64 y11.1.Frames, .int .i64 (y11.1.Buckets 0), .int .i64 (y11.1.Buckets 1), .int .i64 (y11.1.Buckets 2), .int .i64 (y11.1.Buckets 3), .int .i64 (y11.1.Buckets 4), .int .i64 (y11.1.Buckets 5), .int .i64 (y11.1.Buckets 6), .int .i64 (y11.1.Buckets 7), .int .i64 (y11.1.Buckets 8), .int .i64 (y11.1.Buckets 9), .int .i64 (y11.1.Buckets 10), .int .i64 (y11.1.Buckets 11), .int .i64 (y11.1.Buckets 12), .int .i64 (y11.1.Buckets 13), .int .i64 (y11.1.Buckets 14), .int .i64 (y11.1.Buckets 15), .int .i64 (y11.1.Buckets 16), .int .i64 (y11.1.Buckets 17), .int .i64 (y11.1.Buckets 18), .int .i64 (y11.1.Buckets 19), .int .i64 (y11.1.Buckets 20), .int .i64 (y11.1.Buckets 21), .int .i64 (y11.1.Buckets 22), .int .i64 (y11.1.Buckets 23)]), ((.loc 7 4), [.int .i64 y12.1.Limit, .sl 97 .ro (y12.1.Last.map pv97), .int .i64 (y12.1.Counts 0), .int .i64 (y12.1.Counts 1), .int .i64 (y12.1.Counts 2), .int .i64 (y12.1.Counts 3), .int .i64 (y12.1.Counts 4), .int .i64 y12.1.Frames, .int .i64 (y12.1.Buckets 0), .int .i64 (y12.1.Buckets 1), .int .i64 (y12.1.Buckets 2), .int .i64 (y12.1.Buckets 3), .int .i64 (y12.1.Buckets 4), .int .i64 (y12.1.Buckets 5), .int .i64 (y12.1.Buckets 6), .int .i64 (y12.1.Buckets 7), .int .i64 (y12.1.Buckets 8), .int .i64 (y12.1.Buckets 9), .int .i64 (y12.1.Buckets 10), .int .i64 (y12.1.Buckets 11), .int .i64 (y12.1.Buckets 12), .int .i64 (y12.1.Buckets 13), .int .i64 (y12.1.Buckets 14), .int .i64 (y12.1.Buckets 15), .int .i64 (y12.1.Buckets 16), .int .i64 (y12.1.Buckets 17), .int .i64 (y12.1.Buckets 18), .int .i64 (y12.1.Buckets 19), .int .i64 (y12.1.Buckets 20), .int .i64 (y12.1.Buckets 21), .int .i64 (y12.1.Buckets 22), .int .i64 (y12.1.Buckets 23)])] ∧ j19 () = some r)) ?_ ?_
      · refine .region ?_
        refine .move ?_
        refine .val ?_
        refine .move ?_
        refine .caseG (fun hc20 => ?_) (fun hc20 => ?_)
        · replace h := (if_pos hc20).symm.trans h
          refine .skip ?_
          refine .skip ?_
          refine .brT ?_
          refine .nil ?_
          exact ⟨_, (.inl ⟨rfl, h⟩), (imp_of (.cons rfl (.cons rfl (.cons rfl (.cons rfl (.nil))))) (.cons rfl (.cons rfl (.cons rfl (.nil)))))⟩
        · replace h := (if_neg (nt hc20)).symm.trans h
          refine .move ?_
          refine .val ?_
          refine .brF ?_
          refine .nil ?_
          exact ⟨_, (.inr (⟨rfl, h⟩)), (imp_of (.cons rfl (.cons rfl (.cons rfl (.cons rfl (.nil))))) (.cons rfl (.cons rfl (.cons rfl (.nil)))))⟩
      · rintro T (⟨rfl, h⟩ | ⟨rfl, h⟩)
        · subst hj18
          refine .condT ?_
          refine .seq ?_
          refine .region ?_
          refine .assign ?_
          refine .nil ?_
          cases h
          exact .ret (fin_gen0 none)
        · subst hj19
          refine .cond (fun hc21 => ?_) (fun hc21 => ?_)
          · replace h := (if_pos hc21).symm.trans h
            refine .seq ?_
            refine .region ?_
            refine .assign ?_
            refine .nil ?_
            cases h
            exact .ret (fin_gen0 none)
          · replace h := (if_neg (nt hc21)).symm.trans h
            refine .skip ?_
            obtain ⟨j120, hj120, h⟩ := joinE h
            refine .cutI (fun T => (T = St.of [] [] ∧ j120 () = some r)) ?_ ?_
            · refine .seq ?_
              refine .region ?_
              refine .assign ?_
              refine .nil ?_
              refine .block ?_
              refine .loopI (fun m T => ∃ (v145 : (List Int)) (v146 : Int) (v147 : Int) (v148 : (List Glitch)) (v149 : (Nat → Int)) (v150 : Int) (v151 : (Nat → Int)) (v152 : Int) (v153 : (List Glitch)) (v154 : (Nat → Int)) (v155 : Int) (v156 : (Nat → Int)) (v157 : Int), T = St.of [(5, .ptr (.loc 5 1) 0), (6, .ptr (.loc 6 7) 0), (8, .ptr (.loc 7 4) 0), (10, .int .i64 v157)] [((.loc 5 1), [.sl 3 .ro (v145.map (PV.int .i64)), .int .i64 v146]), ((.loc 6 7), [.int .i64 v147, .sl 97 .ro (v148.map pv97), .int .i64 (v149 0), .int .i64 (v149 1), .int .i64 (v149 2), .int .i64 (v149 3), .int .i64 (v149 4), .int .i64 v150, .int .i64 (v151 0), .int .i64 (v151 1), .int .i64 (v151 2), .int .i64 (v151 3), .int .i64 (v151 4), .int .i64 (v151 5), .int .i64 (v151 6), .int .i64 (v151 7), .int .i64 (v151 8), .int .i64 (v151 9), .int .i64 (v151 10), .int .i64 (v151 11), .int .i64 (v151 12), .int .i64 (v151 13), .int .i64 (v151 14), .int .i64 (v151 15), .int .i64 (v151 16), .int .i64 (v151 17), .int .i64 (v151 18), .int .i64 (v151 19), .int .i64 (v151 20), .int .i64 (v151 21), .int .i64 (v151 22), .int .i64 (v151 23)]), ((.loc 7 4), [.int .i64 v152, .sl 97 .ro (v153.map pv97), .int .i64 (v154 0), .int .i64 (v154 1), .int .i64 (v154 2), .int .i64 (v154 3), .int .i64 (v154 4), .int .i64 v155, .int .i64 (v156 0), .int .i64 (v156 1), .int .i64 (v156 2), .int .i64 (v156 3), .int .i64 (v156 4), .int .i64 (v156 5), .int .i64 (v156 6), .int .i64 (v156 7), .int .i64 (v156 8), .int .i64 (v156 9), .int .i64 (v156 10), .int .i64 (v156 11), .int .i64 (v156 12), .int .i64 (v156 13), .int .i64 (v156 14), .int .i64 (v156 15), .int .i64 (v156 16), .int .i64 (v156 17), .int .i64 (v156 18), .int .i64 (v156 19), .int .i64 (v156 20), .int .i64 (v156 21), .int .i64 (v156 22), .int .i64 (v156 23)])] ∧ f13_l1 n j120 m v145 v146 v147 v148 v149 v150 v151 v152 v153 v154 v155 v156 v157 = some r) _ _ ⟨_, _, _, _, _, _, _, _, _, _, _, _, _, rfl, h⟩ (imp_of (.cons rfl (.cons rfl (.cons rfl (.cons rfl (.nil))))) (.cons rfl (.cons rfl (.cons rfl (.nil))))) ?_
              rintro m195 T ⟨v145, v146, v147, v148, v149, v150, v151, v152, v153, v154, v155, v156, v157, rfl, h⟩
              obtain _ | m195 := m195
              · rw [f13_l1] at h; cases h
              rw [f13_l1] at h
              refine .seq ?_
              obtain ⟨j209, hj209, h⟩ := joinE h
              obtain ⟨j212, hj212, h⟩ := joinE h
              refine .cutI (fun T => (∃ (v207 : (List Int)) (v208 : Int), T = St.of [(5, .ptr (.loc 5 1) 0), (6, .ptr (.loc 6 7) 0), (8, .ptr (.loc 7 4) 0), (10, .int .i64 v157), (42, .bool (decide (v157 < (30 : Int))))] [((.loc 5 1), [.sl 3 .ro (v207.map (PV.int .i64)), .int .i64 v208]), ((.loc 6 7), [.int .i64 v147, .sl 97 .ro (v148.map pv97), .int .i64 (v149 0), .int .i64 (v149 1), .int .i64 (v149 2), .int .i64 (v149 3), .int .i64 (v149 4), .int .i64 v150, .int .i64 (v151 0), .int .i64 (v151 1), .int .i64 (v151 2), .int .i64 (v151 3), .int .i64 (v151 4), .int .i64 (v151 5), .int .i64 (v151 6), .int .i64 (v151 7), .int .i64 (v151 8), .int .i64 (v151 9), .int .i64 (v151 10), .int .i64 (v151 11), .int .i64 (v151 12), .int .i64 (v151 13), .int .i64 (v151 14), .int .i64 (v151 15), .int .i64 (v151 16), .int .i64 (v151 17), .int .i64 (v151 18), .int .i64 (v151 19), .int .i64 (v151 20), .int .i64 (v151 21), .int .i64 (v151 22), .int .i64 (v151 23)]), ((.loc 7 4), [.int .i64 v152, .sl 97 .ro (v153.map pv97), .int .i64 (v154 0), .int .i64 (v154 1), .int .i64 (v154 2), .int .i64 (v154 3), .int .i64 (v154 4), .int .i64 v155, .int .i64 (v156 0), .int .i64 (v156 1), .int .i64 (v156 2), .int .i64 (v156 3), .int .i64 (v156 4), .int .i64 (v156 5), .int .i64 (v156 6), .int .i64 (v156 7), .int .i64 (v156 8), .int .i64 (v156 9), .int .i64 (v156 10), .int .i64 (v156 11), .int .i64 (v156 12), .int .i64 (v156 13), .int .i64 (v156 14), .int .i64 (v156 15), .int .i64 (v156 16), .int .i64 (v156 17), .int .i64 (v156 18), .int .i64 (v156 19), .int .i64 (v156 20), .int .i64 (v156 21), .int .i64 (v156 22), .int .i64 (v156 23)])] ∧ j209 v207 v208 = some r) ∨ (∃ (v210 : (List Int)) (v211 : Int), T = St.of [(5, .ptr (.loc 5 1) 0), (6, .ptr (.loc 6 7) 0), (8, .ptr (.loc 7 4) 0), (10, .int .i64 v157), (42, .bool false)] [((.loc 5 1), [.sl 3 .ro (v210.map (PV.int .i64)), .int .i64 v211]), ((.loc 6 7), [.int .i64 v147, .sl 97 .ro (v148.map pv97), .int .i64 (v149 0), .int .i64 (v149 1), .int .i64 (v149 2), .int .i64 (v149 3), .int .i64 (v149 4), .int .i64 v150, .int .i64 (v151 0), .int .i64 (v151 1), .int .i64 (v151 2), .int .i64 (v151 3), .int .i64 (v151 4), .int .i64 (v151 5), .int .i64 (v151 6), .int .i64 (v151 7), .int .i64 (v151 8), .int .i64 (v151 9), .int .i64 (v151 10), .int .i64 (v151 11), .int .i64 (v151 12), .int .i64 (v151 13), .int .i64 (v151 14), .int .i64 (v151 15), .int .i64 (v151 16), .int .i64 (v151 17), .int .i64 (v151 18), .int .i64 (v151 19), .int .i64 (v151 20), .int .i64 (v151 21), .int .i64 (v151 22), .int .i64 (v151 23)]), ((.loc 7 4), [.int .i64 v152, .sl 97 .ro (v153.map pv97), .int .i64 (v154 0), .int .i64 (v154 1), .int .i64 (v154 2), .int .i64 (v154 3), .int .i64 (v154 4), .int .i64 v155, .int .i64 (v156 0), .int .i64 (v156 1), .int .i64 (v156 2), .int .i64 (v156 3), .int .i64 (v156 4), .int .i64 (v156 5), .int .i64 (v156 6), .int .i64 (v156 7), .int .i64 (v156 8), .int .i64 (v156 9), .int .i64 (v156 10), .int .i64 (v156 11), .int .i64 (v156 12), .int .i64 (v156 13), .int .i64 (v156 14), .int .i64 (v156 15), .int .i64 (v156 16), .int .i64 (v156 17), .int .i64 (v156 18), .int .i64 (v156 19), .int .i64 (v156 20), .int .i64 (v156 21), .int .i64 (v156 22), .int .i64 (v156 23)])] ∧ j212 v210 v211 = some r)) ?_ ?_
              · refine .region ?_
                refine .move ?_
                obtain ⟨y213, hy213, h⟩ := bindE h
                refine .cH (.loc 5 1) (g69 hy213) ?_
                refine .move ?_
                refine .caseG (fun hc214 => ?_) (fun hc214 => ?_)
                · replace h := (if_pos hc214).symm.trans h
                  refine .move ?_
                  refine .val ?_
                  refine .brT ?_
                  refine .nil ?_
                  exact ⟨_, (.inl ⟨_, _, rfl, h⟩), (imp_of (.cons rfl (.cons rfl (.cons rfl (.cons rfl (.cons rfl (.nil)))))) (.cons rfl (.cons rfl (.cons rfl (.nil)))))⟩
                · replace h := (if_neg (nt hc214)).symm.trans h
                  refine .skip ?_
                  refine .skip ?_
                  refine .brF ?_
                  refine .nil ?_
                  exact ⟨_, (.inr (⟨_, _, rfl, h⟩)), (imp_of (.cons rfl (.cons rfl (.cons rfl (.cons rfl (.cons rfl (.nil)))))) (.cons rfl (.cons rfl (.cons rfl (.nil)))))⟩
              · rintro T (⟨v207, v208, rfl, h⟩ | ⟨v210, v211, rfl, h⟩)
                · subst hj209
                  refine .cond (fun hc215 => ?_) (fun hc215 => ?_)
                  · replace h := (if_pos hc215).symm.trans h
                    refine .skip ?_
                    refine .seq ?_
                    refine .block ?_
                    refine .seq ?_
                    refine .region ?_
                    refine .move ?_
                    obtain ⟨y231, hy231, h⟩ := bindE h
                    refine .cH (.loc 5 1) (g62 hy231) ?_
                    refine .allocL (cs := [.int .i64 0, .int .i64 0, .int .i64 0, .int .i64 0, .int .u64 0, .int .i64 0]) ?_
                    refine .wrL (cs := [.int .i64 y231.1.Kind, .int .i64 y231.1.At, .int .i64 y231.1.Quanta, .int .i64 y231.1.Stream, .int .u64 y231.1.Device, .int .i64 y231.1.Frames]) ?_
                    refine .nil ?_
                    refine .seq ?_
                    refine .region ?_
                    refine .val (v := .agg [.int .i64 v147, .sl 97 .ro (v148.map pv97), .int .i64 (v149 0), .int .i64 (v149 1), .int .i64 (v149 2), .int .i64 (v149 3), .int .i64 (v149 4), .int .i64 v150, .int .i64 (v151 0), .int .i64 (v151 1), .int .i64 (v151 2), .int .i64 (v151 3), .int .i64 (v151 4), .int .i64 (v151 5), .int .i64 (v151 6), .int .i64 (v151 7), .int .i64 (v151 8), .int .i64 (v151 9), .int .i64 (v151 10), .int .i64 (v151 11), .int .i64 (v151 12), .int .i64 (v151 13), .int .i64 (v151 14), .int .i64 (v151 15), .int .i64 (v151 16), .int .i64 (v151 17), .int .i64 (v151 18), .int .i64 (v151 19), .int .i64 (v151 20), .int .i64 (v151 21), .int .i64 (v151 22), .int .i64 (v151 23)]) ?_
                    refine .val (v := .agg [.int .i64 y231.1.Kind, .int .i64 y231.1.At, .int .i64 y231.1.Quanta, .int .i64 y231.1.Stream, .int .u64 y231.1.Device, .int .i64 y231.1.Frames]) ?_
                    obtain ⟨y232, hy232, h⟩ := bindE h
                    refine .cP (g63 hy232) ?_
                    refine .move ?_
                    refine .val ?_
                    refine .val ?_
                    refine .wrL (cs := [.int .i64 y232.1.Limit, .sl 97 .ro (y232.1.Last.map pv97), .int .i64 (y232.1.Counts 0), .int .i64 (y232.1.Counts 1), .int .i64 (y232.1.Counts 2), .int .i64 (y232.1.Counts 3), .int .i64 (y232.1.Counts 4), .int .i64 y232.1.Frames, .int .i64 (y232.1.Buckets 0), .int .i64 (y232.1.Buckets 1), .int .i64 (y232.1.Buckets 2), .int .i64 (y232.1.Buckets 3), .int .i64 (y232.1.Buckets 4), .int .i64 (y232.1.Buckets 5), .int .i64 (y232.1.Buckets 6), .int .i64 (y232.1.Buckets 7), .int .i64 (y232.1.Buckets 8), .int .i64 (y232.1.Buckets 9), .int .i64 (y232.1.Buckets 10), .int .i64 (y232.1.Buckets 11), .int .i64 (y232.1.Buckets 12), .int .i64 (y232.1.Buckets 13), .int .i64 (y232.1.Buckets 14), .int .i64 (y232.1.Buckets 15), .int .i64 (y232.1.Buckets 16), .int .i64 (y232.1.Buckets 17), .int .i64 (y232.1.Buckets 18), .int .i64 (y232.1.Buckets 19), .int .i64 (y232.1.Buckets 20), .int .i64 (y232.1.Buckets 21), .int .i64 (y232.1.Buckets 22), .int .i64 (y232.1.Buckets 23)]) ?_
                    refine .assign ?_
                    refine .nil ?_
                    refine .seq ?_
                    refine .region ?_
                    refine .val (v := .agg [.int .i64 v152, .sl 97 .ro (v153.map pv97), .int .i64 (v154 0), .int .i64 (v154 1), .int .i64 (v154 2), .int .i64 (v154 3), .int .i64 (v154 4), .int .i64 v155, .int .i64 (v156 0), .int .i64 (v156 1), .int .i64 (v156 2), .int .i64 (v156 3), .int .i64 (v156 4), .int .i64 (v156 5), .int .i64 (v156 6), .int .i64 (v156 7), .int .i64 (v156 8), .int .i64 (v156 9), .int .i64 (v156 10), .int .i64 (v156 11), .int .i64 (v156 12), .int .i64 (v156 13), .int .i64 (v156 14), .int .i64 (v156 15), .int .i64 (v156 16), .int .i64 (v156 17), .int .i64 (v156 18), .int .i64 (v156 19), .int .i64 (v156 20), .int .i64 (v156 21), .int .i64 (v156 22), .int .i64 (v156 23)]) ?_
                    refine .val (v := .agg [.int .i64 y231.1.Kind, .int .i64 y231.1.At, .int .i64 y231.1.Quanta, .int .i64 y231.1.Stream, .int .u64 y231.1.Device, .int .i64 y231.1.Frames]) ?_
                    obtain ⟨y233, hy233, h⟩ := bindE h
                    refine .cP (g63 hy233) ?_
                    refine .move ?_
                    refine .val ?_
                    refine .val ?_
                    refine .wrL (cs := [.int .i64 y233.1.Limit, .sl 97 .ro (y233.1.Last.map pv97), .int .i64 (y233.1.Counts 0), .int .i64 (y233.1.Counts 1), .int .i64 (y233.1.Counts 2), .int .i64 (y233.1.Counts 3), .int .i64 (y233.1.Counts 4), .int .i64 y233.1.Frames, .int .i64 (y233.1.Buckets 0), .int .i64 (y233.1.Buckets 1), .int .i64 (y233.1.Buckets 2), .int .i64 (y233.1.Buckets 3), .int .i64 (y233.1.Buckets 4), .int .i64 (y233.1.Buckets 5), .int .i64 (y233.1.Buckets 6), .int .i64 (y233.1.Buckets 7), .int .i64 (y233.1.Buckets 8), .int .i64 (y233.1.Buckets 9), .int .i64 (y233.1.Buckets 10), .int .i64 (y233.1.Buckets 11), .int .i64 (y233.1.Buckets 12), .int .i64 (y233.1.Buckets 13), .int .i64 (y233.1.Buckets 14), .int .i64 (y233.1.Buckets 15), .int .i64 (y233.1.Buckets 16), .int .i64 (y233.1.Buckets 17), .int .i64 (y233.1.Buckets 18), .int .i64 (y233.1.Buckets 19), .int .i64 (y233.1.Buckets 20), .int .i64 (y233.1.Buckets 21), .int .i64 (y233.1.Buckets 22), .int .i64 (y233.1.Buckets 23)]) ?_
                    refine .assign ?_
                    refine .nil ?_
                    refine .seq ?_
                    refine .region ?_
                    refine .val ?_
                    refine .val ?_
                    refine .lenL (f := pv97) ?_
                    refine .val ?_
                    refine .val ?_
                    refine .lenL (f := pv97) ?_
                    refine .val ?_
                    refine .assign ?_
                    refine .nil ?_
                    obtain ⟨j242, hj242, h⟩ := joinE h
                    obtain ⟨j244, hj244, h⟩ := joinE h
                    refine .cutI (fun T => (T = St.of [(5, .ptr (.loc 5 1) 0), (6, .ptr (.loc 6 7) 0), (8, .ptr (.loc 7 4) 0), (10, .int .i64 v157), (107, .bool true)] [((.loc 5 1), [.sl 3 .ro (y231.2.L.map (PV.int .i64)), .int .i64 y231.2.At]), ((.loc 6 7), [.int .i64 y232.1.Limit, .sl 97 .ro (y232.1.Last.map pv97), .int .i64 (y232.1.Counts 0), .int .i64 (y232.1.Counts 1), .int .i64 (y232.1.Counts 2), .int .i64 (y232.1.Counts 3), .int .i64 (y232.1.Counts 4), .int .i64 y232.1.Frames, .int .i64 (y232.1.Buckets 0), .int .i64 (y232.1.Buckets 1), .int .i64 (y232.1.Buckets 2), .int .i64 (y232.1.Buckets 3), .int .i64 (y232.1.Buckets 4), .int .i64 (y232.1.Buckets 5), .int .i64 (y232.1.Buckets 6), .int .i64 (y232.1.Buckets 7), .int .i64 (y232.1.Buckets 8), .int .i64 (y232.1.Buckets 9), .int .i64 (y232.1.Buckets 10), .int .i64 (y232.1.Buckets 11), .int .i64 (y232.1.Buckets 12), .int .i64 (y232.1.Buckets 13), .int .i64 (y232.1.Buckets 14), .int .i64 (y232.1.Buckets 15), .int .i64 (y232.1.Buckets 16), .int .i64 (y232.1.Buckets 17), .int .i64 (y232.1.Buckets 18), .int .i64 (y232.1.Buckets 19), .int .i64 (y232.1.Buckets 20), .int .i64 (y232.1.Buckets 21), .int .i64 (y232.1.Buckets 22), .int .i64 (y232.1.Buckets 23)]), ((.loc 7 4), [.int .i64 y233.1.Limit, .sl 97 .ro (y233.1.Last.map pv97), .int .i64 (y233.1.Counts 0), .int .i64 (y233.1.Counts 1), .int .i64 (y233.1.Counts 2), .int .i64 (y233.1.Counts 3), .int .i64 (y233.1.Counts 4), .int .i64 y233.1.Frames, .int .i64 (y233.1.Buckets 0), .int .i64 (y233.1.Buckets 1), .int .i64 (y233.1.Buckets 2), .int .i64 (y233.1.Buckets 3), .int .i64 (y233.1.Buckets 4), .int .i64 (y233.1.Buckets 5), .int .i64 (y233.1.Buckets 6), .int .i64 (y233.1.Buckets 7), .int .i64 (y233.1.Buckets 8), .int .i64 (y233.1.Buckets 9), .int .i64 (y233.1.Buckets 10), .int .i64 (y233.1.Buckets 11), .int .i64 (y233.1.Buckets 12), .int .i64 (y233.1.Buckets 13), .int .i64 (y233.1.Buckets 14), .int .i64 (y233.1.Buckets 15), .int .i64 (y233.1.Buckets 16), .int .i64 (y233.1.Buckets 17), .int .i64 (y233.1.Buckets 18), .int .i64 (y233.1.Buckets 19), .int .i64 (y233.1.Buckets 20), .int .i64 (y233.1.Buckets 21), .int .i64 (y233.1.Buckets 22), .int .i64 (y233.1.Buckets 23)])] ∧ j242 () = some r) ∨ (∃ (v243 : Bool), T = St.of [(5, .ptr (.loc 5 1) 0), (6, .ptr (.loc 6 7) 0), (8, .ptr (.loc 7 4) 0), (10, .int .i64 v157), (107, .bool v243)] [((.loc 5 1), [.sl 3 .ro (y231.2.L.map (PV.int .i64)), .int .i64 y231.2.At]), ((.loc 6 7), [.int .i64 y232.1.Limit, .sl 97 .ro (y232.1.Last.map pv97), .int .i64 (y232.1.Counts 0), .int .i64 (y232.1.Counts 1), .int .i64 (y232.1.Counts 2), .int .i64 (y232.1.Counts 3), .int .i64 (y232.1.Counts 4), .int .i64 y232.1.Frames, .int .i64 (y232.1.Buckets 0), .int .i64 (y232.1.Buckets 1), .int .i64 (y232.1.Buckets 2), .int .i64 (y232.1.Buckets 3), .int .i64 (y232.1.Buckets 4), .int .i64 (y232.1.Buckets 5), .int .i64 (y232.1.Buckets 6), .int .i64 (y232.1.Buckets 7), .int .i64 (y232.1.Buckets 8), .int .i64 (y232.1.Buckets 9), .int .i64 (y232.1.Buckets 10), .int .i64 (y232.1.Buckets 11), .int .i64 (y232.1.Buckets 12), .int .i64 (y232.1.Buckets 13), .int .i64 (y232.1.Buckets 14), .int .i64 (y232.1.Buckets 15), .int .i64 (y232.1.Buckets 16), .int .i64 (y232.1.Buckets 17), .int .i64 (y232.1.Buckets 18), .int .i64 (y232.1.Buckets 19), .int .i64 (y232.1.Buckets 20), .int .i64 (y232.1.Buckets 21), .int .i64 (y232.1.Buckets 22), .int .i64 (y232.1.Buckets 23)]), ((.loc 7 4), [.int .i64 y233.1.Limit, .sl 97 .ro (y233.1.Last.map pv97), .int .i64 (y233.1.Counts 0), .int .i64 (y233.1.Counts 1), .int .i64 (y233.1.Counts 2), .int .i64 (y233.1.Counts 3), .int .i64 (y233.1.Counts 4), .int .i64 y233.1.Frames, .int .i64 (y233.1.Buckets 0), .int .i64 (y233.1.Buckets 1), .int .i64 (y233.1.Buckets 2), .int .i64 (y233.1.Buckets 3), .int .i64 (y233.1.Buckets 4), .int .i64 (y233.1.Buckets 5), .int .i64 (y233.1.Buckets 6), .int .i64 (y233.1.Buckets 7), .int .i64 (y233.1.Buckets 8), .int .i64 (y233.1.Buckets 9), .int .i64 (y233.1.Buckets 10), .int .i64 (y233.1.Buckets 11), .int .i64 (y233.1.Buckets 12), .int .i64 (y233.1.Buckets 13), .int .i64 (y233.1.Buckets 14), .int .i64 (y233.1.Buckets 15), .int .i64 (y233.1.Buckets 16), .int .i64 (y233.1.Buckets 17), .int .i64 (y233.1.Buckets 18), .int .i64 (y233.1.Buckets 19), .int .i64 (y233.1.Buckets 20), .int .i64 (y233.1.Buckets 21), .int .i64 (y233.1.Buckets 22), .int .i64 (y233.1.Buckets 23)])] ∧ j244 v243 = some r)) ?_ ?_
                    · rcases bool_em ((y232.2 != (0 : Int))) with hc245 | hc245
                      · replace h := (if_pos hc245).symm.trans h
                        refine .draw [] [[], [], [], [], [], [], [], [], [], [], [], [], [], [], [], [], [], [], [], [], [], [], [], [], [], [], [], [], [], [], [], [], [], [], [], [], [], [], [], [], [], []] [[], [], [], [], [], [], [], [], [], [], [], [], [], [], [], [], [], [], [], [], [], [], [], [], [], [], [], [], [], [], [], [], [], [], [], [], [], [], [], [], [], []] [[]]
                          [(0, 0), (1, 0), (2, 0), (3, 0), (4, 0), (5, 0), (6, 0), (7, 0), (8, 0), (9, 0), (10, 0), (11, 0), (12, 0), (13, 0), (14, 0), (15, 0), (16, 0), (17, 0), (18, 0), (19, 0), (20, 0), (21, 0), (22, 0), (23, 0), (24, 0), (25, 0), (26, 0), (27, 0), (28, 0), (29, 0), (30, 0), (31, 0), (32, 0), (33, 0), (34, 0), (35, 0), (36, 0), (37, 0), (38, 0), (39, 0), (40, 0), (41, 0)] [] 0
                          [⟨[(66, .int .i64 y232.2), (67, .bool true), (68, .bool true), (69, .tup []), (70, .tup []), (71, .bool true), (72, .bool true), (73, .tup []), (74, .tup []), (75, .tup []), (76, .tup []), (77, .tup []), (78, .bool true), (79, .bool true), (80, .tup []), (81, .tup []), (82, .tup []), (83, .tup []), (84, .tup []), (85, .bool true), (86, .bool true), (87, .tup []), (88, .tup []), (89, .tup []), (90, .tup []), (91, .tup []), (92, .tup []), (93, .bool true), (94, .bool true), (95, .tup []), (96, .tup []), (97, .bool true), (98, .bool true), (99, .tup []), (100, .tup []), (101, .tup []), (102, .tup []), (103, .tup []), (104, .tup []), (105, .tup []), (106, .tup []), (107, .bool true), (5, .ptr (.loc 5 1) 0), (6, .ptr (.loc 6 7) 0), (7, .int .i64 y232.2), (8, .ptr (.loc 7 4) 0), (9, .int .i64 y233.2), (10, .int .i64 v157), (12, .int .i64 (w64 ((y233.1.Last.length : Int) - (y232.1.Last.length : Int))))], [], [((.loc 5 1), [.sl 3 .ro (y231.2.L.map (PV.int .i64)), .int .i64 y231.2.At]), ((.loc 6 7), [.int .i64 y232.1.Limit, .sl 97 .ro (y232.1.Last.map pv97), .int .i64 (y232.1.Counts 0), .int .i64 (y232.1.Counts 1), .int .i64 (y232.1.Counts 2), .int .i64 (y232.1.Counts 3), .int .i64 (y232.1.Counts 4), .int .i64 y232.1.Frames, .int .i64 (y232.1.Buckets 0), .int .i64 (y232.1.Buckets 1), .int .i64 (y232.1.Buckets 2), .int .i64 (y232.1.Buckets 3), .int .i64 (y232.1.Buckets 4), .int .i64 (y232.1.Buckets 5), .int .i64 (y232.1.Buckets 6), .int .i64 (y232.1.Buckets 7), .int .i64 (y232.1.Buckets 8), .int .i64 (y232.1.Buckets 9), .int .i64 (y232.1.Buckets 10), .int .i64 (y232.1.Buckets 11), .int .i64 (y232.1.Buckets 12), .int .i64 (y232.1.Buckets 13), .int .i64 (y232.1.Buckets 14), .int .i64 (y232.1.Buckets 15), .int .i64 (y232.1.Buckets 16), .int .i64 (y232.1.Buckets 17), .int .i64 (y232.1.Buckets 18), .int .i64 (y232.1.Buckets 19), .int .i64 (y232.1.Buckets 20), .int .i64 (y232.1.Buckets 21), .int .i64 (y232.1.Buckets 22), .int .i64 (y232.1.Buckets 23)]), ((.loc 7 4), [.int .i64 y233.1.Limit, .sl 97 .ro (y233.1.Last.map pv97), .int .i64 (y233.1.Counts 0), .int .i64 (y233.1.Counts 1), .int .i64 (y233.1.Counts 2), .int .i64 (y233.1.Counts 3), .int .i64 (y233.1.Counts 4), .int .i64 y233.1.Frames, .int .i64 (y233.1.Buckets 0), .int .i64 (y233.1.Buckets 1), .int .i64 (y233.1.Buckets 2), .int .i64 (y233.1.Buckets 3), .int .i64 (y233.1.Buckets 4), .int .i64 (y233.1.Buckets 5), .int .i64 (y233.1.Buckets 6), .int .i64 (y233.1.Buckets 7), .int .i64 (y233.1.Buckets 8), .int .i64 (y233.1.Buckets 9), .int .i64 (y233.1.Buckets 10), .int .i64 (y233.1.Buckets 11), .int .i64 (y233.1.Buckets 12), .int .i64 (y233.1.Buckets 13), .int .i64 (y233.1.Buckets 14), .int .i64 (y233.1.Buckets 15), .int .i64 (y233.1.Buckets 16), .int .i64 (y233.1.Buckets 17), .int .i64 (y233.1.Buckets 18), .int .i64 (y233.1.Buckets 19), .int .i64 (y233.1.Buckets 20), .int .i64 (y233.1.Buckets 21), .int .i64 (y233.1.Buckets 22), .int .i64 (y233.1.Buckets 23)])]⟩]
                          [(5, .ptr (.loc 5 1) 0), (6, .ptr (.loc 6 7) 0), (7, .int .i64 y232.2), (8, .ptr (.loc 7 4) 0), (9, .int .i64 y233.2), (10, .int .i64 v157), (12, .int .i64 (w64 ((y233.1.Last.length : Int) - (y232.1.Last.length : Int))))]
                          (.cons [7] [] (fun _ _ h => .move (h _)) rfl rfl <|
                          .cons [66] [] (fun _ _ h => .valB hc245 (h _)) rfl rfl <|
                          .cons [67] [] (fun _ _ h => .move (h _)) rfl rfl <|
                          .cons [68] [] (fun _ _ h => .skip (h _)) rfl rfl <|
                          .cons [68] [] (fun _ _ h => .skip (h _)) rfl rfl <|
                          .cons [68, 70] [] (fun _ _ h => .brT (h _)) rfl rfl <|
                          .cons [71] [] (fun _ _ h => .move (h _)) rfl rfl <|
                          .cons [72] [] (fun _ _ h => .skip (h _)) rfl rfl <|
                          .cons [72] [] (fun _ _ h => .skip (h _)) rfl rfl <|
                          .cons [72] [] (fun _ _ h => .skip (h _)) rfl rfl <|
                          .cons [72] [] (fun _ _ h => .skip (h _)) rfl rfl <|
                          .cons [72] [] (fun _ _ h => .skip (h _)) rfl rfl <|
                          .cons [72, 77] [] (fun _ _ h => .brT (h _)) rfl rfl <|
                          .cons [78] [] (fun _ _ h => .move (h _)) rfl rfl <|
                          .cons [79] [] (fun _ _ h => .skip (h _)) rfl rfl <|
                          .cons [79] [] (fun _ _ h => .skip (h _)) rfl rfl <|
                          .cons [79] [] (fun _ _ h => .skip (h _)) rfl rfl <|
                          .cons [79] [] (fun _ _ h => .skip (h _)) rfl rfl <|
                          .cons [79] [] (fun _ _ h => .skip (h _)) rfl rfl <|
                          .cons [79, 84] [] (fun _ _ h => .brT (h _)) rfl rfl <|
                          .cons [85] [] (fun _ _ h => .move (h _)) rfl rfl <|
                          .cons [86] [] (fun _ _ h => .skip (h _)) rfl rfl <|
                          .cons [86] [] (fun _ _ h => .skip (h _)) rfl rfl <|
                          .cons [86] [] (fun _ _ h => .skip (h _)) rfl rfl <|
                          .cons [86] [] (fun _ _ h => .skip (h _)) rfl rfl <|
                          .cons [86] [] (fun _ _ h => .skip (h _)) rfl rfl <|
                          .cons [86] [] (fun _ _ h => .skip (h _)) rfl rfl <|
                          .cons [86, 92] [] (fun _ _ h => .brT (h _)) rfl rfl <|
                          .cons [93] [] (fun _ _ h => .move (h _)) rfl rfl <|
                          .cons [94] [] (fun _ _ h => .skip (h _)) rfl rfl <|
                          .cons [94] [] (fun _ _ h => .skip (h _)) rfl rfl <|
                          .cons [94, 96] [] (fun _ _ h => .brT (h _)) rfl rfl <|
                          .cons [97] [] (fun _ _ h => .move (h _)) rfl rfl <|
                          .cons [98] [] (fun _ _ h => .skip (h _)) rfl rfl <|
                          .cons [98] [] (fun _ _ h => .skip (h _)) rfl rfl <|
                          .cons [98] [] (fun _ _ h => .skip (h _)) rfl rfl <|
                          .cons [98] [] (fun _ _ h => .skip (h _)) rfl rfl <|
                          .cons [98] [] (fun _ _ h => .skip (h _)) rfl rfl <|
                          .cons [98] [] (fun _ _ h => .skip (h _)) rfl rfl <|
                          .cons [98] [] (fun _ _ h => .skip (h _)) rfl rfl <|
                          .cons [98] [] (fun _ _ h => .skip (h _)) rfl rfl <|
                          .cons [98, 106] [] (fun _ _ h => .brT (h _)) rfl rfl <|
                          .nil)
                          (.nil)
                          (by kernel_rfl) rfl (.cons rfl (.cons rfl (.cons rfl (.cons rfl (.cons rfl (.cons rfl (.cons rfl (.nil)))))))) (.nil) (.cons rfl (.cons rfl (.cons rfl (.nil)))) ?_
                        exact ⟨_, (.inl ⟨rfl, h⟩), (imp_of (.cons rfl (.cons rfl (.cons rfl (.cons rfl (.cons rfl (.nil)))))) (.cons rfl (.cons rfl (.cons rfl (.nil)))))⟩
                      · replace h := (if_neg (nt hc245)).symm.trans h
                        rcases bool_em ((y233.2 != (0 : Int))) with hc246 | hc246
                        · replace h := (if_pos hc246).symm.trans h
                          refine .draw [] [[], [], [], [], [], [], [], [], [], [], [], [], [], [], [], [], [], [], [], [], [], [], [], [], [], [], [], [], [], [], [], [], [], [], [], [], [], [], [], [], [], []] [[], [], [], [], [], [], [], [], [], [], [], [], [], [], [], [], [], [], [], [], [], [], [], [], [], [], [], [], [], [], [], [], [], [], [], [], [], [], [], [], [], []] [[]]
                            [(0, 0), (1, 0), (2, 0), (3, 0), (4, 0), (5, 0), (6, 0), (7, 0), (8, 0), (9, 0), (10, 0), (11, 0), (12, 0), (13, 0), (14, 0), (15, 0), (16, 0), (17, 0), (18, 0), (19, 0), (20, 0), (21, 0), (22, 0), (23, 0), (24, 0), (25, 0), (26, 0), (27, 0), (28, 0), (29, 0), (30, 0), (31, 0), (32, 0), (33, 0), (34, 0), (35, 0), (36, 0), (37, 0), (38, 0), (39, 0), (40, 0), (41, 0)] [] 0
                            [⟨[(66, .int .i64 y232.2), (67, .bool false), (68, .bool false), (69, .int .i64 y233.2), (70, .bool true), (71, .bool true), (72, .bool true), (73, .tup []), (74, .tup []), (75, .tup []), (76, .tup []), (77, .tup []), (78, .bool true), (79, .bool true), (80, .tup []), (81, .tup []), (82, .tup []), (83, .tup []), (84, .tup []), (85, .bool true), (86, .bool true), (87, .tup []), (88, .tup []), (89, .tup []), (90, .tup []), (91, .tup []), (92, .tup []), (93, .bool true), (94, .bool true), (95, .tup []), (96, .tup []), (97, .bool true), (98, .bool true), (99, .tup []), (100, .tup []), (101, .tup []), (102, .tup []), (103, .tup []), (104, .tup []), (105, .tup []), (106, .tup []), (107, .bool true), (5, .ptr (.loc 5 1) 0), (6, .ptr (.loc 6 7) 0), (7, .int .i64 y232.2), (8, .ptr (.loc 7 4) 0), (9, .int .i64 y233.2), (10, .int .i64 v157), (12, .int .i64 (w64 ((y233.1.Last.length : Int) - (y232.1.Last.length : Int))))], [], [((.loc 5 1), [.sl 3 .ro (y231.2.L.map (PV.int .i64)), .int .i64 y231.2.At]), ((.loc 6 7), [.int .i64 y232.1.Limit, .sl 97 .ro (y232.1.Last.map pv97), .int .i64 (y232.1.Counts 0), .int .i64 (y232.1.Counts 1), .int .i64 (y232.1.Counts 2), .int .i64 (y232.1.Counts 3), .int .i64 (y232.1.Counts 4), .int .i64 y232.1.Frames, .int .i64 (y232.1.Buckets 0), .int .i64 (y232.1.Buckets 1), .int .i64 (y232.1.Buckets 2), .int .i64 (y232.1.Buckets 3), .int .i64 (y232.1.Buckets 4), .int .i64 (y232.1.Buckets 5), .int .i64 (y232.1.Buckets 6), .int .i64 (y232.1.Buckets 7), .int .i64 (y232.1.Buckets 8), .int .i64 (y232.1.Buckets 9), .int .i64 (y232.1.Buckets 10), .int .i64 (y232.1.Buckets 11), .int .i64 (y232.1.Buckets 12), .int .i64 (y232.1.Buckets 13), .int .i64 (y232.1.Buckets 14), .int .i64 (y232.1.Buckets 15), .int .i64 (y232.1.Buckets 16), .int .i64 (y232.1.Buckets 17), .int .i64 (y232.1.Buckets 18), .int .i64 (y232.1.Buckets 19), .int .i64 (y232.1.Buckets 20), .int .i64 (y232.1.Buckets 21), .int .i64 (y232.1.Buckets 22), .int .i64 (y232.1.Buckets 23)]), ((.loc 7 4), [.int .i64 y233.1.Limit, .sl 97 .ro (y233.1.Last.map pv97), .int .i64 (y233.1.Counts 0), .int .i64 (y233.1.Counts 1), .int .i64 (y233.1.Counts 2), .int .i64 (y233.1.Counts 3), .int .i64 (y233.1.Counts 4), .int .i64 y233.1.Frames, .int .i64 (y233.1.Buckets 0), .int .i64 (y233.1.Buckets 1), .int .i64 (y233.1.Buckets 2), .int .i64 (y233.1.Buckets 3), .int .i64 (y233.1.Buckets 4), .int .i64 (y233.1.Buckets 5), .int .i64 (y233.1.Buckets 6), .int .i64 (y233.1.Buckets 7), .int .i64 (y233.1.Buckets 8), .int .i64 (y233.1.Buckets 9), .int .i64 (y233.1.Buckets 10), .int .i64 (y233.1.Buckets 11), .int .i64 (y233.1.Buckets 12), .int .i64 (y233.1.Buckets 13), .int .i64 (y233.1.Buckets 14), .int .i64 (y233.1.Buckets 15), .int .i64 (y233.1.Buckets 16), .int .i64 (y233.1.Buckets 17), .int .i64 (y233.1.Buckets 18), .int .i64 (y233.1.Buckets 19), .int .i64 (y233.1.Buckets 20), .int .i64 (y233.1.Buckets 21), .int .i64 (y233.1.Buckets 22), .int .i64 (y233.1.Buckets 23)])]⟩]
                            [(5, .ptr (.loc 5 1) 0), (6, .ptr (.loc 6 7) 0), (7, .int .i64 y232.2), (8, .ptr (.loc 7 4) 0), (9, .int .i64 y233.2), (10, .int .i64 v157), (12, .int .i64 (w64 ((y233.1.Last.length : Int) - (y232.1.Last.length : Int))))]
                            (.cons [7] [] (fun _ _ h => .move (h _)) rfl rfl <|
                            .cons [66] [] (fun _ _ h => .valB hc245 (h _)) rfl rfl <|
                            .cons [67] [] (fun _ _ h => .move (h _)) rfl rfl <|
                            .cons [9, 68] [] (fun _ _ h => .move (h _)) rfl rfl <|
                            .cons [69, 68] [] (fun _ _ h => .valB hc246 (h _)) rfl rfl <|
                            .cons [68, 70] [] (fun _ _ h => .brF (h _)) rfl rfl <|
                            .cons [71] [] (fun _ _ h => .move (h _)) rfl rfl <|
                            .cons [72] [] (fun _ _ h => .skip (h _)) rfl rfl <|
                            .cons [72] [] (fun _ _ h => .skip (h _)) rfl rfl <|
                            .cons [72] [] (fun _ _ h => .skip (h _)) rfl rfl <|
                            .cons [72] [] (fun _ _ h => .skip (h _)) rfl rfl <|
                            .cons [72] [] (fun _ _ h => .skip (h _)) rfl rfl <|
                            .cons [72, 77] [] (fun _ _ h => .brT (h _)) rfl rfl <|
                            .cons [78] [] (fun _ _ h => .move (h _)) rfl rfl <|
                            .cons [79] [] (fun _ _ h => .skip (h _)) rfl rfl <|
                            .cons [79] [] (fun _ _ h => .skip (h _)) rfl rfl <|
                            .cons [79] [] (fun _ _ h => .skip (h _)) rfl rfl <|
                            .cons [79] [] (fun _ _ h => .skip (h _)) rfl rfl <|
                            .cons [79] [] (fun _ _ h => .skip (h _)) rfl rfl <|
                            .cons [79, 84] [] (fun _ _ h => .brT (h _)) rfl rfl <|
                            .cons [85] [] (fun _ _ h => .move (h _)) rfl rfl <|
                            .cons [86] [] (fun _ _ h => .skip (h _)) rfl rfl <|
                            .cons [86] [] (fun _ _ h => .skip (h _)) rfl rfl <|
                            .cons [86] [] (fun _ _ h => .skip (h _)) rfl rfl <|
                            .cons [86] [] (fun _ _ h => .skip (h _)) rfl rfl <|
                            .cons [86] [] (fun _ _ h => .skip (h _)) rfl rfl <|
                            .cons [86] [] (fun _ _ h => .skip (h _)) rfl rfl <|
                            .cons [86, 92] [] (fun _ _ h => .brT (h _)) rfl rfl <|
                            .cons [93] [] (fun _ _ h => .move (h _)) rfl rfl <|
                            .cons [94] [] (fun _ _ h => .skip (h _)) rfl rfl <|
                            .cons [94] [] (fun _ _ h => .skip (h _)) rfl rfl <|
                            .cons [94, 96] [] (fun _ _ h => .brT (h _)) rfl rfl <|
                            .cons [97] [] (fun _ _ h => .move (h _)) rfl rfl <|
                            .cons [98] [] (fun _ _ h => .skip (h _)) rfl rfl <|
                            .cons [98] [] (fun _ _ h => .skip (h _)) rfl rfl <|
                            .cons [98] [] (fun _ _ h => .skip (h _)) rfl rfl <|
                            .cons [98] [] (fun _ _ h => .skip (h _)) rfl rfl <|
                            .cons [98] [] (fun _ _ h => .skip (h _)) rfl rfl <|
                            .cons [98] [] (fun _ _ h => .skip (h _)) rfl rfl <|
                            .cons [98] [] (fun _ _ h => .skip (h _)) rfl rfl <|
                            .cons [98] [] (fun _ _ h => .skip (h _)) rfl rfl <|
                            .cons [98, 106] [] (fun _ _ h => .brT (h _)) rfl rfl <|
                            .nil)
                            (.nil)
                            (by kernel_rfl) rfl (.cons rfl (.cons rfl (.cons rfl (.cons rfl (.cons rfl (.cons rfl (.cons rfl (.nil)))))))) (.nil) (.cons rfl (.cons rfl (.cons rfl (.nil)))) ?_
                          exact ⟨_, (.inl ⟨rfl, h⟩), (imp_of (.cons rfl (.cons rfl (.cons rfl (.cons rfl (.cons rfl (.nil)))))) (.cons rfl (.cons rfl (.cons rfl (.nil)))))⟩
                        · replace h := (if_neg (nt hc246)).symm.trans h
                          rcases bool_em (!(aEq 5 y232.1.Counts y233.1.Counts)) with hc247 | hc247
                          · replace h := (if_pos hc247).symm.trans h
                            refine .draw [] [[], [], [], [], [], [], [], [], [], [], [], [], [], [], [], [], [], [], [], [], [], [], [], [], [], [], [], [], [], [], [], [], [], [], [], [], [], [], [], [], [], []] [[], [], [], [], [], [], [], [], [], [], [], [], [], [], [], [], [], [], [], [], [], [], [], [], [], [], [], [], [], [], [], [], [], [], [], [], [], [], [], [], [], []] [[]]
                              [(0, 0), (1, 0), (2, 0), (3, 0), (4, 0), (5, 0), (6, 0), (7, 0), (8, 0), (9, 0), (10, 0), (11, 0), (12, 0), (13, 0), (14, 0), (15, 0), (16, 0), (17, 0), (18, 0), (19, 0), (20, 0), (21, 0), (22, 0), (23, 0), (24, 0), (25, 0), (26, 0), (27, 0), (28, 0), (29, 0), (30, 0), (31, 0), (32, 0), (33, 0), (34, 0), (35, 0), (36, 0), (37, 0), (38, 0), (39, 0), (40, 0), (41, 0)] [] 0
                              [⟨[(66, .int .i64 y232.2), (67, .bool false), (68, .bool false), (69, .int .i64 y233.2), (70, .bool false), (71, .bool false), (72, .bool false), (73, .ptr (.loc 6 7) 2), (74, .agg [.int .i64 (y232.1.Counts 0), .int .i64 (y232.1.Counts 1), .int .i64 (y232.1.Counts 2), .int .i64 (y232.1.Counts 3), .int .i64 (y232.1.Counts 4)]), (75, .ptr (.loc 7 4) 2), (76, .agg [.int .i64 (y233.1.Counts 0), .int .i64 (y233.1.Counts 1), .int .i64 (y233.1.Counts 2), .int .i64 (y233.1.Counts 3), .int .i64 (y233.1.Counts 4)]), (77, .bool true), (78, .bool true), (79, .bool true), (80, .tup []), (81, .tup []), (82, .tup []), (83, .tup []), (84, .tup []), (85, .bool true), (86, .bool true), (87, .tup []), (88, .tup []), (89, .tup []), (90, .tup []), (91, .tup []), (92, .tup []), (93, .bool true), (94, .bool true), (95, .tup []), (96, .tup []), (97, .bool true), (98, .bool true), (99, .tup []), (100, .tup []), (101, .tup []), (102, .tup []), (103, .tup []), (104, .tup []), (105, .tup []), (106, .tup []), (107, .bool true), (5, .ptr (.loc 5 1) 0), (6, .ptr (.loc 6 7) 0), (7, .int .i64 y232.2), (8, .ptr (.loc 7 4) 0), (9, .int .i64 y233.2), (10, .int .i64 v157), (12, .int .i64 (w64 ((y233.1.Last.length : Int) - (y232.1.Last.length : Int))))], [], [((.loc 5 1), [.sl 3 .ro (y231.2.L.map (PV.int .i64)), .int .i64 y231.2.At]), ((.loc 6 7), [.int .i64 y232.1.Limit, .sl 97 .ro (y232.1.Last.map pv97), .int .i64 (y232.1.Counts 0), .int .i64 (y232.1.Counts 1), .int .i64 (y232.1.Counts 2), .int .i64 (y232.1.Counts 3), .int .i64 (y232.1.Counts 4), .int .i64 y232.1.Frames, .int .i64 (y232.1.Buckets 0), .int .i64 (y232.1.Buckets 1), .int .i64 (y232.1.Buckets 2), .int .i64 (y232.1.Buckets 3), .int .i64 (y232.1.Buckets 4), .int .i64 (y232.1.Buckets 5), .int .i64 (y232.1.Buckets 6), .int .i64 (y232.1.Buckets 7), .int .i64 (y232.1.Buckets 8), .int .i64 (y232.1.Buckets 9), .int .i64 (y232.1.Buckets 10), .int .i64 (y232.1.Buckets 11), .int .i64 (y232.1.Buckets 12), .int .i64 (y232.1.Buckets 13), .int .i64 (y232.1.Buckets 14), .int .i64 (y232.1.Buckets 15), .int .i64 (y232.1.Buckets 16), .int .i64 (y232.1.Buckets 17), .int .i64 (y232.1.Buckets 18), .int .i64 (y232.1.Buckets 19), .int .i64 (y232.1.Buckets 20), .int .i64 (y232.1.Buckets 21), .int .i64 (y232.1.Buckets 22), .int .i64 (y232.1.Buckets 23)]), ((.loc 7 4), [.int .i64 y233.1.Limit, .sl 97 .ro (y233.1.Last.map pv97), .int .i64 (y233.1.Counts 0), .int .i64 (y233.1.Counts 1), .int .i64 (y233.1.Counts 2), .int .i64 (y233.1.Counts 3), .int .i64 (y233.1.Counts 4), .int .i64 y233.1.Frames, .int .i64 (y233.1.Buckets 0), .int .i64 (y233.1.Buckets 1), .int .i64 (y233.1.Buckets 2), .int .i64 (y233.1.Buckets 3), .int .i64 (y233.1.Buckets 4), .int .i64 (y233.1.Buckets 5), .int .i64 (y233.1.Buckets 6), .int .i64 (y233.1.Buckets 7), .int .i64 (y233.1.Buckets 8), .int .i64 (y233.1.Buckets 9), .int .i64 (y233.1.Buckets 10), .int .i64 (y233.1.Buckets 11), .int .i64 (y233.1.Buckets 12), .int .i64 (y233.1.Buckets 13), .int .i64 (y233.1.Buckets 14), .int .i64 (y233.1.Buckets 15), .int .i64 (y233.1.Buckets 16), .int .i64 (y233.1.Buckets 17), .int .i64 (y233.1.Buckets 18), .int .i64 (y233.1.Buckets 19), .int .i64 (y233.1.Buckets 20), .int .i64 (y233.1.Buckets 21), .int .i64 (y233.1.Buckets 22), .int .i64 (y233.1.Buckets 23)])]⟩]
                              [(5, .ptr (.loc 5 1) 0), (6, .ptr (.loc 6 7) 0), (7, .int .i64 y232.2), (8, .ptr (.loc 7 4) 0), (9, .int .i64 y233.2), (10, .int .i64 v157), (12, .int .i64 (w64 ((y233.1.Last.length : Int) - (y232.1.Last.length : Int))))]
                              (.cons [7] [] (fun _ _ h => .move (h _)) rfl rfl <|
                              .cons [66] [] (fun _ _ h => .valB hc245 (h _)) rfl rfl <|
                              .cons [67] [] (fun _ _ h => .move (h _)) rfl rfl <|
                              .cons [9, 68] [] (fun _ _ h => .move (h _)) rfl rfl <|
                              .cons [69, 68] [] (fun _ _ h => .valB hc246 (h _)) rfl rfl <|
                              .cons [68, 70] [] (fun _ _ h => .brF (h _)) rfl rfl <|
                              .cons [71] [] (fun _ _ h => .move (h _)) rfl rfl <|
                              .cons [6, 72] [] (fun _ _ h => .val (h _)) rfl rfl <|
                              .cons [73, 72] [] (fun _ _ h => .val (h _)) rfl rfl <|
                              .cons [8, 72] [] (fun _ _ h => .val (h _)) rfl rfl <|
                              .cons [75, 72] [] (fun _ _ h => .val (h _)) rfl rfl <|
                              .cons [74, 76, 72] [] (fun _ _ h => .eqV (.int (.int (.int (.int (.int .nil))))) (.int (.int (.int (.int (.int .nil))))) (neqA tok57 tok3 eqg57 _ _ y232.1.Counts y233.1.Counts) (by rw [hc247]; exact h _)) rfl rfl <|
                              .cons [72, 77] [] (fun _ _ h => .brF (h _)) rfl rfl <|
                              .cons [78] [] (fun _ _ h => .move (h _)) rfl rfl <|
                              .cons [79] [] (fun _ _ h => .skip (h _)) rfl rfl <|
                              .cons [79] [] (fun _ _ h => .skip (h _)) rfl rfl <|
                              .cons [79] [] (fun _ _ h => .skip (h _)) rfl rfl <|
                              .cons [79] [] (fun _ _ h => .skip (h _)) rfl rfl <|
                              .cons [79] [] (fun _ _ h => .skip (h _)) rfl rfl <|
                              .cons [79, 84] [] (fun _ _ h => .brT (h _)) rfl rfl <|
                              .cons [85] [] (fun _ _ h => .move (h _)) rfl rfl <|
                              .cons [86] [] (fun _ _ h => .skip (h _)) rfl rfl <|
                              .cons [86] [] (fun _ _ h => .skip (h _)) rfl rfl <|
                              .cons [86] [] (fun _ _ h => .skip (h _)) rfl rfl <|
                              .cons [86] [] (fun _ _ h => .skip (h _)) rfl rfl <|
                              .cons [86] [] (fun _ _ h => .skip (h _)) rfl rfl <|
                              .cons [86] [] (fun _ _ h => .skip (h _)) rfl rfl <|
                              .cons [86, 92] [] (fun _ _ h => .brT (h _)) rfl rfl <|
                              .cons [93] [] (fun _ _ h => .move (h _)) rfl rfl <|
                              .cons [94] [] (fun _ _ h => .skip (h _)) rfl rfl <|
                              .cons [94] [] (fun _ _ h => .skip (h _)) rfl rfl <|
                              .cons [94, 96] [] (fun _ _ h => .brT (h _)) rfl rfl <|
                              .cons [97] [] (fun _ _ h => .move (h _)) rfl rfl <|
                              .cons [98] [] (fun _ _ h => .skip (h _)) rfl rfl <|
                              .cons [98] [] (fun _ _ h => .skip (h _)) rfl rfl <|
                              .cons [98] [] (fun _ _ h => .skip (h _)) rfl rfl <|
                              .cons [98] [] (fun _ _ h => .skip (h _)) rfl rfl <|
                              .cons [98] [] (fun _ _ h => .skip (h _)) rfl rfl <|
                              .cons [98] [] (fun _ _ h => .skip (h _)) rfl rfl <|
                              .cons [98] [] (fun _ _ h => .skip (h _)) rfl rfl <|
                              .cons [98] [] (fun _ _ h => .skip (h _)) rfl rfl <|
                              .cons [98, 106] [] (fun _ _ h => .brT (h _)) rfl rfl <|
                              .nil)
                              (.nil)
                              (by kernel_rfl) rfl (.cons rfl (.cons rfl (.cons rfl (.cons rfl (.cons rfl (.cons rfl (.cons rfl (.nil)))))))) (.nil) (.cons rfl (.cons rfl (.cons rfl (.nil)))) ?_
                            exact ⟨_, (.inl ⟨rfl, h⟩), (imp_of (.cons rfl (.cons rfl (.cons rfl (.cons rfl (.cons rfl (.nil)))))) (.cons rfl (.cons rfl (.cons rfl (.nil)))))⟩
                          · replace h := (if_neg (nt hc247)).symm.trans h
                            rcases bool_em ((y232.1.Frames != y233.1.Frames)) with hc248 | hc248
                            · replace h := (if_pos hc248).symm.trans h
                              refine .draw [] [[], [], [], [], [], [], [], [], [], [], [], [], [], [], [], [], [], [], [], [], [], [], [], [], [], [], [], [], [], [], [], [], [], [], [], [], [], [], [], [], [], []] [[], [], [], [], [], [], [], [], [], [], [], [], [], [], [], [], [], [], [], [], [], [], [], [], [], [], [], [], [], [], [], [], [], [], [], [], [], [], [], [], [], []] [[]]
                                [(0, 0), (1, 0), (2, 0), (3, 0), (4, 0), (5, 0), (6, 0), (7, 0), (8, 0), (9, 0), (10, 0), (11, 0), (12, 0), (13, 0), (14, 0), (15, 0), (16, 0), (17, 0), (18, 0), (19, 0), (20, 0), (21, 0), (22, 0), (23, 0), (24, 0), (25, 0), (26, 0), (27, 0), (28, 0), (29, 0), (30, 0), (31, 0), (32, 0), (33, 0), (34, 0), (35, 0), (36, 0), (37, 0), (38, 0), (39, 0), (40, 0), (41, 0)] [] 0
                                [⟨[(66, .int .i64 y232.2), (67, .bool false), (68, .bool false), (69, .int .i64 y233.2), (70, .bool false), (71, .bool false), (72, .bool false), (73, .ptr (.loc 6 7) 2), (74, .agg [.int .i64 (y232.1.Counts 0), .int .i64 (y232.1.Counts 1), .int .i64 (y232.1.Counts 2), .int .i64 (y232.1.Counts 3), .int .i64 (y232.1.Counts 4)]), (75, .ptr (.loc 7 4) 2), (76, .agg [.int .i64 (y233.1.Counts 0), .int .i64 (y233.1.Counts 1), .int .i64 (y233.1.Counts 2), .int .i64 (y233.1.Counts 3), .int .i64 (y233.1.Counts 4)]), (77, .bool false), (78, .bool false), (79, .bool false), (80, .ptr (.loc 6 7) 7), (81, .int .i64 y232.1.Frames), (82, .ptr (.loc 7 4) 7), (83, .int .i64 y233.1.Frames), (84, .bool true), (85, .bool true), (86, .bool true), (87, .tup []), (88, .tup []), (89, .tup []), (90, .tup []), (91, .tup []), (92, .tup []), (93, .bool true), (94, .bool true), (95, .tup []), (96, .tup []), (97, .bool true), (98, .bool true), (99, .tup []), (100, .tup []), (101, .tup []), (102, .tup []), (103, .tup []), (104, .tup []), (105, .tup []), (106, .tup []), (107, .bool true), (5, .ptr (.loc 5 1) 0), (6, .ptr (.loc 6 7) 0), (7, .int .i64 y232.2), (8, .ptr (.loc 7 4) 0), (9, .int .i64 y233.2), (10, .int .i64 v157), (12, .int .i64 (w64 ((y233.1.Last.length : Int) - (y232.1.Last.length : Int))))], [], [((.loc 5 1), [.sl 3 .ro (y231.2.L.map (PV.int .i64)), .int .i64 y231.2.At]), ((.loc 6 7), [.int .i64 y232.1.Limit, .sl 97 .ro (y232.1.Last.map pv97), .int .i64 (y232.1.Counts 0), .int .i64 (y232.1.Counts 1), .int .i64 (y232.1.Counts 2), .int .i64 (y232.1.Counts 3), .int .i64 (y232.1.Counts 4), .int .i64 y232.1.Frames, .int .i64 (y232.1.Buckets 0), .int .i64 (y232.1.Buckets 1), .int .i64 (y232.1.Buckets 2), .int .i64 (y232.1.Buckets 3), .int .i64 (y232.1.Buckets 4), .int .i64 (y232.1.Buckets 5), .int .i64 (y232.1.Buckets 6), .int .i64 (y232.1.Buckets 7), .int .i64 (y232.1.Buckets 8), .int .i64 (y232.1.Buckets 9), .int .i64 (y232.1.Buckets 10), .int .i64 (y232.1.Buckets 11), .int .i64 (y232.1.Buckets 12), .int .i64 (y232.1.Buckets 13), .int .i64 (y232.1.Buckets 14), .int .i64 (y232.1.Buckets 15), .int .i64 (y232.1.Buckets 16), .int .i64 (y232.1.Buckets 17), .int .i64 (y232.1.Buckets 18), .int .i64 (y232.1.Buckets 19), .int .i64 (y232.1.Buckets 20), .int .i64 (y232.1.Buckets 21), .int .i64 (y232.1.Buckets 22), .int .i64 (y232.1.Buckets 23)]), ((.loc 7 4), [.int .i64 y233.1.Limit, .sl 97 .ro (y233.1.Last.map pv97), .int .i64 (y233.1.Counts 0), .int .i64 (y233.1.Counts 1), .int .i64 (y233.1.Counts 2), .int .i64 (y233.1.Counts 3), .int .i64 (y233.1.Counts 4), .int .i64 y233.1.Frames, .int .i64 (y233.1.Buckets 0), .int .i64 (y233.1.Buckets 1), .int .i64 (y233.1.Buckets 2), .int .i64 (y233.1.Buckets 3), .int .i64 (y233.1.Buckets 4), .int .i64 (y233.1.Buckets 5), .int .i64 (y233.1.Buckets 6), .int .i64 (y233.1.Buckets 7), .int .i64 (y233.1.Buckets 8), .int .i64 (y233.1.Buckets 9), .int .i64 (y233.1.Buckets 10), .int .i64 (y233.1.Buckets 11), .int .i64 (y233.1.Buckets 12), .int .i64 (y233.1.Buckets 13), .int .i64 (y233.1.Buckets 14), .int .i64 (y233.1.Buckets 15), .int .i64 (y233.1.Buckets 16), .int .i64 (y233.1.Buckets 17), .int .i64 (y233.1.Buckets 18), .int .i64 (y233.1.Buckets 19), .int .i64 (y233.1.Buckets 20), .int .i64 (y233.1.Buckets 21), .int .i64 (y233.1.Buckets 22), .int .i64 (y233.1.Buckets 23)])]⟩]
                                [(5, .ptr (.loc 5 1) 0), (6, .ptr (.loc 6 7) 0), (7, .int .i64 y232.2), (8, .ptr (.loc 7 4) 0), (9, .int .i64 y233.2), (10, .int .i64 v157), (12, .int .i64 (w64 ((y233.1.Last.length : Int) - (y232.1.Last.length : Int))))]
                                (.cons [7] [] (fun _ _ h => .move (h _)) rfl rfl <|
                                .cons [66] [] (fun _ _ h => .valB hc245 (h _)) rfl rfl <|
                                .cons [67] [] (fun _ _ h => .move (h _)) rfl rfl <|
                                .cons [9, 68] [] (fun _ _ h => .move (h _)) rfl rfl <|
                                .cons [69, 68] [] (fun _ _ h => .valB hc246 (h _)) rfl rfl <|
                                .cons [68, 70] [] (fun _ _ h => .brF (h _)) rfl rfl <|
                                .cons [71] [] (fun _ _ h => .move (h _)) rfl rfl <|
                                .cons [6, 72] [] (fun _ _ h => .val (h _)) rfl rfl <|
                                .cons [73, 72] [] (fun _ _ h => .val (h _)) rfl rfl <|
                                .cons [8, 72] [] (fun _ _ h => .val (h _)) rfl rfl <|
                                .cons [75, 72] [] (fun _ _ h => .val (h _)) rfl rfl <|
                                .cons [74, 76, 72] [] (fun _ _ h => .eqV (.int (.int (.int (.int (.int .nil))))) (.int (.int (.int (.int (.int .nil))))) (neqA tok57 tok3 eqg57 _ _ y232.1.Counts y233.1.Counts) (by rw [hc247]; exact h _)) rfl rfl <|
                                .cons [72, 77] [] (fun _ _ h => .brF (h _)) rfl rfl <|
                                .cons [78] [] (fun _ _ h => .move (h _)) rfl rfl <|
                                .cons [6, 79] [] (fun _ _ h => .val (h _)) rfl rfl <|
                                .cons [80, 79] [] (fun _ _ h => .val (h _)) rfl rfl <|
                                .cons [8, 79] [] (fun _ _ h => .val (h _)) rfl rfl <|
                                .cons [82, 79] [] (fun _ _ h => .val (h _)) rfl rfl <|
                                .cons [81, 83, 79] [] (fun _ _ h => .valB hc248 (h _)) rfl rfl <|
                                .cons [79, 84] [] (fun _ _ h => .brF (h _)) rfl rfl <|
                                .cons [85] [] (fun _ _ h => .move (h _)) rfl rfl <|
                                .cons [86] [] (fun _ _ h => .skip (h _)) rfl rfl <|
                                .cons [86] [] (fun _ _ h => .skip (h _)) rfl rfl <|
                                .cons [86] [] (fun _ _ h => .skip (h _)) rfl rfl <|
                                .cons [86] [] (fun _ _ h => .skip (h _)) rfl rfl <|
                                .cons [86] [] (fun _ _ h => .skip (h _)) rfl rfl <|
                                .cons [86] [] (fun _ _ h => .skip (h _)) rfl rfl <|
                                .cons [86, 92] [] (fun _ _ h => .brT (h _)) rfl rfl <|
                                .cons [93] [] (fun _ _ h => .move (h _)) rfl rfl <|
                                .cons [94] [] (fun _ _ h => .skip (h _)) rfl rfl <|
                                .cons [94] [] (fun _ _ h => .skip (h _)) rfl rfl <|
                                .cons [94, 96] [] (fun _ _ h => .brT (h _)) rfl rfl <|
                                .cons [97] [] (fun _ _ h => .move (h _)) rfl rfl <|
                                .cons [98] [] (fun _ _ h => .skip (h _)) rfl rfl <|
                                .cons [98] [] (fun _ _ h => .skip (h _)) rfl rfl <|
                                .cons [98] [] (fun _ _ h => .skip (h _)) rfl rfl <|
                                .cons [98] [] (fun _ _ h => .skip (h _)) rfl rfl <|
                                .cons [98] [] (fun _ _ h => .skip (h _)) rfl rfl <|
                                .cons [98] [] (fun _ _ h => .skip (h _)) rfl rfl <|
                                .cons [98] [] (fun _ _ h => .skip (h _)) rfl rfl <|
                                .cons [98] [] (fun _ _ h => .skip (h _)) rfl rfl <|
                                .cons [98, 106] [] (fun _ _ h => .brT (h _)) rfl rfl <|
                                .nil)
                                (.nil)
                                (by kernel_rfl) rfl (.cons rfl (.cons rfl (.cons rfl (.cons rfl (.cons rfl (.cons rfl (.cons rfl (.nil)))))))) (.nil) (.cons rfl (.cons rfl (.cons rfl (.nil)))) ?_
                              exact ⟨_, (.inl ⟨rfl, h⟩), (imp_of (.cons rfl (.cons rfl (.cons rfl (.cons rfl (.cons rfl (.nil)))))) (.cons rfl (.cons rfl (.cons rfl (.nil)))))⟩
                            · replace h := (if_neg (nt hc248)).symm.trans h
                              rcases bool_em (decide ((y232.1.Last.length : Int) > y232.1.Limit)) with hc249 | hc249
                              · replace h := (if_pos hc249).symm.trans h
                                refine .draw [] [[], [], [], [], [], [], [], [], [], [], [], [], [], [], [], [], [], [], [], [], [], [], [], [], [], [], [], [], [], [], [], [], [], [], [], [], [], [], [], [], [], []] [[], [], [], [], [], [], [], [], [], [], [], [], [], [], [], [], [], [], [], [], [], [], [], [], [], [], [], [], [], [], [], [], [], [], [], [], [], [], [], [], [], []] [[]]
                                  [(0, 0), (1, 0), (2, 0), (3, 0), (4, 0), (5, 0), (6, 0), (7, 0), (8, 0), (9, 0), (10, 0), (11, 0), (12, 0), (13, 0), (14, 0), (15, 0), (16, 0), (17, 0), (18, 0), (19, 0), (20, 0), (21, 0), (22, 0), (23, 0), (24, 0), (25, 0), (26, 0), (27, 0), (28, 0), (29, 0), (30, 0), (31, 0), (32, 0), (33, 0), (34, 0), (35, 0), (36, 0), (37, 0), (38, 0), (39, 0), (40, 0), (41, 0)] [] 0
                                  [⟨[(66, .int .i64 y232.2), (67, .bool false), (68, .bool false), (69, .int .i64 y233.2), (70, .bool false), (71, .bool false), (72, .bool false), (73, .ptr (.loc 6 7) 2), (74, .agg [.int .i64 (y232.1.Counts 0), .int .i64 (y232.1.Counts 1), .int .i64 (y232.1.Counts 2), .int .i64 (y232.1.Counts 3), .int .i64 (y232.1.Counts 4)]), (75, .ptr (.loc 7 4) 2), (76, .agg [.int .i64 (y233.1.Counts 0), .int .i64 (y233.1.Counts 1), .int .i64 (y233.1.Counts 2), .int .i64 (y233.1.Counts 3), .int .i64 (y233.1.Counts 4)]), (77, .bool false), (78, .bool false), (79, .bool false), (80, .ptr (.loc 6 7) 7), (81, .int .i64 y232.1.Frames), (82, .ptr (.loc 7 4) 7), (83, .int .i64 y233.1.Frames), (84, .bool false), (85, .bool false), (86, .bool false), (87, .ptr (.loc 6 7) 1), (88, .sl 97 .ro (y232.1.Last.map pv97)), (89, .int .i64 (y232.1.Last.length : Int)), (90, .ptr (.loc 6 7) 0), (91, .int .i64 y232.1.Limit), (92, .bool true), (93, .bool true), (94, .bool true), (95, .tup []), (96, .tup []), (97, .bool true), (98, .bool true), (99, .tup []), (100, .tup []), (101, .tup []), (102, .tup []), (103, .tup []), (104, .tup []), (105, .tup []), (106, .tup []), (107, .bool true), (5, .ptr (.loc 5 1) 0), (6, .ptr (.loc 6 7) 0), (7, .int .i64 y232.2), (8, .ptr (.loc 7 4) 0), (9, .int .i64 y233.2), (10, .int .i64 v157), (12, .int .i64 (w64 ((y233.1.Last.length : Int) - (y232.1.Last.length : Int))))], [], [((.loc 5 1), [.sl 3 .ro (y231.2.L.map (PV.int .i64)), .int .i64 y231.2.At]), ((.loc 6 7), [.int .i64 y232.1.Limit, .sl 97 .ro (y232.1.Last.map pv97), .int .i64 (y232.1.Counts 0), .int .i64 (y232.1.Counts 1), .int .i64 (y232.1.Counts 2), .int .i64 (y232.1.Counts 3), .int .i64 (y232.1.Counts 4), .int .i64 y232.1.Frames, .int .i64 (y232.1.Buckets 0), .int .i64 (y232.1.Buckets 1), .int .i64 (y232.1.Buckets 2), .int .i64 (y232.1.Buckets 3), .int .i64 (y232.1.Buckets 4), .int .i64 (y232.1.Buckets 5), .int .i64 (y232.1.Buckets 6), .int .i64 (y232.1.Buckets 7), .int .i64 (y232.1.Buckets 8), .int .i64 (y232.1.Buckets 9), .int .i64 (y232.1.Buckets 10), .int .i64 (y232.1.Buckets 11), .int .i64 (y232.1.Buckets 12), .int .i64 (y232.1.Buckets 13), .int .i64 (y232.1.Buckets 14), .int .i64 (y232.1.Buckets 15), .int .i64 (y232.1.Buckets 16), .int .i64 (y232.1.Buckets 17), .int .i64 (y232.1.Buckets 18), .int .i64 (y232.1.Buckets 19), .int .i64 (y232.1.Buckets 20), .int .i64 (y232.1.Buckets 21), .int .i64 (y232.1.Buckets 22), .int .i64 (y232.1.Buckets 23)]), ((.loc 7 4), [.int .i64 y233.1.Limit, .sl 97 .ro (y233.1.Last.map pv97), .int .i64 (y233.1.Counts 0), .int .i64 (y233.1.Counts 1), .int .i64 (y233.1.Counts 2), .int .i64 (y233.1.Counts 3), .int .i64 (y233.1.Counts 4), .int .i64 y233.1.Frames, .int .i64 (y233.1.Buckets 0), .int .i64 (y233.1.Buckets 1), .int .i64 (y233.1.Buckets 2), .int .i64 (y233.1.Buckets 3), .int .i64 (y233.1.Buckets 4), .int .i64 (y233.1.Buckets 5), .int .i64 (y233.1.Buckets 6), .int .i64 (y233.1.Buckets 7), .int .i64 (y233.1.Buckets 8), .int .i64 (y233.1.Buckets 9), .int .i64 (y233.1.Buckets 10), .int .i64 (y233.1.Buckets 11), .int .i64 (y233.1.Buckets 12), .int .i64 (y233.1.Buckets 13), .int .i64 (y233.1.Buckets 14), .int .i64 (y233.1.Buckets 15), .int .i64 (y233.1.Buckets 16), .int .i64 (y233.1.Buckets 17), .int .i64 (y233.1.Buckets 18), .int .i64 (y233.1.Buckets 19), .int .i64 (y233.1.Buckets 20), .int .i64 (y233.1.Buckets 21), .int .i64 (y233.1.Buckets 22), .int .i64 (y233.1.Buckets 23)])]⟩]
                                  [(5, .ptr (.loc 5 1) 0), (6, .ptr (.loc 6 7) 0), (7, .int .i64 y232.2), (8, .ptr (.loc 7 4) 0), (9, .int .i64 y233.2), (10, .int .i64 v157), (12, .int .i64 (w64 ((y233.1.Last.length : Int) - (y232.1.Last.length : Int))))]
                                  (.cons [7] [] (fun _ _ h => .move (h _)) rfl rfl <|
                                  .cons [66] [] (fun _ _ h => .valB hc245 (h _)) rfl rfl <|
                                  .cons [67] [] (fun _ _ h => .move (h _)) rfl rfl <|
                                  .cons [9, 68] [] (fun _ _ h => .move (h _)) rfl rfl <|
                                  .cons [69, 68] [] (fun _ _ h => .valB hc246 (h _)) rfl rfl <|
                                  .cons [68, 70] [] (fun _ _ h => .brF (h _)) rfl rfl <|
                                  .cons [71] [] (fun _ _ h => .move (h _)) rfl rfl <|
                                  .cons [6, 72] [] (fun _ _ h => .val (h _)) rfl rfl <|
                                  .cons [73, 72] [] (fun _ _ h => .val (h _)) rfl rfl <|
                                  .cons [8, 72] [] (fun _ _ h => .val (h _)) rfl rfl <|
                                  .cons [75, 72] [] (fun _ _ h => .val (h _)) rfl rfl <|
                                  .cons [74, 76, 72] [] (fun _ _ h => .eqV (.int (.int (.int (.int (.int .nil))))) (.int (.int (.int (.int (.int .nil))))) (neqA tok57 tok3 eqg57 _ _ y232.1.Counts y233.1.Counts) (by rw [hc247]; exact h _)) rfl rfl <|
                                  .cons [72, 77] [] (fun _ _ h => .brF (h _)) rfl rfl <|
                                  .cons [78] [] (fun _ _ h => .move (h _)) rfl rfl <|
                                  .cons [6, 79] [] (fun _ _ h => .val (h _)) rfl rfl <|
                                  .cons [80, 79] [] (fun _ _ h => .val (h _)) rfl rfl <|
                                  .cons [8, 79] [] (fun _ _ h => .val (h _)) rfl rfl <|
                                  .cons [82, 79] [] (fun _ _ h => .val (h _)) rfl rfl <|
                                  .cons [81, 83, 79] [] (fun _ _ h => .valB hc248 (h _)) rfl rfl <|
                                  .cons [79, 84] [] (fun _ _ h => .brF (h _)) rfl rfl <|
                                  .cons [85] [] (fun _ _ h => .move (h _)) rfl rfl <|
                                  .cons [6, 86] [] (fun _ _ h => .val (h _)) rfl rfl <|
                                  .cons [87, 86] [] (fun _ _ h => .val (h _)) rfl rfl <|
                                  .cons [88, 86] [] (fun _ _ h => .lenL (f := pv97) (h _)) rfl rfl <|
                                  .cons [6, 86] [] (fun _ _ h => .val (h _)) rfl rfl <|
                                  .cons [90, 86] [] (fun _ _ h => .val (h _)) rfl rfl <|
                                  .cons [89, 91, 86] [] (fun _ _ h => .valB hc249 (h _)) rfl rfl <|
                                  .cons [86, 92] [] (fun _ _ h => .brF (h _)) rfl rfl <|
                                  .cons [93] [] (fun _ _ h => .move (h _)) rfl rfl <|
                                  .cons [94] [] (fun _ _ h => .skip (h _)) rfl rfl <|
                                  .cons [94] [] (fun _ _ h => .skip (h _)) rfl rfl <|
                                  .cons [94, 96] [] (fun _ _ h => .brT (h _)) rfl rfl <|
                                  .cons [97] [] (fun _ _ h => .move (h _)) rfl rfl <|
                                  .cons [98] [] (fun _ _ h => .skip (h _)) rfl rfl <|
                                  .cons [98] [] (fun _ _ h => .skip (h _)) rfl rfl <|
                                  .cons [98] [] (fun _ _ h => .skip (h _)) rfl rfl <|
                                  .cons [98] [] (fun _ _ h => .skip (h _)) rfl rfl <|
                                  .cons [98] [] (fun _ _ h => .skip (h _)) rfl rfl <|
                                  .cons [98] [] (fun _ _ h => .skip (h _)) rfl rfl <|
                                  .cons [98] [] (fun _ _ h => .skip (h _)) rfl rfl <|
                                  .cons [98] [] (fun _ _ h => .skip (h _)) rfl rfl <|
                                  .cons [98, 106] [] (fun _ _ h => .brT (h _)) rfl rfl <|
                                  .nil)
                                  (.nil)
                                  (by kernel_rfl) rfl (.cons rfl (.cons rfl (.cons rfl (.cons rfl (.cons rfl (.cons rfl (.cons rfl (.nil)))))))) (.nil) (.cons rfl (.cons rfl (.cons rfl (.nil)))) ?_
                                exact ⟨_, (.inl ⟨rfl, h⟩), (imp_of (.cons rfl (.cons rfl (.cons rfl (.cons rfl (.cons rfl (.nil)))))) (.cons rfl (.cons rfl (.cons rfl (.nil)))))⟩
                              · replace h := (if_neg (nt hc249)).symm.trans h
                                rcases bool_em (decide ((w64 ((y233.1.Last.length : Int) - (y232.1.Last.length : Int))) < (0 : Int))) with hc250 | hc250
                                · replace h := (if_pos hc250).symm.trans h
                                  refine .draw [] [[], [], [], [], [], [], [], [], [], [], [], [], [], [], [], [], [], [], [], [], [], [], [], [], [], [], [], [], [], [], [], [], [], [], [], [], [], [], [], [], [], []] [[], [], [], [], [], [], [], [], [], [], [], [], [], [], [], [], [], [], [], [], [], [], [], [], [], [], [], [], [], [], [], [], [], [], [], [], [], [], [], [], [], []] [[]]
                                    [(0, 0), (1, 0), (2, 0), (3, 0), (4, 0), (5, 0), (6, 0), (7, 0), (8, 0), (9, 0), (10, 0), (11, 0), (12, 0), (13, 0), (14, 0), (15, 0), (16, 0), (17, 0), (18, 0), (19, 0), (20, 0), (21, 0), (22, 0), (23, 0), (24, 0), (25, 0), (26, 0), (27, 0), (28, 0), (29, 0), (30, 0), (31, 0), (32, 0), (33, 0), (34, 0), (35, 0), (36, 0), (37, 0), (38, 0), (39, 0), (40, 0), (41, 0)] [] 0
                                    [⟨[(66, .int .i64 y232.2), (67, .bool false), (68, .bool false), (69, .int .i64 y233.2), (70, .bool false), (71, .bool false), (72, .bool false), (73, .ptr (.loc 6 7) 2), (74, .agg [.int .i64 (y232.1.Counts 0), .int .i64 (y232.1.Counts 1), .int .i64 (y232.1.Counts 2), .int .i64 (y232.1.Counts 3), .int .i64 (y232.1.Counts 4)]), (75, .ptr (.loc 7 4) 2), (76, .agg [.int .i64 (y233.1.Counts 0), .int .i64 (y233.1.Counts 1), .int .i64 (y233.1.Counts 2), .int .i64 (y233.1.Counts 3), .int .i64 (y233.1.Counts 4)]), (77, .bool false), (78, .bool false), (79, .bool false), (80, .ptr (.loc 6 7) 7), (81, .int .i64 y232.1.Frames), (82, .ptr (.loc 7 4) 7), (83, .int .i64 y233.1.Frames), (84, .bool false), (85, .bool false), (86, .bool false), (87, .ptr (.loc 6 7) 1), (88, .sl 97 .ro (y232.1.Last.map pv97)), (89, .int .i64 (y232.1.Last.length : Int)), (90, .ptr (.loc 6 7) 0), (91, .int .i64 y232.1.Limit), (92, .bool false), (93, .bool false), (94, .bool false), (95, .int .i64 (w64 ((y233.1.Last.length : Int) - (y232.1.Last.length : Int)))), (96, .bool true), (97, .bool true), (98, .bool true), (99, .tup []), (100, .tup []), (101, .tup []), (102, .tup []), (103, .tup []), (104, .tup []), (105, .tup []), (106, .tup []), (107, .bool true), (5, .ptr (.loc 5 1) 0), (6, .ptr (.loc 6 7) 0), (7, .int .i64 y232.2), (8, .ptr (.loc 7 4) 0), (9, .int .i64 y233.2), (10, .int .i64 v157), (12, .int .i64 (w64 ((y233.1.Last.length : Int) - (y232.1.Last.length : Int))))], [], [((.loc 5 1), [.sl 3 .ro (y231.2.L.map (PV.int .i64)), .int .i64 y231.2.At]), ((.loc 6 7), [.int .i64 y232.1.Limit, .sl 97 .ro (y232.1.Last.map pv97), .int .i64 (y232.1.Counts 0), .int .i64 (y232.1.Counts 1), .int .i64 (y232.1.Counts 2), .int .i64 (y232.1.Counts 3), .int .i64 (y232.1.Counts 4), .int .i64 y232.1.Frames, .int .i64 (y232.1.Buckets 0), .int .i64 (y232.1.Buckets 1), .int .i64 (y232.1.Buckets 2), .int .i64 (y232.1.Buckets 3), .int .i64 (y232.1.Buckets 4), .int .i64 (y232.1.Buckets 5), .int .i64 (y232.1.Buckets 6), .int .i64 (y232.1.Buckets 7), .int .i64 (y232.1.Buckets 8), .int .i64 (y232.1.Buckets 9), .int .i64 (y232.1.Buckets 10), .int .i64 (y232.1.Buckets 11), .int .i64 (y232.1.Buckets 12), .int .i64 (y232.1.Buckets 13), .int .i64 (y232.1.Buckets 14), .int .i64 (y232.1.Buckets 15), .int .i64 (y232.1.Buckets 16), .int .i64 (y232.1.Buckets 17), .int .i64 (y232.1.Buckets 18), .int .i64 (y232.1.Buckets 19), .int .i64 (y232.1.Buckets 20), .int .i64 (y232.1.Buckets 21), .int .i64 (y232.1.Buckets 22), .int .i64 (y232.1.Buckets 23)]), ((.loc 7 4), [.int .i64 y233.1.Limit, .sl 97 .ro (y233.1.Last.map pv97), .int .i64 (y233.1.Counts 0), .int .i64 (y233.1.Counts 1), .int .i64 (y233.1.Counts 2), .int .i64 (y233.1.Counts 3), .int .i64 (y233.1.Counts 4), .int .i64 y233.1.Frames, .int .i64 (y233.1.Buckets 0), .int .i64 (y233.1.Buckets 1), .int .i64 (y233.1.Buckets 2), .int .i64 (y233.1.Buckets 3), .int .i64 (y233.1.Buckets 4), .int .i64 (y233.1.Buckets 5), .int .i64 (y233.1.Buckets 6), .int .i64 (y233.1.Buckets 7), .int .i64 (y233.1.Buckets 8), .int .i64 (y233.1.Buckets 9), .int .i64 (y233.1.Buckets 10), .int .i64 (y233.1.Buckets 11), .int .i64 (y233.1.Buckets 12), .int .i64 (y233.1.Buckets 13), .int .i64 (y233.1.Buckets 14), .int .i64 (y233.1.Buckets 15), .int .i64 (y233.1.Buckets 16), .int .i64 (y233.1.Buckets 17), .int .i64 (y233.1.Buckets 18), .int .i64 (y233.1.Buckets 19), .int .i64 (y233.1.Buckets 20), .int .i64 (y233.1.Buckets 21), .int .i64 (y233.1.Buckets 22), .int .i64 (y233.1.Buckets 23)])]⟩]
                                    [(5, .ptr (.loc 5 1) 0), (6, .ptr (.loc 6 7) 0), (7, .int .i64 y232.2), (8, .ptr (.loc 7 4) 0), (9, .int .i64 y233.2), (10, .int .i64 v157), (12, .int .i64 (w64 ((y233.1.Last.length : Int) - (y232.1.Last.length : Int))))]
                                    (.cons [7] [] (fun _ _ h => .move (h _)) rfl rfl <|
                                    .cons [66] [] (fun _ _ h => .valB hc245 (h _)) rfl rfl <|
                                    .cons [67] [] (fun _ _ h => .move (h _)) rfl rfl <|
                                    .cons [9, 68] [] (fun _ _ h => .move (h _)) rfl rfl <|
                                    .cons [69, 68] [] (fun _ _ h => .valB hc246 (h _)) rfl rfl <|
                                    .cons [68, 70] [] (fun _ _ h => .brF (h _)) rfl rfl <|
                                    .cons [71] [] (fun _ _ h => .move (h _)) rfl rfl <|
                                    .cons [6, 72] [] (fun _ _ h => .val (h _)) rfl rfl <|
                                    .cons [73, 72] [] (fun _ _ h => .val (h _)) rfl rfl <|
                                    .cons [8, 72] [] (fun _ _ h => .val (h _)) rfl rfl <|
                                    .cons [75, 72] [] (fun _ _ h => .val (h _)) rfl rfl <|
                                    .cons [74, 76, 72] [] (fun _ _ h => .eqV (.int (.int (.int (.int (.int .nil))))) (.int (.int (.int (.int (.int .nil))))) (neqA tok57 tok3 eqg57 _ _ y232.1.Counts y233.1.Counts) (by rw [hc247]; exact h _)) rfl rfl <|
                                    .cons [72, 77] [] (fun _ _ h => .brF (h _)) rfl rfl <|
                                    .cons [78] [] (fun _ _ h => .move (h _)) rfl rfl <|
                                    .cons [6, 79] [] (fun _ _ h => .val (h _)) rfl rfl <|
                                    .cons [80, 79] [] (fun _ _ h => .val (h _)) rfl rfl <|
                                    .cons [8, 79] [] (fun _ _ h => .val (h _)) rfl rfl <|
                                    .cons [82, 79] [] (fun _ _ h => .val (h _)) rfl rfl <|
                                    .cons [81, 83, 79] [] (fun _ _ h => .valB hc248 (h _)) rfl rfl <|
                                    .cons [79, 84] [] (fun _ _ h => .brF (h _)) rfl rfl <|
                                    .cons [85] [] (fun _ _ h => .move (h _)) rfl rfl <|
                                    .cons [6, 86] [] (fun _ _ h => .val (h _)) rfl rfl <|
                                    .cons [87, 86] [] (fun _ _ h => .val (h _)) rfl rfl <|
                                    .cons [88, 86] [] (fun _ _ h => .lenL (f := pv97) (h _)) rfl rfl <|
                                    .cons [6, 86] [] (fun _ _ h => .val (h _)) rfl rfl <|
                                    .cons [90, 86] [] (fun _ _ h => .val (h _)) rfl rfl <|
                                    .cons [89, 91, 86] [] (fun _ _ h => .valB hc249 (h _)) rfl rfl <|
                                    .cons [86, 92] [] (fun _ _ h => .brF (h _)) rfl rfl <|
                                    .cons [93] [] (fun _ _ h => .move (h _)) rfl rfl <|
                                    .cons [12, 94] [] (fun _ _ h => .move (h _)) rfl rfl <|
                                    .cons [95, 94] [] (fun _ _ h => .valB hc250 (h _)) rfl rfl <|
                                    .cons [94, 96] [] (fun _ _ h => .brF (h _)) rfl rfl <|
                                    .cons [97] [] (fun _ _ h => .move (h _)) rfl rfl <|
                                    .cons [98] [] (fun _ _ h => .skip (h _)) rfl rfl <|
                                    .cons [98] [] (fun _ _ h => .skip (h _)) rfl rfl <|
                                    .cons [98] [] (fun _ _ h => .skip (h _)) rfl rfl <|
                                    .cons [98] [] (fun _ _ h => .skip (h _)) rfl rfl <|
                                    .cons [98] [] (fun _ _ h => .skip (h _)) rfl rfl <|
                                    .cons [98] [] (fun _ _ h => .skip (h _)) rfl rfl <|
                                    .cons [98] [] (fun _ _ h => .skip (h _)) rfl rfl <|
                                    .cons [98] [] (fun _ _ h => .skip (h _)) rfl rfl <|
                                    .cons [98, 106] [] (fun _ _ h => .brT (h _)) rfl rfl <|
                                    .nil)
                                    (.nil)
                                    (by kernel_rfl) rfl (.cons rfl (.cons rfl (.cons rfl (.cons rfl (.cons rfl (.cons rfl (.cons rfl (.nil)))))))) (.nil) (.cons rfl (.cons rfl (.cons rfl (.nil)))) ?_
                                  exact ⟨_, (.inl ⟨rfl, h⟩), (imp_of (.cons rfl (.cons rfl (.cons rfl (.cons rfl (.cons rfl (.nil)))))) (.cons rfl (.cons rfl (.cons rfl (.nil)))))⟩
                                · replace h := (if_neg (nt hc250)).symm.trans h
                                  obtain ⟨x251, hx251, h⟩ := bindE h
                                  obtain ⟨y252, hy252, h⟩ := bindE h
                                  refine .draw [] [[], [], [], [], [], [], [], [], [], [], [], [], [], [], [], [], [], [], [], [], [], [], [], [], [], [], [], [], [], [], [], [], [], [], [], [], [], [], [], [], [], []] [[], [], [], [], [], [], [], [], [], [], [], [], [], [], [], [], [], [], [], [], [], [], [], [], [], [], [], [], [], [], [], [], [], [], [], [], [], [], [], [], [], []] [[]]
                                    [(0, 0), (1, 0), (2, 0), (3, 0), (4, 0), (5, 0), (6, 0), (7, 0), (8, 0), (9, 0), (10, 0), (11, 0), (12, 0), (13, 0), (14, 0), (15, 0), (16, 0), (17, 0), (18, 0), (19, 0), (20, 0), (21, 0), (22, 0), (23, 0), (24, 0), (25, 0), (26, 0), (27, 0), (28, 0), (29, 0), (30, 0), (31, 0), (32, 0), (33, 0), (34, 0), (35, 0), (36, 0), (37, 0), (38, 0), (39, 0), (40, 0), (41, 0)] [] 0
                                    [⟨[(66, .int .i64 y232.2), (67, .bool false), (68, .bool false), (69, .int .i64 y233.2), (70, .bool false), (71, .bool false), (72, .bool false), (73, .ptr (.loc 6 7) 2), (74, .agg [.int .i64 (y232.1.Counts 0), .int .i64 (y232.1.Counts 1), .int .i64 (y232.1.Counts 2), .int .i64 (y232.1.Counts 3), .int .i64 (y232.1.Counts 4)]), (75, .ptr (.loc 7 4) 2), (76, .agg [.int .i64 (y233.1.Counts 0), .int .i64 (y233.1.Counts 1), .int .i64 (y233.1.Counts 2), .int .i64 (y233.1.Counts 3), .int .i64 (y233.1.Counts 4)]), (77, .bool false), (78, .bool false), (79, .bool false), (80, .ptr (.loc 6 7) 7), (81, .int .i64 y232.1.Frames), (82, .ptr (.loc 7 4) 7), (83, .int .i64 y233.1.Frames), (84, .bool false), (85, .bool false), (86, .bool false), (87, .ptr (.loc 6 7) 1), (88, .sl 97 .ro (y232.1.Last.map pv97)), (89, .int .i64 (y232.1.Last.length : Int)), (90, .ptr (.loc 6 7) 0), (91, .int .i64 y232.1.Limit), (92, .bool false), (93, .bool false), (94, .bool false), (95, .int .i64 (w64 ((y233.1.Last.length : Int) - (y232.1.Last.length : Int)))), (96, .bool false), (97, .bool false), (98, .bool false), (99, .ptr (.loc 6 7) 1), (100, .sl 97 .ro (y232.1.Last.map pv97)), (101, .ptr (.loc 7 4) 1), (102, .sl 97 .ro (y233.1.Last.map pv97)), (103, .int .i64 (w64 ((y233.1.Last.length : Int) - (y232.1.Last.length : Int)))), (104, .sl 97 .ro (x251.map pv97)), (105, .bool y252), (106, .bool (!y252)), (107, .bool (!y252)), (5, .ptr (.loc 5 1) 0), (6, .ptr (.loc 6 7) 0), (7, .int .i64 y232.2), (8, .ptr (.loc 7 4) 0), (9, .int .i64 y233.2), (10, .int .i64 v157), (12, .int .i64 (w64 ((y233.1.Last.length : Int) - (y232.1.Last.length : Int))))], [], [((.loc 5 1), [.sl 3 .ro (y231.2.L.map (PV.int .i64)), .int .i64 y231.2.At]), ((.loc 6 7), [.int .i64 y232.1.Limit, .sl 97 .ro (y232.1.Last.map pv97), .int .i64 (y232.1.Counts 0), .int .i64 (y232.1.Counts 1), .int .i64 (y232.1.Counts 2), .int .i64 (y232.1.Counts 3), .int .i64 (y232.1.Counts 4), .int .i64 y232.1.Frames, .int .i64 (y232.1.Buckets 0), .int .i64 (y232.1.Buckets 1), .int .i64 (y232.1.Buckets 2), .int .i64 (y232.1.Buckets 3), .int .i64 (y232.1.Buckets 4), .int .i64 (y232.1.Buckets 5), .int .i64 (y232.1.Buckets 6), .int .i64 (y232.1.Buckets 7), .int .i64 (y232.1.Buckets 8), .int .i64 (y232.1.Buckets 9), .int .i64 (y232.1.Buckets 10), .int .i64 (y232.1.Buckets 11), .int .i64 (y232.1.Buckets 12), .int .i64 (y232.1.Buckets 13), .int .i64 (y232.1.Buckets 14), .int .i64 (y232.1.Buckets 15), .int .i64 (y232.1.Buckets 16), .int .i64 (y232.1.Buckets 17), .int .i64 (y232.1.Buckets 18), .int .i64 (y232.1.Buckets 19), .int .i64 (y232.1.Buckets 20), .int .i64 (y232.1.Buckets 21), .int .i64 (y232.1.Buckets 22), .int .i64 (y232.1.Buckets 23)]), ((.loc 7 4), [.int .i64 y233.1.Limit, .sl 97 .ro (y233.1.Last.map pv97), .int .i64 (y233.1.Counts 0), .int .i64 (y233.1.Counts 1), .int .i64 (y233.1.Counts 2), .int .i64 (y233.1.Counts 3), .int .i64 (y233.1.Counts 4), .int .i64 y233.1.Frames, .int .i64 (y233.1.Buckets 0), .int .i64 (y233.1.Buckets 1), .int .i64 (y233.1.Buckets 2), .int .i64 (y233.1.Buckets 3), .int .i64 (y233.1.Buckets 4), .int .i64 (y233.1.Buckets 5), .int .i64 (y233.1.Buckets 6), .int .i64 (y233.1.Buckets 7), .int .i64 (y233.1.Buckets 8), .int .i64 (y233.1.Buckets 9), .int .i64 (y233.1.Buckets 10), .int .i64 (y233.1.Buckets 11), .int .i64 (y233.1.Buckets 12), .int .i64 (y233.1.Buckets 13), .int .i64 (y233.1.Buckets 14), .int .i64 (y233.1.Buckets 15), .int .i64 (y233.1.Buckets 16), .int .i64 (y233.1.Buckets 17), .int .i64 (y233.1.Buckets 18), .int .i64 (y233.1.Buckets 19), .int .i64 (y233.1.Buckets 20), .int .i64 (y233.1.Buckets 21), .int .i64 (y233.1.Buckets 22), .int .i64 (y233.1.Buckets 23)])]⟩]
                                    [(5, .ptr (.loc 5 1) 0), (6, .ptr (.loc 6 7) 0), (7, .int .i64 y232.2), (8, .ptr (.loc 7 4) 0), (9, .int .i64 y233.2), (10, .int .i64 v157), (12, .int .i64 (w64 ((y233.1.Last.length : Int) - (y232.1.Last.length : Int))))]
                                    (.cons [7] [] (fun _ _ h => .move (h _)) rfl rfl <|
                                    .cons [66] [] (fun _ _ h => .valB hc245 (h _)) rfl rfl <|
                                    .cons [67] [] (fun _ _ h => .move (h _)) rfl rfl <|
                                    .cons [9, 68] [] (fun _ _ h => .move (h _)) rfl rfl <|
                                    .cons [69, 68] [] (fun _ _ h => .valB hc246 (h _)) rfl rfl <|
                                    .cons [68, 70] [] (fun _ _ h => .brF (h _)) rfl rfl <|
                                    .cons [71] [] (fun _ _ h => .move (h _)) rfl rfl <|
                                    .cons [6, 72] [] (fun _ _ h => .val (h _)) rfl rfl <|
                                    .cons [73, 72] [] (fun _ _ h => .val (h _)) rfl rfl <|
                                    .cons [8, 72] [] (fun _ _ h => .val (h _)) rfl rfl <|
                                    .cons [75, 72] [] (fun _ _ h => .val (h _)) rfl rfl <|
                                    .cons [74, 76, 72] [] (fun _ _ h => .eqV (.int (.int (.int (.int (.int .nil))))) (.int (.int (.int (.int (.int .nil))))) (neqA tok57 tok3 eqg57 _ _ y232.1.Counts y233.1.Counts) (by rw [hc247]; exact h _)) rfl rfl <|
                                    .cons [72, 77] [] (fun _ _ h => .brF (h _)) rfl rfl <|
                                    .cons [78] [] (fun _ _ h => .move (h _)) rfl rfl <|
                                    .cons [6, 79] [] (fun _ _ h => .val (h _)) rfl rfl <|
                                    .cons [80, 79] [] (fun _ _ h => .val (h _)) rfl rfl <|
                                    .cons [8, 79] [] (fun _ _ h => .val (h _)) rfl rfl <|
                                    .cons [82, 79] [] (fun _ _ h => .val (h _)) rfl rfl <|
                                    .cons [81, 83, 79] [] (fun _ _ h => .valB hc248 (h _)) rfl rfl <|
                                    .cons [79, 84] [] (fun _ _ h => .brF (h _)) rfl rfl <|
                                    .cons [85] [] (fun _ _ h => .move (h _)) rfl rfl <|
                                    .cons [6, 86] [] (fun _ _ h => .val (h _)) rfl rfl <|
                                    .cons [87, 86] [] (fun _ _ h => .val (h _)) rfl rfl <|
                                    .cons [88, 86] [] (fun _ _ h => .lenL (f := pv97) (h _)) rfl rfl <|
                                    .cons [6, 86] [] (fun _ _ h => .val (h _)) rfl rfl <|
                                    .cons [90, 86] [] (fun _ _ h => .val (h _)) rfl rfl <|
                                    .cons [89, 91, 86] [] (fun _ _ h => .valB hc249 (h _)) rfl rfl <|
                                    .cons [86, 92] [] (fun _ _ h => .brF (h _)) rfl rfl <|
                                    .cons [93] [] (fun _ _ h => .move (h _)) rfl rfl <|
                                    .cons [12, 94] [] (fun _ _ h => .move (h _)) rfl rfl <|
                                    .cons [95, 94] [] (fun _ _ h => .valB hc250 (h _)) rfl rfl <|
                                    .cons [94, 96] [] (fun _ _ h => .brF (h _)) rfl rfl <|
                                    .cons [97] [] (fun _ _ h => .move (h _)) rfl rfl <|
                                    .cons [6, 98] [] (fun _ _ h => .val (h _)) rfl rfl <|
                                    .cons [99, 98] [] (fun _ _ h => .val (h _)) rfl rfl <|
                                    .cons [8, 98] [] (fun _ _ h => .val (h _)) rfl rfl <|
                                    .cons [101, 98] [] (fun _ _ h => .val (h _)) rfl rfl <|
                                    .cons [12, 98] [] (fun _ _ h => .move (h _)) rfl rfl <|
                                    .cons [102, 103, 98] [] (fun _ _ h => .partE (f := pv97) hx251 (h _)) rfl rfl <|
                                    .cons [100, 104, 98] [] (fun _ _ h => .cP (g52 hy252) (h _)) rfl rfl <|
                                    .cons [105, 98] [] (fun _ _ h => .val (h _)) rfl rfl <|
                                    .cons [98, 106] [] (fun _ _ h => .brF (h _)) rfl rfl <|
                                    .nil)
                                    (.nil)
                                    (by kernel_rfl) rfl (.cons rfl (.cons rfl (.cons rfl (.cons rfl (.cons rfl (.cons rfl (.cons rfl (.nil)))))))) (.nil) (.cons rfl (.cons rfl (.cons rfl (.nil)))) ?_
                                  exact ⟨_, (.inr (⟨_, rfl, h⟩)), (imp_of (.cons rfl (.cons rfl (.cons rfl (.cons rfl (.cons rfl (.nil)))))) (.cons rfl (.cons rfl (.cons rfl (.nil)))))⟩
                    · rintro T (⟨rfl, h⟩ | ⟨v243, rfl, h⟩)
                      · subst hj242
                        refine .condT ?_
                        refine .seq ?_
                        refine .region ?_
                        refine .assign ?_
                        refine .nil ?_
                        cases h
                        exact .ret (fin_gen0 none)
                      · subst hj244
                        refine .cond (fun hc253 => ?_) (fun hc253 => ?_)
                        · replace h := (if_pos hc253).symm.trans h
                          refine .seq ?_
                          refine .region ?_
                          refine .assign ?_
                          refine .nil ?_
                          cases h
                          exact .ret (fin_gen0 none)
                        · replace h := (if_neg (nt hc253)).symm.trans h
                          refine .skip ?_
                          refine .region ?_
                          refine .move ?_
                          refine .val ?_
                          refine .assign ?_
                          refine .nil ?_
                          exact ⟨m195, _, Nat.lt_succ_self m195, ⟨_, _, _, _, _, _, _, _, _, _, _, _, _, rfl, h⟩, (imp_of (.cons rfl (.cons rfl (.cons rfl (.cons rfl (.nil))))) (.cons rfl (.cons rfl (.cons rfl (.nil)))))⟩
                  · replace h := (if_neg (nt hc215)).symm.trans h
                    refine .exit (.hit ?_)
                    exact ⟨_, ⟨rfl, h⟩, (imp_of (.nil) (.nil))⟩
                · subst hj212
                  refine .condF ?_
                  refine .exit (.hit ?_)
                  exact ⟨_, ⟨rfl, h⟩, (imp_of (.nil) (.nil))⟩
            · rintro T ⟨rfl, h⟩
              subst hj120
              refine .seq ?_
              refine .region ?_
              refine .assign ?_
              refine .nil ?_
              cases h
              exact .ret (fin_gen0 none)
end Go.Proofs.Ytacdknbakjbpiaa
