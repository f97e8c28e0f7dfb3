/-
  Plain functions of soundservicelaw17, and that the code does what they say.
-/
import Derived.Test.YtacdknbakjbpiaaGb
namespace Go.Proofs.Ytacdknbakjbpiaa
open Go Ab
/- soundservice/soundservicelaw17.RingOrder -/
def f3_l2 (n : Nat) (v295 : Int) (x436 : Int) (j479 : (List Int) → Option Bool) : Nat → (List Int) → Int → Option Bool
  | 0, _, _ => none
  | m492 + 1, v484, v486 =>
    if decide (v486 < (Int.tmod (w64 (iShrT .u8 x436 (1 : Int))) (16 : Int))) then (
    (lApp v484 ([IntKind.wrap .i32 (w64 ((w64 (v295 + v486)) + (1 : Int)))] : List Int)).bind fun x496 =>
    f3_l2 n v295 x436 j479 m492 x496 (w64 (v486 + (1 : Int))))
    else (
    j479 v484)
def f3_l3 (n : Nat) (v296 : Int) (x436 : Int) (y510 : (Block × Int × Ring × Int)) (j549 : Unit → Option Bool) : Nat → Int → Option Bool
  | 0, _ => none
  | m564 + 1, v556 =>
    if decide (v556 < (y510.1.Data.length : Int)) then (
    (lAt y510.1.Data v556).bind fun x572 =>
    joinK (fun (v574 : Int) =>
    if (x572 != v574) then (
    some false)
    else (
    f3_l3 n v296 x436 y510 j549 m564 (w64 (v556 + (1 : Int))))) fun j575 =>
    if decide (v556 ≥ (w64 ((Int.tmod (w64 (iShrT .u8 x436 (1 : Int))) (16 : Int)) - y510.2.1))) then (
    j575 0)
    else (
    j575 (IntKind.wrap .i32 (w64 ((w64 (v296 + v556)) + (1 : Int))))))
    else (
    j549 ())
def f3_l1 (n : Nat) (a0 : (List Int)) (j225 : Int → Int → Int → Int → (List Int) → Int → Int → Option Bool) : Nat → Int → Int → Int → Int → (List Int) → Int → Int → Int → Option Bool
  | 0, _, _, _, _, _, _, _, _ => none
  | m370 + 1, v290, v291, v292, v293, v294, v295, v296, v297 =>
    if decide (v297 < (a0.length : Int)) then (
    joinK (fun (v428 : Int) (v429 : Int) (v430 : Int) (v431 : Int) (v432 : (List Int)) (v433 : Int) (v434 : Int) =>
    f3_l1 n a0 j225 m370 v428 v429 v430 v431 v432 v433 v434 (w64 (v297 + (1 : Int)))) fun j435 =>
    (lAt a0 v297).bind fun x436 =>
    joinK (fun (_ : Unit) =>
    (f17 n (⟨v290, v291, v292, v293, v294⟩ : Ring) (Int.tmod (w64 (iShrT .u8 x436 (1 : Int))) (16 : Int))).bind fun y510 =>
    joinK (fun (_ : Unit) =>
    some false) fun j522 =>
    joinK (fun (_ : Unit) =>
    if (y510.2.1 != (iMax (0 : Int) (w64 ((Int.tmod (w64 (iShrT .u8 x436 (1 : Int))) (16 : Int)) - (w64 (v295 - v296)))))) then (
    some false)
    else (
    joinK (fun (_ : Unit) =>
    j435 y510.2.2.1.Channels y510.2.2.1.Capacity y510.2.2.1.Written y510.2.2.1.Read y510.2.2.1.Data v295 (w64 ((w64 (v296 + (Int.tmod (w64 (iShrT .u8 x436 (1 : Int))) (16 : Int)))) - y510.2.1))) fun j549 =>
    f3_l3 n v296 x436 y510 j549 n 0)) fun j523 =>
    if (y510.2.2.2 != (0 : Int)) then (
    j522 ())
    else (
    if ((y510.1.Data.length : Int) != (Int.tmod (w64 (iShrT .u8 x436 (1 : Int))) (16 : Int))) then (
    j522 ())
    else (
    if decide (y510.2.1 < (0 : Int)) then (
    j522 ())
    else (
    if decide (y510.2.1 > (Int.tmod (w64 (iShrT .u8 x436 (1 : Int))) (16 : Int))) then (
    j522 ())
    else (
    j523 ()))))) fun j461 =>
    if ((Int.tmod x436 (2 : Int)) == (0 : Int)) then (
    joinK (fun (v477 : (List Int)) =>
    (f16 n (⟨v290, v291, v292, v293, v294⟩ : Ring) (⟨1, v477⟩ : Block)).bind fun y497 =>
    joinK (fun (_ : Unit) =>
    some false) fun j505 =>
    joinK (fun (_ : Unit) =>
    if decide (y497.2.1 > (Int.tmod (w64 (iShrT .u8 x436 (1 : Int))) (16 : Int))) then (
    some false)
    else (
    j435 y497.1.Channels y497.1.Capacity y497.1.Written y497.1.Read y497.1.Data (w64 ((w64 (v295 + (Int.tmod (w64 (iShrT .u8 x436 (1 : Int))) (16 : Int)))) - y497.2.1)) v296)) fun j506 =>
    if (y497.2.2 != (0 : Int)) then (
    j505 ())
    else (
    if decide (y497.2.1 < (0 : Int)) then (
    j505 ())
    else (
    j506 ()))) fun j479 =>
    f3_l2 n v295 x436 j479 n ([] : List Int) 0)
    else (
    j461 ()))
    else (
    j225 v290 v291 v292 v293 v294 v295 v296)
def f3 (n : Nat) (a0 : (List Int)) (a1 : Int) : Option Bool :=
  (f14 n ).bind fun y3 =>
  if !y3 then (
  some false)
  else (
  if decide ((a0.length : Int) > (40 : Int)) then (
  some true)
  else (
  (f15 n (1 : Int) (w64 ((1 : Int) + (w64 (Int.tmod a1 (20 : Int)))))).bind fun y7 =>
  if (y7.2 != (0 : Int)) then (
  some false)
  else (
  joinK (fun (v218 : Int) (v219 : Int) (v220 : Int) (v221 : Int) (v222 : (List Int)) (v223 : Int) (v224 : Int) =>
  (f18 n (⟨v218, v219, v220, v221, v222⟩ : Ring)).bind fun y582 =>
  if (y582 == (w64 (v223 - v224))) then (
  if decide ((w64 (v223 - v224)) ≤ (w64 ((1 : Int) + (w64 (Int.tmod a1 (20 : Int)))))) then (
  if (v223 == v220) then (
  some (v224 == v221))
  else (
  some false))
  else (
  some false))
  else (
  some false)) fun j225 =>
  f3_l1 n a0 j225 n y7.1.Channels y7.1.Capacity y7.1.Written y7.1.Read y7.1.Data 0 0 0)))
set_option maxHeartbeats 4000000 in
set_option maxRecDepth 100000 in
theorem g3 {n : Nat} {a0 : (List Int)} {a1 : Int} {r : Bool} (h : f3 n a0 a1 = some r) :
    Ab.Can Try.prog 3 [.sl 5 .ro (a0.map (PV.int .u8)), .int .u8 a1] H0 (.bool r) H0 := by
  refine can_of tabOK mix Try.call3 Try.func3 rfl (by kernel_rfl) (by show _ ≤ 185; simp) fun _ => ?_
  rw [f3] at h
  refine .seq ?_
  refine .region ?_
  refine .assign ?_
  refine .nil ?_
  refine .seq ?_
  refine .seq ?_
  refine .region ?_
  obtain ⟨y3, hy3, h⟩ := bindE h
  refine .cP (g14 hy3) ?_
  refine .val ?_
  refine .nil ?_
  refine .cond (fun hc4 => ?_) (fun hc4 => ?_)
  · replace h := (if_pos hc4).symm.trans h
    refine .seq ?_
    refine .region ?_
    refine .assign ?_
    refine .nil ?_
    cases h
    exact .ret (fin_gen0 none)
  · replace h := (if_neg (nt hc4)).symm.trans h
    refine .skip ?_
    refine .seq ?_
    refine .seq ?_
    refine .region ?_
    refine .move ?_
    refine .lenL (f := (PV.int .u8)) ?_
    refine .val ?_
    refine .nil ?_
    refine .cond (fun hc6 => ?_) (fun hc6 => ?_)
    · replace h := (if_pos hc6).symm.trans h
      refine .seq ?_
      refine .region ?_
      refine .assign ?_
      refine .nil ?_
      cases h
      exact .ret (fin_gen0 none)
    · replace h := (if_neg (nt hc6)).symm.trans h
      refine .skip ?_
      refine .seq ?_
      refine .region ?_
      refine .move ?_
      refine .val ?_ (hc := by decide)
      refine .val ?_
      refine .val ?_
      obtain ⟨y7, hy7, h⟩ := bindE h
      refine .cP (g15 hy7) ?_
      refine .move ?_
      refine .val ?_
      refine .val ?_
      refine .allocL (cs := [.int .i64 0, .int .i64 0, .int .i64 0, .int .i64 0, .sl 21 .full []]) ?_
      refine .wrL (cs := [.int .i64 y7.1.Channels, .int .i64 y7.1.Capacity, .int .i64 y7.1.Written, .int .i64 y7.1.Read, .sl 21 .ro (y7.1.Data.map (PV.int .i32))]) ?_
      refine .assign ?_
      refine .nil ?_
      refine .seq ?_
      refine .seq ?_
      refine .region ?_
      refine .move ?_
      refine .val ?_
      refine .nil ?_
      refine .cond (fun hc9 => ?_) (fun hc9 => ?_)
      · replace h := (if_pos hc9).symm.trans h
        refine .seq ?_
        refine .region ?_
        refine .assign ?_
        refine .nil ?_
        cases h
        exact .ret (fin_gen0 none)
      · replace h := (if_neg (nt hc9)).symm.trans h
        refine .skip ?_
        refine .seq ?_
        refine .region ?_
        refine .assign ?_
        refine .assign ?_
        refine .nil ?_
        obtain ⟨j225, hj225, h⟩ := joinE h
        refine .cutI (fun T => (∃ (v218 : Int) (v219 : Int) (v220 : Int) (v221 : Int) (v222 : (List Int)) (v223 : Int) (v224 : Int), T = St.of [(1, .int .u8 a1), (5, .ptr (.loc 5 8) 0), (7, .int .i64 v223), (8, .int .i64 v224)] [((.loc 5 8), [.int .i64 v218, .int .i64 v219, .int .i64 v220, .int .i64 v221, .sl 21 .ro (v222.map (PV.int .i32))])] ∧ j225 v218 v219 v220 v221 v222 v223 v224 = some r)) ?_ ?_
        · refine .seq ?_
          refine .region ?_
          refine .move ?_
          refine .lenL (f := (PV.int .u8)) ?_
          refine .move ?_
          refine .nil ?_
          refine .block ?_
          refine .loopI (fun m T => ∃ (v290 : Int) (v291 : Int) (v292 : Int) (v293 : Int) (v294 : (List Int)) (v295 : Int) (v296 : Int) (v297 : Int), T = St.of [(1, .int .u8 a1), (5, .ptr (.loc 5 8) 0), (7, .int .i64 v295), (8, .int .i64 v296), (39, .sl 5 .ro (a0.map (PV.int .u8))), (40, .int .i64 (a0.length : Int)), (41, .int .i64 v297)] [((.loc 5 8), [.int .i64 v290, .int .i64 v291, .int .i64 v292, .int .i64 v293, .sl 21 .ro (v294.map (PV.int .i32))])] ∧ f3_l1 n a0 j225 m v290 v291 v292 v293 v294 v295 v296 v297 = some r) _ _ ⟨_, _, _, _, _, _, _, _, rfl, h⟩ (imp_of (.cons rfl (.cons rfl (.cons rfl (.cons rfl (.cons rfl (.cons rfl (.cons rfl (.nil)))))))) (.cons rfl (.nil))) ?_
          rintro m370 T ⟨v290, v291, v292, v293, v294, v295, v296, v297, rfl, h⟩
          obtain _ | m370 := m370
          · rw [f3_l1] at h; cases h
          rw [f3_l1] at h
          refine .seq ?_
          refine .region ?_
          refine .val ?_
          refine .nil ?_
          refine .seq ?_
          refine .cond (fun hc372 => ?_) (fun hc372 => ?_)
          · replace h := (if_pos hc372).symm.trans h
            refine .skip ?_
            obtain ⟨j435, hj435, h⟩ := joinE h
            refine .cutI (fun T => (∃ (v428 : Int) (v429 : Int) (v430 : Int) (v431 : Int) (v432 : (List Int)) (v433 : Int) (v434 : Int), T = St.of [(1, .int .u8 a1), (5, .ptr (.loc 5 8) 0), (7, .int .i64 v433), (8, .int .i64 v434), (39, .sl 5 .ro (a0.map (PV.int .u8))), (40, .int .i64 (a0.length : Int)), (41, .int .i64 v297)] [((.loc 5 8), [.int .i64 v428, .int .i64 v429, .int .i64 v430, .int .i64 v431, .sl 21 .ro (v432.map (PV.int .i32))])] ∧ j435 v428 v429 v430 v431 v432 v433 v434 = some r)) ?_ ?_
            · refine .block ?_
              refine .seq ?_
              refine .region ?_
              obtain ⟨x436, hx436, h⟩ := bindE h
              refine .idxL (f := (PV.int .u8)) hx436 ?_
              refine .ldL hx436 (y := .int .u8 x436) ?_
              refine .assign ?_
              refine .nil ?_
              refine .seq ?_
              refine .region ?_
              refine .move ?_
              refine .val ?_ (hc := by decide)
              refine .val ?_
              refine .val ?_ (hc := by decide)
              refine .assign ?_
              refine .nil ?_
              obtain ⟨j461, hj461, h⟩ := joinE h
              refine .cutI (fun T => (T = St.of [(1, .int .u8 a1), (5, .ptr (.loc 5 8) 0), (7, .int .i64 v295), (8, .int .i64 v296), (11, .int .i64 (Int.tmod (w64 (iShrT .u8 x436 (1 : Int))) (16 : Int))), (39, .sl 5 .ro (a0.map (PV.int .u8))), (40, .int .i64 (a0.length : Int)), (41, .int .i64 v297)] [((.loc 5 8), [.int .i64 v290, .int .i64 v291, .int .i64 v292, .int .i64 v293, .sl 21 .ro (v294.map (PV.int .i32))])] ∧ j461 () = some r)) ?_ ?_
              · refine .seq ?_
                refine .region ?_
                refine .move ?_
                refine .val ?_ (hc := by decide)
                refine .val ?_
                refine .nil ?_
                refine .cond (fun hc462 => ?_) (fun hc462 => ?_)
                · replace h := (if_pos hc462).symm.trans h
                  refine .seq ?_
                  refine .region ?_
                  refine .buildL (cs := [.int .i64 1, .sl 21 .full []]) ?_
                  refine .allocL (cs := [.int .i64 0, .sl 21 .full []]) ?_
                  refine .wrL (cs := [.int .i64 1, .sl 21 .full []]) ?_
                  refine .nil ?_
                  obtain ⟨j479, hj479, h⟩ := joinE h
                  refine .cutI (fun T => (∃ (v477 : (List Int)), T = St.of [(1, .int .u8 a1), (5, .ptr (.loc 5 8) 0), (7, .int .i64 v295), (8, .int .i64 v296), (11, .int .i64 (Int.tmod (w64 (iShrT .u8 x436 (1 : Int))) (16 : Int))), (12, .ptr (.loc 14 1) 0), (39, .sl 5 .ro (a0.map (PV.int .u8))), (40, .int .i64 (a0.length : Int)), (41, .int .i64 v297)] [((.loc 5 8), [.int .i64 v290, .int .i64 v291, .int .i64 v292, .int .i64 v293, .sl 21 .ro (v294.map (PV.int .i32))]), ((.loc 14 1), [.int .i64 1, .sl 21 (.own (.row 9478 0)) (v477.map (PV.int .i32))])] ∧ j479 v477 = some r)) ?_ ?_
                  · refine .seq ?_
                    refine .region ?_
                    refine .assign ?_
                    refine .nil ?_
                    refine .block ?_
                    refine .loopI (fun m T => ∃ (v484 : (List Int)) (v486 : Int), T = St.of [(1, .int .u8 a1), (5, .ptr (.loc 5 8) 0), (7, .int .i64 v295), (8, .int .i64 v296), (11, .int .i64 (Int.tmod (w64 (iShrT .u8 x436 (1 : Int))) (16 : Int))), (12, .ptr (.loc 14 1) 0), (13, .int .i64 v486), (39, .sl 5 .ro (a0.map (PV.int .u8))), (40, .int .i64 (a0.length : Int)), (41, .int .i64 v297)] [((.loc 5 8), [.int .i64 v290, .int .i64 v291, .int .i64 v292, .int .i64 v293, .sl 21 .ro (v294.map (PV.int .i32))]), ((.loc 14 1), [.int .i64 1, .sl 21 (.own (.row 9485 0)) (v484.map (PV.int .i32))])] ∧ f3_l2 n v295 x436 j479 m v484 v486 = some r) _ _ ⟨_, _, rfl, h⟩ (imp_of (.cons rfl (.cons rfl (.cons rfl (.cons rfl (.cons rfl (.cons rfl (.cons rfl (.cons rfl (.cons rfl (.cons rfl (.nil))))))))))) (.cons rfl (.wk (.cons (.refl _) rfl (.cons (.own _ _) rfl (.nil))) rfl (.nil)))) ?_
                    rintro m492 T ⟨v484, v486, rfl, h⟩
                    obtain _ | m492 := m492
                    · rw [f3_l2] at h; cases h
                    rw [f3_l2] at h
                    refine .seq ?_
                    refine .seq ?_
                    refine .region ?_
                    refine .move ?_
                    refine .move ?_
                    refine .val ?_
                    refine .nil ?_
                    refine .cond (fun hc494 => ?_) (fun hc494 => ?_)
                    · replace h := (if_pos hc494).symm.trans h
                      refine .skip ?_
                      refine .seq ?_
                      refine .block ?_
                      refine .region ?_
                      refine .val ?_
                      refine .val ?_
                      refine .move ?_
                      refine .move ?_
                      refine .val ?_
                      refine .val ?_
                      refine .val ?_
                      refine .litR (f := (PV.int .i32)) ([IntKind.wrap .i32 (w64 ((w64 (v295 + v486)) + (1 : Int)))] : List Int) ?_
                      obtain ⟨x496, hx496, h⟩ := bindE h
                      refine .appL (f := (PV.int .i32)) hx496 ?_
                      refine .val ?_
                      refine .wrL (cs := [.int .i64 1, .sl 21 (.own (.row 18 8)) (x496.map (PV.int .i32))]) ?_
                      refine .nil ?_
                      refine .region ?_
                      refine .move ?_
                      refine .val ?_
                      refine .assign ?_
                      refine .nil ?_
                      exact ⟨m492, _, Nat.lt_succ_self m492, ⟨_, _, rfl, h⟩, (Imp.trans (Imp.swap (.row 18 8) (.row 9485 0) rfl rfl rfl) (imp_of (.cons rfl (.cons rfl (.cons rfl (.cons rfl (.cons rfl (.cons rfl (.cons rfl (.cons rfl (.cons rfl (.cons rfl (.nil))))))))))) (.cons rfl (.cons rfl (.nil)))))⟩
                    · replace h := (if_neg (nt hc494)).symm.trans h
                      refine .exit (.hit ?_)
                      exact ⟨_, ⟨_, rfl, h⟩, (Imp.trans (Imp.swap (.row 9485 0) (.row 9478 0) rfl rfl rfl) (imp_of (.cons rfl (.cons rfl (.cons rfl (.cons rfl (.cons rfl (.cons rfl (.cons rfl (.cons rfl (.cons rfl (.nil)))))))))) (.cons rfl (.cons rfl (.nil)))))⟩
                  · rintro T ⟨v477, rfl, h⟩
                    subst hj479
                    refine .seq ?_
                    refine .region ?_
                    refine .val (v := .agg [.int .i64 v290, .int .i64 v291, .int .i64 v292, .int .i64 v293, .sl 21 .ro (v294.map (PV.int .i32))]) ?_
                    refine .val (v := .agg [.int .i64 1, .sl 21 (.own (.row 9478 0)) (v477.map (PV.int .i32))]) ?_
                    obtain ⟨y497, hy497, h⟩ := bindE h
                    refine .freeze (.row 9478 0) ?_
                    refine .cP (g16 hy497) ?_
                    refine .move ?_
                    refine .val ?_
                    refine .val ?_
                    refine .val ?_
                    refine .allocL (cs := [.int .i64 0, .int .i64 0, .int .i64 0, .int .i64 0, .sl 21 .full []]) ?_
                    refine .wrL (cs := [.int .i64 y497.1.Channels, .int .i64 y497.1.Capacity, .int .i64 y497.1.Written, .int .i64 y497.1.Read, .sl 21 .ro (y497.1.Data.map (PV.int .i32))]) ?_
                    refine .assign ?_
                    refine .assign ?_
                    refine .nil ?_
                    refine .seq ?_
                    obtain ⟨j505, hj505, h⟩ := joinE h
                    obtain ⟨j506, hj506, h⟩ := joinE h
                    refine .cutI (fun T => (T = St.of [(1, .int .u8 a1), (5, .ptr (.loc 5 8) 0), (7, .int .i64 v295), (8, .int .i64 v296), (11, .int .i64 (Int.tmod (w64 (iShrT .u8 x436 (1 : Int))) (16 : Int))), (14, .ptr (.loc 19 7) 0), (15, .int .i64 y497.2.1), (39, .sl 5 .ro (a0.map (PV.int .u8))), (40, .int .i64 (a0.length : Int)), (41, .int .i64 v297), (85, .bool true)] [((.loc 5 8), [.int .i64 v290, .int .i64 v291, .int .i64 v292, .int .i64 v293, .sl 21 .ro (v294.map (PV.int .i32))]), ((.loc 19 7), [.int .i64 y497.1.Channels, .int .i64 y497.1.Capacity, .int .i64 y497.1.Written, .int .i64 y497.1.Read, .sl 21 .ro (y497.1.Data.map (PV.int .i32))])] ∧ j505 () = some r) ∨ (T = St.of [(1, .int .u8 a1), (5, .ptr (.loc 5 8) 0), (7, .int .i64 v295), (8, .int .i64 v296), (11, .int .i64 (Int.tmod (w64 (iShrT .u8 x436 (1 : Int))) (16 : Int))), (14, .ptr (.loc 19 7) 0), (15, .int .i64 y497.2.1), (39, .sl 5 .ro (a0.map (PV.int .u8))), (40, .int .i64 (a0.length : Int)), (41, .int .i64 v297), (85, .bool (decide (y497.2.1 > (Int.tmod (w64 (iShrT .u8 x436 (1 : Int))) (16 : Int)))))] [((.loc 5 8), [.int .i64 v290, .int .i64 v291, .int .i64 v292, .int .i64 v293, .sl 21 .ro (v294.map (PV.int .i32))]), ((.loc 19 7), [.int .i64 y497.1.Channels, .int .i64 y497.1.Capacity, .int .i64 y497.1.Written, .int .i64 y497.1.Read, .sl 21 .ro (y497.1.Data.map (PV.int .i32))])] ∧ j506 () = some r)) ?_ ?_
                    · refine .region ?_
                      refine .move ?_
                      refine .val ?_
                      refine .move ?_
                      refine .caseG (fun hc507 => ?_) (fun hc507 => ?_)
                      · replace h := (if_pos hc507).symm.trans h
                        refine .skip ?_
                        refine .skip ?_
                        refine .brT ?_
                        refine .move ?_
                        refine .skip ?_
                        refine .skip ?_
                        refine .skip ?_
                        refine .brT ?_
                        refine .nil ?_
                        exact ⟨_, (.inl ⟨rfl, h⟩), (imp_of (.cons rfl (.cons rfl (.cons rfl (.cons rfl (.cons rfl (.cons rfl (.cons rfl (.cons rfl (.cons rfl (.cons rfl (.cons rfl (.nil)))))))))))) (.cons rfl (.cons rfl (.nil))))⟩
                      · replace h := (if_neg (nt hc507)).symm.trans h
                        refine .move ?_
                        refine .val ?_
                        refine .brF ?_
                        refine .move ?_
                        refine .caseG (fun hc508 => ?_) (fun hc508 => ?_)
                        · replace h := (if_pos hc508).symm.trans h
                          refine .skip ?_
                          refine .skip ?_
                          refine .skip ?_
                          refine .brT ?_
                          refine .nil ?_
                          exact ⟨_, (.inl ⟨rfl, h⟩), (imp_of (.cons rfl (.cons rfl (.cons rfl (.cons rfl (.cons rfl (.cons rfl (.cons rfl (.cons rfl (.cons rfl (.cons rfl (.cons rfl (.nil)))))))))))) (.cons rfl (.cons rfl (.nil))))⟩
                        · replace h := (if_neg (nt hc508)).symm.trans h
                          refine .move ?_
                          refine .move ?_
                          refine .val ?_
                          refine .brF ?_
                          refine .nil ?_
                          exact ⟨_, (.inr (⟨rfl, h⟩)), (imp_of (.cons rfl (.cons rfl (.cons rfl (.cons rfl (.cons rfl (.cons rfl (.cons rfl (.cons rfl (.cons rfl (.cons rfl (.cons rfl (.nil)))))))))))) (.cons rfl (.cons rfl (.nil))))⟩
                    · rintro T (⟨rfl, h⟩ | ⟨rfl, h⟩)
                      · subst hj505
                        refine .condT ?_
                        refine .seq ?_
                        refine .region ?_
                        refine .assign ?_
                        refine .nil ?_
                        cases h
                        exact .ret (fin_gen0 none)
                      · subst hj506
                        refine .cond (fun hc509 => ?_) (fun hc509 => ?_)
                        · replace h := (if_pos hc509).symm.trans h
                          refine .seq ?_
                          refine .region ?_
                          refine .assign ?_
                          refine .nil ?_
                          cases h
                          exact .ret (fin_gen0 none)
                        · replace h := (if_neg (nt hc509)).symm.trans h
                          refine .skip ?_
                          refine .seq ?_
                          refine .region ?_
                          refine .val (v := .agg [.int .i64 y497.1.Channels, .int .i64 y497.1.Capacity, .int .i64 y497.1.Written, .int .i64 y497.1.Read, .sl 21 .ro (y497.1.Data.map (PV.int .i32))]) ?_
                          refine .move ?_
                          refine .move ?_
                          refine .val ?_
                          refine .move ?_
                          refine .val ?_
                          refine .wrL (cs := [.int .i64 y497.1.Channels, .int .i64 y497.1.Capacity, .int .i64 y497.1.Written, .int .i64 y497.1.Read, .sl 21 .ro (y497.1.Data.map (PV.int .i32))]) ?_
                          refine .assign ?_
                          refine .nil ?_
                          refine .exit (.hit ?_)
                          exact ⟨_, ⟨_, _, _, _, _, _, _, rfl, h⟩, (imp_of (.cons rfl (.cons rfl (.cons rfl (.cons rfl (.cons rfl (.cons rfl (.cons rfl (.nil)))))))) (.cons rfl (.nil)))⟩
                · replace h := (if_neg (nt hc462)).symm.trans h
                  refine .skip ?_
                  exact ⟨_, ⟨rfl, h⟩, (imp_of (.cons rfl (.cons rfl (.cons rfl (.cons rfl (.cons rfl (.cons rfl (.cons rfl (.cons rfl (.nil))))))))) (.cons rfl (.nil)))⟩
              · rintro T ⟨rfl, h⟩
                subst hj461
                refine .seq ?_
                refine .region ?_
                refine .val (v := .agg [.int .i64 v290, .int .i64 v291, .int .i64 v292, .int .i64 v293, .sl 21 .ro (v294.map (PV.int .i32))]) ?_
                refine .move ?_
                obtain ⟨y510, hy510, h⟩ := bindE h
                refine .cP (g17 hy510) ?_
                refine .move ?_
                refine .val ?_
                refine .val ?_
                refine .val ?_
                refine .val ?_
                refine .allocL (cs := [.int .i64 0, .sl 21 .full []]) ?_
                refine .allocL (cs := [.int .i64 0, .int .i64 0, .int .i64 0, .int .i64 0, .sl 21 .full []]) ?_
                refine .wrL (cs := [.int .i64 y510.1.Channels, .sl 21 .ro (y510.1.Data.map (PV.int .i32))]) ?_
                refine .assign ?_
                refine .wrL (cs := [.int .i64 y510.2.2.1.Channels, .int .i64 y510.2.2.1.Capacity, .int .i64 y510.2.2.1.Written, .int .i64 y510.2.2.1.Read, .sl 21 .ro (y510.2.2.1.Data.map (PV.int .i32))]) ?_
                refine .assign ?_
                refine .nil ?_
                refine .seq ?_
                obtain ⟨j522, hj522, h⟩ := joinE h
                obtain ⟨j523, hj523, h⟩ := joinE h
                refine .cutI (fun T => (T = St.of [(1, .int .u8 a1), (5, .ptr (.loc 5 8) 0), (7, .int .i64 v295), (8, .int .i64 v296), (11, .int .i64 (Int.tmod (w64 (iShrT .u8 x436 (1 : Int))) (16 : Int))), (17, .ptr (.loc 23 8) 0), (18, .int .i64 y510.2.1), (19, .ptr (.loc 23 9) 0), (39, .sl 5 .ro (a0.map (PV.int .u8))), (40, .int .i64 (a0.length : Int)), (41, .int .i64 v297), (127, .bool true)] [((.loc 5 8), [.int .i64 v290, .int .i64 v291, .int .i64 v292, .int .i64 v293, .sl 21 .ro (v294.map (PV.int .i32))]), ((.loc 23 8), [.int .i64 y510.1.Channels, .sl 21 .ro (y510.1.Data.map (PV.int .i32))]), ((.loc 23 9), [.int .i64 y510.2.2.1.Channels, .int .i64 y510.2.2.1.Capacity, .int .i64 y510.2.2.1.Written, .int .i64 y510.2.2.1.Read, .sl 21 .ro (y510.2.2.1.Data.map (PV.int .i32))])] ∧ j522 () = some r) ∨ (T = St.of [(1, .int .u8 a1), (5, .ptr (.loc 5 8) 0), (7, .int .i64 v295), (8, .int .i64 v296), (11, .int .i64 (Int.tmod (w64 (iShrT .u8 x436 (1 : Int))) (16 : Int))), (17, .ptr (.loc 23 8) 0), (18, .int .i64 y510.2.1), (19, .ptr (.loc 23 9) 0), (39, .sl 5 .ro (a0.map (PV.int .u8))), (40, .int .i64 (a0.length : Int)), (41, .int .i64 v297), (127, .bool (y510.2.1 != (iMax (0 : Int) (w64 ((Int.tmod (w64 (iShrT .u8 x436 (1 : Int))) (16 : Int)) - (w64 (v295 - v296)))))))] [((.loc 5 8), [.int .i64 v290, .int .i64 v291, .int .i64 v292, .int .i64 v293, .sl 21 .ro (v294.map (PV.int .i32))]), ((.loc 23 8), [.int .i64 y510.1.Channels, .sl 21 .ro (y510.1.Data.map (PV.int .i32))]), ((.loc 23 9), [.int .i64 y510.2.2.1.Channels, .int .i64 y510.2.2.1.Capacity, .int .i64 y510.2.2.1.Written, .int .i64 y510.2.2.1.Read, .sl 21 .ro (y510.2.2.1.Data.map (PV.int .i32))])] ∧ j523 () = some r)) ?_ ?_
                · refine .region ?_
                  refine .move ?_
                  refine .val ?_
                  refine .move ?_
                  refine .caseG (fun hc524 => ?_) (fun hc524 => ?_)
                  · replace h := (if_pos hc524).symm.trans h
                    refine .skip ?_
                    refine .skip ?_
                    refine .skip ?_
                    refine .skip ?_
                    refine .skip ?_
                    refine .brT ?_
                    refine .move ?_
                    refine .skip ?_
                    refine .skip ?_
                    refine .brT ?_
                    refine .move ?_
                    refine .skip ?_
                    refine .skip ?_
                    refine .skip ?_
                    refine .brT ?_
                    refine .move ?_
                    refine .skip ?_
                    refine .skip ?_
                    refine .skip ?_
                    refine .skip ?_
                    refine .skip ?_
                    refine .skip ?_
                    refine .skip ?_
                    refine .skip ?_
                    refine .brT ?_
                    refine .nil ?_
                    exact ⟨_, (.inl ⟨rfl, h⟩), (imp_of (.cons rfl (.cons rfl (.cons rfl (.cons rfl (.cons rfl (.cons rfl (.cons rfl (.cons rfl (.cons rfl (.cons rfl (.cons rfl (.cons rfl (.nil))))))))))))) (.cons rfl (.cons rfl (.cons rfl (.nil)))))⟩
                  · replace h := (if_neg (nt hc524)).symm.trans h
                    refine .val ?_
                    refine .val ?_
                    refine .lenL (f := (PV.int .i32)) ?_
                    refine .move ?_
                    refine .val ?_
                    refine .brF ?_
                    refine .move ?_
                    refine .caseG (fun hc525 => ?_) (fun hc525 => ?_)
                    · replace h := (if_pos hc525).symm.trans h
                      refine .skip ?_
                      refine .skip ?_
                      refine .brT ?_
                      refine .move ?_
                      refine .skip ?_
                      refine .skip ?_
                      refine .skip ?_
                      refine .brT ?_
                      refine .move ?_
                      refine .skip ?_
                      refine .skip ?_
                      refine .skip ?_
                      refine .skip ?_
                      refine .skip ?_
                      refine .skip ?_
                      refine .skip ?_
                      refine .skip ?_
                      refine .brT ?_
                      refine .nil ?_
                      exact ⟨_, (.inl ⟨rfl, h⟩), (imp_of (.cons rfl (.cons rfl (.cons rfl (.cons rfl (.cons rfl (.cons rfl (.cons rfl (.cons rfl (.cons rfl (.cons rfl (.cons rfl (.cons rfl (.nil))))))))))))) (.cons rfl (.cons rfl (.cons rfl (.nil)))))⟩
                    · replace h := (if_neg (nt hc525)).symm.trans h
                      refine .move ?_
                      refine .val ?_
                      refine .brF ?_
                      refine .move ?_
                      refine .caseG (fun hc526 => ?_) (fun hc526 => ?_)
                      · replace h := (if_pos hc526).symm.trans h
                        refine .skip ?_
                        refine .skip ?_
                        refine .skip ?_
                        refine .brT ?_
                        refine .move ?_
                        refine .skip ?_
                        refine .skip ?_
                        refine .skip ?_
                        refine .skip ?_
                        refine .skip ?_
                        refine .skip ?_
                        refine .skip ?_
                        refine .skip ?_
                        refine .brT ?_
                        refine .nil ?_
                        exact ⟨_, (.inl ⟨rfl, h⟩), (imp_of (.cons rfl (.cons rfl (.cons rfl (.cons rfl (.cons rfl (.cons rfl (.cons rfl (.cons rfl (.cons rfl (.cons rfl (.cons rfl (.cons rfl (.nil))))))))))))) (.cons rfl (.cons rfl (.cons rfl (.nil)))))⟩
                      · replace h := (if_neg (nt hc526)).symm.trans h
                        refine .move ?_
                        refine .move ?_
                        refine .val ?_
                        refine .brF ?_
                        refine .move ?_
                        refine .caseG (fun hc527 => ?_) (fun hc527 => ?_)
                        · replace h := (if_pos hc527).symm.trans h
                          refine .skip ?_
                          refine .skip ?_
                          refine .skip ?_
                          refine .skip ?_
                          refine .skip ?_
                          refine .skip ?_
                          refine .skip ?_
                          refine .skip ?_
                          refine .brT ?_
                          refine .nil ?_
                          exact ⟨_, (.inl ⟨rfl, h⟩), (imp_of (.cons rfl (.cons rfl (.cons rfl (.cons rfl (.cons rfl (.cons rfl (.cons rfl (.cons rfl (.cons rfl (.cons rfl (.cons rfl (.cons rfl (.nil))))))))))))) (.cons rfl (.cons rfl (.cons rfl (.nil)))))⟩
                        · replace h := (if_neg (nt hc527)).symm.trans h
                          refine .move ?_
                          refine .move ?_
                          refine .move ?_
                          refine .move ?_
                          refine .val ?_
                          refine .val ?_
                          refine .maxL ?_
                          refine .val ?_
                          refine .brF ?_
                          refine .nil ?_
                          exact ⟨_, (.inr (⟨rfl, h⟩)), (imp_of (.cons rfl (.cons rfl (.cons rfl (.cons rfl (.cons rfl (.cons rfl (.cons rfl (.cons rfl (.cons rfl (.cons rfl (.cons rfl (.cons rfl (.nil))))))))))))) (.cons rfl (.cons rfl (.cons rfl (.nil)))))⟩
                · rintro T (⟨rfl, h⟩ | ⟨rfl, h⟩)
                  · subst hj522
                    refine .condT ?_
                    refine .seq ?_
                    refine .region ?_
                    refine .assign ?_
                    refine .nil ?_
                    cases h
                    exact .ret (fin_gen0 none)
                  · subst hj523
                    refine .cond (fun hc528 => ?_) (fun hc528 => ?_)
                    · replace h := (if_pos hc528).symm.trans h
                      refine .seq ?_
                      refine .region ?_
                      refine .assign ?_
                      refine .nil ?_
                      cases h
                      exact .ret (fin_gen0 none)
                    · replace h := (if_neg (nt hc528)).symm.trans h
                      refine .skip ?_
                      obtain ⟨j549, hj549, h⟩ := joinE h
                      refine .cutI (fun T => (T = St.of [(1, .int .u8 a1), (5, .ptr (.loc 5 8) 0), (7, .int .i64 v295), (8, .int .i64 v296), (11, .int .i64 (Int.tmod (w64 (iShrT .u8 x436 (1 : Int))) (16 : Int))), (18, .int .i64 y510.2.1), (19, .ptr (.loc 23 9) 0), (39, .sl 5 .ro (a0.map (PV.int .u8))), (40, .int .i64 (a0.length : Int)), (41, .int .i64 v297)] [((.loc 5 8), [.int .i64 v290, .int .i64 v291, .int .i64 v292, .int .i64 v293, .sl 21 .ro (v294.map (PV.int .i32))]), ((.loc 23 9), [.int .i64 y510.2.2.1.Channels, .int .i64 y510.2.2.1.Capacity, .int .i64 y510.2.2.1.Written, .int .i64 y510.2.2.1.Read, .sl 21 .ro (y510.2.2.1.Data.map (PV.int .i32))])] ∧ j549 () = some r)) ?_ ?_
                      · refine .seq ?_
                        refine .region ?_
                        refine .val ?_
                        refine .val ?_
                        refine .lenL (f := (PV.int .i32)) ?_
                        refine .move ?_
                        refine .nil ?_
                        refine .block ?_
                        refine .loopI (fun m T => ∃ (v556 : Int), T = St.of [(1, .int .u8 a1), (5, .ptr (.loc 5 8) 0), (7, .int .i64 v295), (8, .int .i64 v296), (11, .int .i64 (Int.tmod (w64 (iShrT .u8 x436 (1 : Int))) (16 : Int))), (18, .int .i64 y510.2.1), (19, .ptr (.loc 23 9) 0), (39, .sl 5 .ro (a0.map (PV.int .u8))), (40, .int .i64 (a0.length : Int)), (41, .int .i64 v297), (129, .sl 21 .ro (y510.1.Data.map (PV.int .i32))), (130, .int .i64 (y510.1.Data.length : Int)), (131, .int .i64 v556)] [((.loc 5 8), [.int .i64 v290, .int .i64 v291, .int .i64 v292, .int .i64 v293, .sl 21 .ro (v294.map (PV.int .i32))]), ((.loc 23 9), [.int .i64 y510.2.2.1.Channels, .int .i64 y510.2.2.1.Capacity, .int .i64 y510.2.2.1.Written, .int .i64 y510.2.2.1.Read, .sl 21 .ro (y510.2.2.1.Data.map (PV.int .i32))])] ∧ f3_l3 n v296 x436 y510 j549 m v556 = some r) _ _ ⟨_, rfl, h⟩ (imp_of (.cons rfl (.cons rfl (.cons rfl (.cons rfl (.cons rfl (.cons rfl (.cons rfl (.cons rfl (.cons rfl (.cons rfl (.cons rfl (.cons rfl (.cons rfl (.nil)))))))))))))) (.cons rfl (.cons rfl (.nil)))) ?_
                        rintro m564 T ⟨v556, rfl, h⟩
                        obtain _ | m564 := m564
                        · rw [f3_l3] at h; cases h
                        rw [f3_l3] at h
                        refine .seq ?_
                        refine .region ?_
                        refine .val ?_
                        refine .nil ?_
                        refine .seq ?_
                        refine .cond (fun hc566 => ?_) (fun hc566 => ?_)
                        · replace h := (if_pos hc566).symm.trans h
                          refine .skip ?_
                          refine .seq ?_
                          refine .block ?_
                          refine .seq ?_
                          refine .region ?_
                          refine .move ?_
                          obtain ⟨x572, hx572, h⟩ := bindE h
                          refine .idxL (f := (PV.int .i32)) hx572 ?_
                          refine .ldL hx572 (y := .int .i32 x572) ?_
                          refine .assign ?_
                          refine .assign ?_
                          refine .nil ?_
                          refine .seq ?_
                          refine .region ?_
                          refine .move ?_
                          refine .move ?_
                          refine .val ?_
                          refine .val ?_
                          refine .val ?_
                          refine .assign ?_
                          refine .nil ?_
                          obtain ⟨j575, hj575, h⟩ := joinE h
                          refine .cutI (fun T => (∃ (v574 : Int), T = St.of [(1, .int .u8 a1), (5, .ptr (.loc 5 8) 0), (7, .int .i64 v295), (8, .int .i64 v296), (11, .int .i64 (Int.tmod (w64 (iShrT .u8 x436 (1 : Int))) (16 : Int))), (18, .int .i64 y510.2.1), (19, .ptr (.loc 23 9) 0), (22, .int .i32 x572), (23, .int .i32 v574), (39, .sl 5 .ro (a0.map (PV.int .u8))), (40, .int .i64 (a0.length : Int)), (41, .int .i64 v297), (129, .sl 21 .ro (y510.1.Data.map (PV.int .i32))), (130, .int .i64 (y510.1.Data.length : Int)), (131, .int .i64 v556)] [((.loc 5 8), [.int .i64 v290, .int .i64 v291, .int .i64 v292, .int .i64 v293, .sl 21 .ro (v294.map (PV.int .i32))]), ((.loc 23 9), [.int .i64 y510.2.2.1.Channels, .int .i64 y510.2.2.1.Capacity, .int .i64 y510.2.2.1.Written, .int .i64 y510.2.2.1.Read, .sl 21 .ro (y510.2.2.1.Data.map (PV.int .i32))])] ∧ j575 v574 = some r)) ?_ ?_
                          · refine .seq ?_
                            refine .region ?_
                            refine .move ?_
                            refine .move ?_
                            refine .move ?_
                            refine .val ?_
                            refine .val ?_
                            refine .nil ?_
                            refine .cond (fun hc576 => ?_) (fun hc576 => ?_)
                            · replace h := (if_pos hc576).symm.trans h
                              refine .region ?_
                              refine .assign ?_
                              refine .nil ?_
                              exact ⟨_, ⟨_, rfl, h⟩, (imp_of (.cons rfl (.cons rfl (.cons rfl (.cons rfl (.cons rfl (.cons rfl (.cons rfl (.cons rfl (.cons rfl (.cons rfl (.cons rfl (.cons rfl (.cons rfl (.cons rfl (.cons rfl (.nil)))))))))))))))) (.cons rfl (.cons rfl (.nil))))⟩
                            · replace h := (if_neg (nt hc576)).symm.trans h
                              refine .skip ?_
                              exact ⟨_, ⟨_, rfl, h⟩, (imp_of (.cons rfl (.cons rfl (.cons rfl (.cons rfl (.cons rfl (.cons rfl (.cons rfl (.cons rfl (.cons rfl (.cons rfl (.cons rfl (.cons rfl (.cons rfl (.cons rfl (.cons rfl (.nil)))))))))))))))) (.cons rfl (.cons rfl (.nil))))⟩
                          · rintro T ⟨v574, rfl, h⟩
                            subst hj575
                            refine .seq ?_
                            refine .region ?_
                            refine .move ?_
                            refine .move ?_
                            refine .val ?_
                            refine .nil ?_
                            refine .cond (fun hc577 => ?_) (fun hc577 => ?_)
                            · replace h := (if_pos hc577).symm.trans h
                              refine .seq ?_
                              refine .region ?_
                              refine .assign ?_
                              refine .nil ?_
                              cases h
                              exact .ret (fin_gen0 none)
                            · replace h := (if_neg (nt hc577)).symm.trans h
                              refine .skip ?_
                              refine .region ?_
                              refine .val ?_
                              refine .move ?_
                              refine .nil ?_
                              exact ⟨m564, _, Nat.lt_succ_self m564, ⟨_, rfl, h⟩, (imp_of (.cons rfl (.cons rfl (.cons rfl (.cons rfl (.cons rfl (.cons rfl (.cons rfl (.cons rfl (.cons rfl (.cons rfl (.cons rfl (.cons rfl (.cons rfl (.nil)))))))))))))) (.cons rfl (.cons rfl (.nil))))⟩
                        · replace h := (if_neg (nt hc566)).symm.trans h
                          refine .exit (.hit ?_)
                          exact ⟨_, ⟨rfl, h⟩, (imp_of (.cons rfl (.cons rfl (.cons rfl (.cons rfl (.cons rfl (.cons rfl (.cons rfl (.cons rfl (.cons rfl (.cons rfl (.nil))))))))))) (.cons rfl (.cons rfl (.nil))))⟩
                      · rintro T ⟨rfl, h⟩
                        subst hj549
                        refine .region ?_
                        refine .val (v := .agg [.int .i64 y510.2.2.1.Channels, .int .i64 y510.2.2.1.Capacity, .int .i64 y510.2.2.1.Written, .int .i64 y510.2.2.1.Read, .sl 21 .ro (y510.2.2.1.Data.map (PV.int .i32))]) ?_
                        refine .move ?_
                        refine .move ?_
                        refine .val ?_
                        refine .move ?_
                        refine .val ?_
                        refine .wrL (cs := [.int .i64 y510.2.2.1.Channels, .int .i64 y510.2.2.1.Capacity, .int .i64 y510.2.2.1.Written, .int .i64 y510.2.2.1.Read, .sl 21 .ro (y510.2.2.1.Data.map (PV.int .i32))]) ?_
                        refine .assign ?_
                        refine .nil ?_
                        exact ⟨_, ⟨_, _, _, _, _, _, _, rfl, h⟩, (imp_of (.cons rfl (.cons rfl (.cons rfl (.cons rfl (.cons rfl (.cons rfl (.cons rfl (.nil)))))))) (.cons rfl (.nil)))⟩
            · rintro T ⟨v428, v429, v430, v431, v432, v433, v434, rfl, h⟩
              subst hj435
              refine .region ?_
              refine .val ?_
              refine .move ?_
              refine .nil ?_
              exact ⟨m370, _, Nat.lt_succ_self m370, ⟨_, _, _, _, _, _, _, _, rfl, h⟩, (imp_of (.cons rfl (.cons rfl (.cons rfl (.cons rfl (.cons rfl (.cons rfl (.cons rfl (.nil)))))))) (.cons rfl (.nil)))⟩
          · replace h := (if_neg (nt hc372)).symm.trans h
            refine .exit (.hit ?_)
            exact ⟨_, ⟨_, _, _, _, _, _, _, rfl, h⟩, (imp_of (.cons rfl (.cons rfl (.cons rfl (.cons rfl (.nil))))) (.cons rfl (.nil)))⟩
        · rintro T ⟨v218, v219, v220, v221, v222, v223, v224, rfl, h⟩
          subst hj225
          refine .seq ?_
          refine .region ?_
          refine .val (v := .agg [.int .i64 v218, .int .i64 v219, .int .i64 v220, .int .i64 v221, .sl 21 .ro (v222.map (PV.int .i32))]) ?_
          obtain ⟨y582, hy582, h⟩ := bindE h
          refine .cP (g18 hy582) ?_
          refine .move ?_
          refine .move ?_
          refine .val ?_
          refine .val ?_
          refine .move ?_
          refine .caseG (fun hc583 => ?_) (fun hc583 => ?_)
          · replace h := (if_pos hc583).symm.trans h
            refine .move ?_
            refine .move ?_
            refine .val ?_
            refine .move ?_
            refine .val ?_ (hc := by decide)
            refine .val ?_
            refine .val ?_
            refine .val ?_
            refine .brT ?_
            refine .move ?_
            refine .caseG (fun hc584 => ?_) (fun hc584 => ?_)
            · replace h := (if_pos hc584).symm.trans h
              refine .move ?_
              refine .val ?_
              refine .val ?_
              refine .val ?_
              refine .brT ?_
              refine .move ?_
              refine .caseG (fun hc585 => ?_) (fun hc585 => ?_)
              · replace h := (if_pos hc585).symm.trans h
                refine .move ?_
                refine .val ?_
                refine .val ?_
                refine .val ?_
                refine .brT ?_
                refine .assign ?_
                refine .nil ?_
                cases h
                exact .ret (fin_gen0 none)
              · replace h := (if_neg (nt hc585)).symm.trans h
                refine .skip ?_
                refine .skip ?_
                refine .skip ?_
                refine .skip ?_
                refine .brF ?_
                refine .assign ?_
                refine .nil ?_
                cases h
                exact .ret (fin_gen0 none)
            · replace h := (if_neg (nt hc584)).symm.trans h
              refine .skip ?_
              refine .skip ?_
              refine .skip ?_
              refine .skip ?_
              refine .brF ?_
              refine .move ?_
              refine .skip ?_
              refine .skip ?_
              refine .skip ?_
              refine .skip ?_
              refine .brF ?_
              refine .assign ?_
              refine .nil ?_
              cases h
              exact .ret (fin_gen0 none)
          · replace h := (if_neg (nt hc583)).symm.trans h
            refine .skip ?_
            refine .skip ?_
            refine .skip ?_
            refine .skip ?_
            refine .skip ?_
            refine .skip ?_
            refine .skip ?_
            refine .skip ?_
            refine .brF ?_
            refine .move ?_
            refine .skip ?_
            refine .skip ?_
            refine .skip ?_
            refine .skip ?_
            refine .brF ?_
            refine .move ?_
            refine .skip ?_
            refine .skip ?_
            refine .skip ?_
            refine .skip ?_
            refine .brF ?_
            refine .assign ?_
            refine .nil ?_
            cases h
            exact .ret (fin_gen0 none)

/- soundservice/soundservicelaw17.RingParts -/
def f4 (n : Nat) (a0 : (List Int)) (a1 : Int) (a2 : Int) (a3 : Int) : Option Bool :=
  (f14 n ).bind fun y3 =>
  if !y3 then (
  some false)
  else (
  (f20 n a0).bind fun y5 =>
  (f19 n (⟨y5.l⟩ : Dice)).bind fun y6 =>
  (f21 n (1 : Int) y6.1.Channels (0 : Int) (w64 (Int.tmod a1 (6 : Int)))).bind fun y7 =>
  (f21 n (1 : Int) y6.1.Channels (w64 (Int.tmod a1 (6 : Int))) (w64 (Int.tmod a2 (6 : Int)))).bind fun y8 =>
  (f16 n (⟨y6.1.Channels, y6.1.Capacity, y6.1.Written, y6.1.Read, y6.1.Data⟩ : Ring) (⟨y7.Channels, y7.Data⟩ : Block)).bind fun y9 =>
  (f16 n (⟨y9.1.Channels, y9.1.Capacity, y9.1.Written, y9.1.Read, y9.1.Data⟩ : Ring) (⟨y8.Channels, y8.Data⟩ : Block)).bind fun y10 =>
  (f22 n (⟨y7.Channels, y7.Data⟩ : Block) (⟨y8.Channels, y8.Data⟩ : Block)).bind fun y11 =>
  (f16 n (⟨y6.1.Channels, y6.1.Capacity, y6.1.Written, y6.1.Read, y6.1.Data⟩ : Ring) y11).bind fun y12 =>
  joinK (fun (_ : Unit) =>
  (f17 n (⟨y12.1.Channels, y12.1.Capacity, y12.1.Written, y12.1.Read, y12.1.Data⟩ : Ring) (w64 (Int.tmod a1 (6 : Int)))).bind fun y42 =>
  (f17 n (⟨y42.2.2.1.Channels, y42.2.2.1.Capacity, y42.2.2.1.Written, y42.2.2.1.Read, y42.2.2.1.Data⟩ : Ring) (w64 (Int.tmod a3 (6 : Int)))).bind fun y43 =>
  (f17 n (⟨y12.1.Channels, y12.1.Capacity, y12.1.Written, y12.1.Read, y12.1.Data⟩ : Ring) (w64 ((w64 (Int.tmod a1 (6 : Int))) + (w64 (Int.tmod a3 (6 : Int)))))).bind fun y44 =>
  if (y42.2.2.2 == (0 : Int)) then (
  if (y43.2.2.2 == (0 : Int)) then (
  if (y44.2.2.2 == (0 : Int)) then (
  if ((w64 (y42.2.1 + y43.2.1)) == y44.2.1) then (
  (f23 n (⟨y43.2.2.1.Channels, y43.2.2.1.Capacity, y43.2.2.1.Written, y43.2.2.1.Read, y43.2.2.1.Data⟩ : Ring) (⟨y44.2.2.1.Channels, y44.2.2.1.Capacity, y44.2.2.1.Written, y44.2.2.1.Read, y44.2.2.1.Data⟩ : Ring)).bind fun y57 =>
  if y57 then (
  (f22 n (⟨y42.1.Channels, y42.1.Data⟩ : Block) (⟨y43.1.Channels, y43.1.Data⟩ : Block)).bind fun y59 =>
  (f24 n y59 (⟨y44.1.Channels, y44.1.Data⟩ : Block)).bind fun y60 =>
  some y60)
  else (
  some false))
  else (
  some false))
  else (
  some false))
  else (
  some false))
  else (
  some false)) fun j24 =>
  joinK (fun (_ : Unit) =>
  some false) fun j31 =>
  joinK (fun (v32 : Bool) =>
  if v32 then (
  some false)
  else (
  j24 ())) fun j33 =>
  joinK (fun (_ : Unit) =>
  j24 ()) fun j34 =>
  if (y9.2.2 != (0 : Int)) then (
  j31 ())
  else (
  if (y10.2.2 != (0 : Int)) then (
  j31 ())
  else (
  if (y12.2.2 != (0 : Int)) then (
  j31 ())
  else (
  if ((w64 (y9.2.1 + y10.2.1)) != y12.2.1) then (
  j31 ())
  else (
  if (y9.2.1 == (0 : Int)) then (
  (f23 n (⟨y10.1.Channels, y10.1.Capacity, y10.1.Written, y10.1.Read, y10.1.Data⟩ : Ring) (⟨y12.1.Channels, y12.1.Capacity, y12.1.Written, y12.1.Read, y12.1.Data⟩ : Ring)).bind fun y40 =>
  j33 (!y40))
  else (
  j34 ()))))))
set_option maxHeartbeats 4000000 in
set_option maxRecDepth 100000 in
theorem g4 {n : Nat} {a0 : (List Int)} {a1 : Int} {a2 : Int} {a3 : Int} {r : Bool} (h : f4 n a0 a1 a2 a3 = some r) :
    Ab.Can Try.prog 4 [.sl 5 .ro (a0.map (PV.int .u8)), .int .u8 a1, .int .u8 a2, .int .u8 a3] H0 (.bool r) H0 := by
  refine can_of tabOK mix Try.call4 Try.func4 rfl (by kernel_rfl) (by show _ ≤ 166; simp) fun _ => ?_
  rw [f4] at h
  refine .seq ?_
  refine .region ?_
  refine .assign ?_
  refine .nil ?_
  refine .seq ?_
  refine .seq ?_
  refine .region ?_
  obtain ⟨y3, hy3, h⟩ := bindE h
  refine .cP (g14 hy3) ?_
  refine .val ?_
  refine .nil ?_
  refine .cond (fun hc4 => ?_) (fun hc4 => ?_)
  · replace h := (if_pos hc4).symm.trans h
    refine .seq ?_
    refine .region ?_
    refine .assign ?_
    refine .nil ?_
    cases h
    exact .ret (fin_gen0 none)
  · replace h := (if_neg (nt hc4)).symm.trans h
    refine .skip ?_
    refine .seq ?_
    refine .region ?_
    refine .move ?_
    obtain ⟨y5, hy5, h⟩ := bindE h
    refine .cB (.loc 3 1) (g20 hy5) ?_
    obtain ⟨y6, hy6, h⟩ := bindE h
    refine .cH (.loc 3 1) (g19 hy6) ?_
    refine .allocL (cs := [.int .i64 0, .int .i64 0, .int .i64 0, .int .i64 0, .sl 21 .full []]) ?_
    refine .wrL (cs := [.int .i64 y6.1.Channels, .int .i64 y6.1.Capacity, .int .i64 y6.1.Written, .int .i64 y6.1.Read, .sl 21 .ro (y6.1.Data.map (PV.int .i32))]) ?_
    refine .nil ?_
    refine .seq ?_
    obtain ⟨y7, hy7, h⟩ := bindE h
    obtain ⟨y8, hy8, h⟩ := bindE h
    refine .draw [15, 16, 17, 18] [[], [], [], [], [], [], [], [], [], [], [], [], [], [], [], [], [], [15, 16], [15, 16, 17]] [[17, 18], [17, 18], [17, 18], [17, 18], [17, 18], [17, 18], [17, 18], [17, 18], [17, 18], [17, 18], [17, 18], [17, 18], [17, 18], [17, 18], [17, 18], [17, 18], [17, 18], [18], []] [[], [15], [16], [15, 16], [15, 16, 17], [15, 16, 17, 18]]
      [(0, 0), (0, 1), (0, 2), (0, 3), (1, 0), (1, 1), (1, 2), (1, 3), (2, 0), (2, 1), (2, 2), (2, 3), (3, 0), (3, 1), (3, 2), (3, 3), (4, 0), (4, 1), (4, 2), (4, 3), (5, 0), (5, 1), (5, 2), (5, 3), (6, 0), (6, 1), (6, 2), (6, 3), (7, 0), (7, 1), (7, 2), (7, 3), (8, 0), (8, 1), (8, 2), (8, 3), (9, 0), (9, 1), (9, 2), (9, 3), (10, 0), (10, 1), (10, 2), (10, 3), (11, 0), (11, 1), (11, 2), (11, 3), (12, 0), (12, 1), (12, 2), (12, 3), (13, 0), (13, 1), (13, 2), (13, 3), (14, 0), (14, 1), (14, 2), (14, 3)] [(0, 15, 1), (0, 16, 2), (1, 16, 3), (2, 15, 3), (3, 17, 4), (4, 18, 5)] 5
      [⟨[(38, .ptr (.loc 3 3) 0), (39, .int .i64 y6.1.Channels), (40, .int .u8 a1), (41, .int .u8 (Int.tmod a1 (6 : Int))), (42, .int .i64 (w64 (Int.tmod a1 (6 : Int)))), (43, .agg [.int .i64 y7.Channels, .sl 21 .ro (y7.Data.map (PV.int .i32))]), (44, .ptr (.loc 3 3) 0), (45, .int .i64 y6.1.Channels), (46, .int .u8 a1), (47, .int .u8 (Int.tmod a1 (6 : Int))), (48, .int .i64 (w64 (Int.tmod a1 (6 : Int)))), (49, .int .u8 a2), (50, .int .u8 (Int.tmod a2 (6 : Int))), (51, .int .i64 (w64 (Int.tmod a2 (6 : Int)))), (52, .agg [.int .i64 y8.Channels, .sl 21 .ro (y8.Data.map (PV.int .i32))]), (1, .int .u8 a1), (2, .int .u8 a2), (3, .int .u8 a3), (9, .ptr (.loc 3 3) 0)], [], [((.loc 3 3), [.int .i64 y6.1.Channels, .int .i64 y6.1.Capacity, .int .i64 y6.1.Written, .int .i64 y6.1.Read, .sl 21 .ro (y6.1.Data.map (PV.int .i32))])]⟩,
      ⟨[(38, .ptr (.loc 3 3) 0), (39, .int .i64 y6.1.Channels), (40, .int .u8 a1), (41, .int .u8 (Int.tmod a1 (6 : Int))), (42, .int .i64 (w64 (Int.tmod a1 (6 : Int)))), (43, .agg [.int .i64 y7.Channels, .sl 21 .ro (y7.Data.map (PV.int .i32))]), (44, .ptr (.loc 3 3) 0), (45, .int .i64 y6.1.Channels), (46, .int .u8 a1), (47, .int .u8 (Int.tmod a1 (6 : Int))), (48, .int .i64 (w64 (Int.tmod a1 (6 : Int)))), (49, .int .u8 a2), (50, .int .u8 (Int.tmod a2 (6 : Int))), (51, .int .i64 (w64 (Int.tmod a2 (6 : Int)))), (52, .agg [.int .i64 y8.Channels, .sl 21 .ro (y8.Data.map (PV.int .i32))]), (10, .ptr (.loc 4 15) 0), (1, .int .u8 a1), (2, .int .u8 a2), (3, .int .u8 a3), (9, .ptr (.loc 3 3) 0)], [], [((.loc 3 3), [.int .i64 y6.1.Channels, .int .i64 y6.1.Capacity, .int .i64 y6.1.Written, .int .i64 y6.1.Read, .sl 21 .ro (y6.1.Data.map (PV.int .i32))]), ((.loc 4 15), [.int .i64 0, .sl 21 .full []])]⟩,
      ⟨[(38, .ptr (.loc 3 3) 0), (39, .int .i64 y6.1.Channels), (40, .int .u8 a1), (41, .int .u8 (Int.tmod a1 (6 : Int))), (42, .int .i64 (w64 (Int.tmod a1 (6 : Int)))), (43, .agg [.int .i64 y7.Channels, .sl 21 .ro (y7.Data.map (PV.int .i32))]), (44, .ptr (.loc 3 3) 0), (45, .int .i64 y6.1.Channels), (46, .int .u8 a1), (47, .int .u8 (Int.tmod a1 (6 : Int))), (48, .int .i64 (w64 (Int.tmod a1 (6 : Int)))), (49, .int .u8 a2), (50, .int .u8 (Int.tmod a2 (6 : Int))), (51, .int .i64 (w64 (Int.tmod a2 (6 : Int)))), (52, .agg [.int .i64 y8.Channels, .sl 21 .ro (y8.Data.map (PV.int .i32))]), (11, .ptr (.loc 4 16) 0), (1, .int .u8 a1), (2, .int .u8 a2), (3, .int .u8 a3), (9, .ptr (.loc 3 3) 0)], [], [((.loc 3 3), [.int .i64 y6.1.Channels, .int .i64 y6.1.Capacity, .int .i64 y6.1.Written, .int .i64 y6.1.Read, .sl 21 .ro (y6.1.Data.map (PV.int .i32))]), ((.loc 4 16), [.int .i64 0, .sl 21 .full []])]⟩,
      ⟨[(38, .ptr (.loc 3 3) 0), (39, .int .i64 y6.1.Channels), (40, .int .u8 a1), (41, .int .u8 (Int.tmod a1 (6 : Int))), (42, .int .i64 (w64 (Int.tmod a1 (6 : Int)))), (43, .agg [.int .i64 y7.Channels, .sl 21 .ro (y7.Data.map (PV.int .i32))]), (44, .ptr (.loc 3 3) 0), (45, .int .i64 y6.1.Channels), (46, .int .u8 a1), (47, .int .u8 (Int.tmod a1 (6 : Int))), (48, .int .i64 (w64 (Int.tmod a1 (6 : Int)))), (49, .int .u8 a2), (50, .int .u8 (Int.tmod a2 (6 : Int))), (51, .int .i64 (w64 (Int.tmod a2 (6 : Int)))), (52, .agg [.int .i64 y8.Channels, .sl 21 .ro (y8.Data.map (PV.int .i32))]), (10, .ptr (.loc 4 15) 0), (11, .ptr (.loc 4 16) 0), (1, .int .u8 a1), (2, .int .u8 a2), (3, .int .u8 a3), (9, .ptr (.loc 3 3) 0)], [], [((.loc 3 3), [.int .i64 y6.1.Channels, .int .i64 y6.1.Capacity, .int .i64 y6.1.Written, .int .i64 y6.1.Read, .sl 21 .ro (y6.1.Data.map (PV.int .i32))]), ((.loc 4 15), [.int .i64 0, .sl 21 .full []]), ((.loc 4 16), [.int .i64 0, .sl 21 .full []])]⟩,
      ⟨[(38, .ptr (.loc 3 3) 0), (39, .int .i64 y6.1.Channels), (40, .int .u8 a1), (41, .int .u8 (Int.tmod a1 (6 : Int))), (42, .int .i64 (w64 (Int.tmod a1 (6 : Int)))), (43, .agg [.int .i64 y7.Channels, .sl 21 .ro (y7.Data.map (PV.int .i32))]), (44, .ptr (.loc 3 3) 0), (45, .int .i64 y6.1.Channels), (46, .int .u8 a1), (47, .int .u8 (Int.tmod a1 (6 : Int))), (48, .int .i64 (w64 (Int.tmod a1 (6 : Int)))), (49, .int .u8 a2), (50, .int .u8 (Int.tmod a2 (6 : Int))), (51, .int .i64 (w64 (Int.tmod a2 (6 : Int)))), (52, .agg [.int .i64 y8.Channels, .sl 21 .ro (y8.Data.map (PV.int .i32))]), (10, .ptr (.loc 4 15) 0), (11, .ptr (.loc 4 16) 0), (1, .int .u8 a1), (2, .int .u8 a2), (3, .int .u8 a3), (9, .ptr (.loc 3 3) 0)], [], [((.loc 3 3), [.int .i64 y6.1.Channels, .int .i64 y6.1.Capacity, .int .i64 y6.1.Written, .int .i64 y6.1.Read, .sl 21 .ro (y6.1.Data.map (PV.int .i32))]), ((.loc 4 15), [.int .i64 y7.Channels, .sl 21 .ro (y7.Data.map (PV.int .i32))]), ((.loc 4 16), [.int .i64 0, .sl 21 .full []])]⟩,
      ⟨[(38, .ptr (.loc 3 3) 0), (39, .int .i64 y6.1.Channels), (40, .int .u8 a1), (41, .int .u8 (Int.tmod a1 (6 : Int))), (42, .int .i64 (w64 (Int.tmod a1 (6 : Int)))), (43, .agg [.int .i64 y7.Channels, .sl 21 .ro (y7.Data.map (PV.int .i32))]), (44, .ptr (.loc 3 3) 0), (45, .int .i64 y6.1.Channels), (46, .int .u8 a1), (47, .int .u8 (Int.tmod a1 (6 : Int))), (48, .int .i64 (w64 (Int.tmod a1 (6 : Int)))), (49, .int .u8 a2), (50, .int .u8 (Int.tmod a2 (6 : Int))), (51, .int .i64 (w64 (Int.tmod a2 (6 : Int)))), (52, .agg [.int .i64 y8.Channels, .sl 21 .ro (y8.Data.map (PV.int .i32))]), (10, .ptr (.loc 4 15) 0), (11, .ptr (.loc 4 16) 0), (1, .int .u8 a1), (2, .int .u8 a2), (3, .int .u8 a3), (9, .ptr (.loc 3 3) 0)], [], [((.loc 3 3), [.int .i64 y6.1.Channels, .int .i64 y6.1.Capacity, .int .i64 y6.1.Written, .int .i64 y6.1.Read, .sl 21 .ro (y6.1.Data.map (PV.int .i32))]), ((.loc 4 15), [.int .i64 y7.Channels, .sl 21 .ro (y7.Data.map (PV.int .i32))]), ((.loc 4 16), [.int .i64 y8.Channels, .sl 21 .ro (y8.Data.map (PV.int .i32))])]⟩]
      [(1, .int .u8 a1), (2, .int .u8 a2), (3, .int .u8 a3), (9, .ptr (.loc 3 3) 0)]
      (.cons [9] [] (fun _ _ h => .val (h _)) rfl rfl <|
      .cons [9] [] (fun _ _ h => .val (h _)) rfl rfl <|
      .cons [9] [] (fun _ _ h => .val (h _)) rfl rfl <|
      .cons [9] [] (fun _ _ h => .val (h _)) rfl rfl <|
      .cons [38] [] (fun _ _ h => .val (h _)) rfl rfl <|
      .cons [38] [] (fun _ _ h => .val (h _)) rfl rfl <|
      .cons [38] [] (fun _ _ h => .val (h _)) rfl rfl <|
      .cons [38] [] (fun _ _ h => .val (h _)) rfl rfl <|
      .cons [1] [] (fun _ _ h => .move (h _)) rfl rfl <|
      .cons [1] [] (fun _ _ h => .move (h _)) rfl rfl <|
      .cons [1] [] (fun _ _ h => .move (h _)) rfl rfl <|
      .cons [1] [] (fun _ _ h => .move (h _)) rfl rfl <|
      .cons [40] [] (fun _ _ h => .val (h _) (hc := by decide)) rfl rfl <|
      .cons [40] [] (fun _ _ h => .val (h _) (hc := by decide)) rfl rfl <|
      .cons [40] [] (fun _ _ h => .val (h _) (hc := by decide)) rfl rfl <|
      .cons [40] [] (fun _ _ h => .val (h _) (hc := by decide)) rfl rfl <|
      .cons [41] [] (fun _ _ h => .val (h _)) rfl rfl <|
      .cons [41] [] (fun _ _ h => .val (h _)) rfl rfl <|
      .cons [41] [] (fun _ _ h => .val (h _)) rfl rfl <|
      .cons [41] [] (fun _ _ h => .val (h _)) rfl rfl <|
      .cons [39, 42] [] (fun _ _ h => .cP (g21 hy7) (h _)) rfl rfl <|
      .cons [39, 42] [] (fun _ _ h => .cP (g21 hy7) (h _)) rfl rfl <|
      .cons [39, 42] [] (fun _ _ h => .cP (g21 hy7) (h _)) rfl rfl <|
      .cons [39, 42] [] (fun _ _ h => .cP (g21 hy7) (h _)) rfl rfl <|
      .cons [9] [] (fun _ _ h => .val (h _)) rfl rfl <|
      .cons [9] [] (fun _ _ h => .val (h _)) rfl rfl <|
      .cons [9] [] (fun _ _ h => .val (h _)) rfl rfl <|
      .cons [9] [] (fun _ _ h => .val (h _)) rfl rfl <|
      .cons [44] [] (fun _ _ h => .val (h _)) rfl rfl <|
      .cons [44] [] (fun _ _ h => .val (h _)) rfl rfl <|
      .cons [44] [] (fun _ _ h => .val (h _)) rfl rfl <|
      .cons [44] [] (fun _ _ h => .val (h _)) rfl rfl <|
      .cons [1] [] (fun _ _ h => .move (h _)) rfl rfl <|
      .cons [1] [] (fun _ _ h => .move (h _)) rfl rfl <|
      .cons [1] [] (fun _ _ h => .move (h _)) rfl rfl <|
      .cons [1] [] (fun _ _ h => .move (h _)) rfl rfl <|
      .cons [46] [] (fun _ _ h => .val (h _) (hc := by decide)) rfl rfl <|
      .cons [46] [] (fun _ _ h => .val (h _) (hc := by decide)) rfl rfl <|
      .cons [46] [] (fun _ _ h => .val (h _) (hc := by decide)) rfl rfl <|
      .cons [46] [] (fun _ _ h => .val (h _) (hc := by decide)) rfl rfl <|
      .cons [47] [] (fun _ _ h => .val (h _)) rfl rfl <|
      .cons [47] [] (fun _ _ h => .val (h _)) rfl rfl <|
      .cons [47] [] (fun _ _ h => .val (h _)) rfl rfl <|
      .cons [47] [] (fun _ _ h => .val (h _)) rfl rfl <|
      .cons [2] [] (fun _ _ h => .move (h _)) rfl rfl <|
      .cons [2] [] (fun _ _ h => .move (h _)) rfl rfl <|
      .cons [2] [] (fun _ _ h => .move (h _)) rfl rfl <|
      .cons [2] [] (fun _ _ h => .move (h _)) rfl rfl <|
      .cons [49] [] (fun _ _ h => .val (h _) (hc := by decide)) rfl rfl <|
      .cons [49] [] (fun _ _ h => .val (h _) (hc := by decide)) rfl rfl <|
      .cons [49] [] (fun _ _ h => .val (h _) (hc := by decide)) rfl rfl <|
      .cons [49] [] (fun _ _ h => .val (h _) (hc := by decide)) rfl rfl <|
      .cons [50] [] (fun _ _ h => .val (h _)) rfl rfl <|
      .cons [50] [] (fun _ _ h => .val (h _)) rfl rfl <|
      .cons [50] [] (fun _ _ h => .val (h _)) rfl rfl <|
      .cons [50] [] (fun _ _ h => .val (h _)) rfl rfl <|
      .cons [45, 48, 51] [] (fun _ _ h => .cP (g21 hy8) (h _)) rfl rfl <|
      .cons [45, 48, 51] [] (fun _ _ h => .cP (g21 hy8) (h _)) rfl rfl <|
      .cons [45, 48, 51] [] (fun _ _ h => .cP (g21 hy8) (h _)) rfl rfl <|
      .cons [45, 48, 51] [] (fun _ _ h => .cP (g21 hy8) (h _)) rfl rfl <|
      .nil)
      (.cons (PV.sub (oneSub (.loc 4 15) .kill)) [] [] (fun _ _ h => .allocL (cs := [.int .i64 0, .sl 21 .full []]) (h _ _ (.cons rfl (.cons rfl (.nil))))) rfl (.old rfl (.old rfl (.old rfl (.old rfl (.old rfl (.old rfl (.old rfl (.old rfl (.old rfl (.old rfl (.old rfl (.old rfl (.old rfl (.old rfl (.old rfl (.new rfl (.old rfl (.old rfl (.old rfl (.old rfl (.nil))))))))))))))))))))) rfl rfl <|
      .cons (PV.sub (oneSub (.loc 4 16) .kill)) [] [] (fun _ _ h => .allocL (cs := [.int .i64 0, .sl 21 .full []]) (h _ _ (.cons rfl (.cons rfl (.nil))))) rfl (.old rfl (.old rfl (.old rfl (.old rfl (.old rfl (.old rfl (.old rfl (.old rfl (.old rfl (.old rfl (.old rfl (.old rfl (.old rfl (.old rfl (.old rfl (.new rfl (.old rfl (.old rfl (.old rfl (.old rfl (.nil))))))))))))))))))))) rfl rfl <|
      .cons (PV.sub (oneSub (.loc 4 16) .kill)) [] [] (fun _ _ h => .allocL (cs := [.int .i64 0, .sl 21 .full []]) (h _ _ (.cons rfl (.cons rfl (.cons rfl (.nil)))))) rfl (.old rfl (.old rfl (.old rfl (.old rfl (.old rfl (.old rfl (.old rfl (.old rfl (.old rfl (.old rfl (.old rfl (.old rfl (.old rfl (.old rfl (.old rfl (.old rfl (.new rfl (.old rfl (.old rfl (.old rfl (.old rfl (.nil)))))))))))))))))))))) rfl rfl <|
      .cons (PV.sub (oneSub (.loc 4 15) .kill)) [] [] (fun _ _ h => .allocL (cs := [.int .i64 0, .sl 21 .full []]) (h _ _ (.cons rfl (.cons rfl (.cons rfl (.nil)))))) rfl (.old rfl (.old rfl (.old rfl (.old rfl (.old rfl (.old rfl (.old rfl (.old rfl (.old rfl (.old rfl (.old rfl (.old rfl (.old rfl (.old rfl (.old rfl (.new rfl (.old rfl (.old rfl (.old rfl (.old rfl (.old rfl (.nil)))))))))))))))))))))) rfl rfl <|
      .cons (fun x => x) [10, 43] [] (fun _ _ h => .wrL (cs := [.int .i64 y7.Channels, .sl 21 .ro (y7.Data.map (PV.int .i32))]) (h _ _ (.cons rfl (.cons rfl (.cons rfl (.nil)))))) rfl (.old rfl (.old rfl (.old rfl (.old rfl (.old rfl (.old rfl (.old rfl (.old rfl (.old rfl (.old rfl (.old rfl (.old rfl (.old rfl (.old rfl (.old rfl (.old rfl (.old rfl (.old rfl (.old rfl (.old rfl (.old rfl (.nil)))))))))))))))))))))) rfl rfl <|
      .cons (fun x => x) [11, 52] [] (fun _ _ h => .wrL (cs := [.int .i64 y8.Channels, .sl 21 .ro (y8.Data.map (PV.int .i32))]) (h _ _ (.cons rfl (.cons rfl (.cons rfl (.nil)))))) rfl (.old rfl (.old rfl (.old rfl (.old rfl (.old rfl (.old rfl (.old rfl (.old rfl (.old rfl (.old rfl (.old rfl (.old rfl (.old rfl (.old rfl (.old rfl (.old rfl (.old rfl (.old rfl (.old rfl (.old rfl (.old rfl (.nil)))))))))))))))))))))) rfl rfl <|
      .nil)
      (by kernel_rfl) rfl (.cons rfl (.cons rfl (.cons rfl (.cons rfl (.nil))))) (.nil) (.cons rfl (.nil)) ?_
    refine .imp (T := St.of [(1, .int .u8 a1), (3, .int .u8 a3), (9, .ptr (.loc 3 3) 0), (10, .ptr (.loc 4 15) 0), (11, .ptr (.loc 4 16) 0)] [((.loc 3 3), [.int .i64 y6.1.Channels, .int .i64 y6.1.Capacity, .int .i64 y6.1.Written, .int .i64 y6.1.Read, .sl 21 .ro (y6.1.Data.map (PV.int .i32))]), ((.loc 4 15), [.int .i64 y7.Channels, .sl 21 .ro (y7.Data.map (PV.int .i32))]), ((.loc 4 16), [.int .i64 y8.Channels, .sl 21 .ro (y8.Data.map (PV.int .i32))])]) (imp_of (.cons rfl (.cons rfl (.cons rfl (.cons rfl (.cons rfl (.nil)))))) (.cons rfl (.cons rfl (.cons rfl (.nil))))) ?_
    refine .seq ?_
    refine .region ?_
    refine .val (v := .agg [.int .i64 y6.1.Channels, .int .i64 y6.1.Capacity, .int .i64 y6.1.Written, .int .i64 y6.1.Read, .sl 21 .ro (y6.1.Data.map (PV.int .i32))]) ?_
    refine .val (v := .agg [.int .i64 y7.Channels, .sl 21 .ro (y7.Data.map (PV.int .i32))]) ?_
    obtain ⟨y9, hy9, h⟩ := bindE h
    refine .cP (g16 hy9) ?_
    refine .move ?_
    refine .val ?_
    refine .val ?_
    refine .val ?_
    refine .allocL (cs := [.int .i64 0, .int .i64 0, .int .i64 0, .int .i64 0, .sl 21 .full []]) ?_
    refine .wrL (cs := [.int .i64 y9.1.Channels, .int .i64 y9.1.Capacity, .int .i64 y9.1.Written, .int .i64 y9.1.Read, .sl 21 .ro (y9.1.Data.map (PV.int .i32))]) ?_
    refine .assign ?_
    refine .assign ?_
    refine .nil ?_
    refine .seq ?_
    refine .region ?_
    refine .val (v := .agg [.int .i64 y9.1.Channels, .int .i64 y9.1.Capacity, .int .i64 y9.1.Written, .int .i64 y9.1.Read, .sl 21 .ro (y9.1.Data.map (PV.int .i32))]) ?_
    refine .val (v := .agg [.int .i64 y8.Channels, .sl 21 .ro (y8.Data.map (PV.int .i32))]) ?_
    obtain ⟨y10, hy10, h⟩ := bindE h
    refine .cP (g16 hy10) ?_
    refine .move ?_
    refine .val ?_
    refine .val ?_
    refine .val ?_
    refine .allocL (cs := [.int .i64 0, .int .i64 0, .int .i64 0, .int .i64 0, .sl 21 .full []]) ?_
    refine .wrL (cs := [.int .i64 y10.1.Channels, .int .i64 y10.1.Capacity, .int .i64 y10.1.Written, .int .i64 y10.1.Read, .sl 21 .ro (y10.1.Data.map (PV.int .i32))]) ?_
    refine .assign ?_
    refine .assign ?_
    refine .nil ?_
    refine .seq ?_
    obtain ⟨y11, hy11, h⟩ := bindE h
    obtain ⟨y12, hy12, h⟩ := bindE h
    refine .draw [9, 10] [[], [], [], [], [], [], [], [], [], [], [9], [9, 10], [9, 10]] [[10], [10], [10], [10], [10], [10], [10], [], [], [10], [], [], []] [[], [9], [9, 10]]
      [(0, 0), (0, 1), (1, 0), (1, 1), (2, 0), (2, 1), (3, 0), (3, 1), (4, 0), (4, 1), (5, 0), (5, 1), (6, 0), (6, 1), (7, 0), (7, 1), (7, 2), (8, 0), (8, 1), (8, 2), (11, 2), (12, 2)] [(0, 9, 1), (1, 10, 2)] 2
      [⟨[(68, .agg [.int .i64 y6.1.Channels, .int .i64 y6.1.Capacity, .int .i64 y6.1.Written, .int .i64 y6.1.Read, .sl 21 .ro (y6.1.Data.map (PV.int .i32))]), (69, .agg [.int .i64 y7.Channels, .sl 21 .ro (y7.Data.map (PV.int .i32))]), (70, .agg [.int .i64 y8.Channels, .sl 21 .ro (y8.Data.map (PV.int .i32))]), (71, .agg [.int .i64 y11.Channels, .sl 21 .ro (y11.Data.map (PV.int .i32))]), (72, .tup [.agg [.int .i64 y12.1.Channels, .int .i64 y12.1.Capacity, .int .i64 y12.1.Written, .int .i64 y12.1.Read, .sl 21 .ro (y12.1.Data.map (PV.int .i32))], .int .i64 y12.2.1, .int .i64 y12.2.2]), (67, .tup [.agg [.int .i64 y12.1.Channels, .int .i64 y12.1.Capacity, .int .i64 y12.1.Written, .int .i64 y12.1.Read, .sl 21 .ro (y12.1.Data.map (PV.int .i32))], .int .i64 y12.2.1, .int .i64 y12.2.2]), (73, .agg [.int .i64 y12.1.Channels, .int .i64 y12.1.Capacity, .int .i64 y12.1.Written, .int .i64 y12.1.Read, .sl 21 .ro (y12.1.Data.map (PV.int .i32))]), (74, .int .i64 y12.2.1), (75, .int .i64 y12.2.2), (1, .int .u8 a1), (3, .int .u8 a3), (9, .ptr (.loc 3 3) 0), (10, .ptr (.loc 4 15) 0), (11, .ptr (.loc 4 16) 0), (13, .int .i64 y9.2.1), (14, .int .i64 y9.2.2), (15, .ptr (.loc 6 7) 0), (16, .int .i64 y10.2.1), (17, .int .i64 y10.2.2)], [], [((.loc 3 3), [.int .i64 y6.1.Channels, .int .i64 y6.1.Capacity, .int .i64 y6.1.Written, .int .i64 y6.1.Read, .sl 21 .ro (y6.1.Data.map (PV.int .i32))]), ((.loc 4 15), [.int .i64 y7.Channels, .sl 21 .ro (y7.Data.map (PV.int .i32))]), ((.loc 4 16), [.int .i64 y8.Channels, .sl 21 .ro (y8.Data.map (PV.int .i32))]), ((.loc 6 7), [.int .i64 y10.1.Channels, .int .i64 y10.1.Capacity, .int .i64 y10.1.Written, .int .i64 y10.1.Read, .sl 21 .ro (y10.1.Data.map (PV.int .i32))])]⟩,
      ⟨[(68, .agg [.int .i64 y6.1.Channels, .int .i64 y6.1.Capacity, .int .i64 y6.1.Written, .int .i64 y6.1.Read, .sl 21 .ro (y6.1.Data.map (PV.int .i32))]), (69, .agg [.int .i64 y7.Channels, .sl 21 .ro (y7.Data.map (PV.int .i32))]), (70, .agg [.int .i64 y8.Channels, .sl 21 .ro (y8.Data.map (PV.int .i32))]), (71, .agg [.int .i64 y11.Channels, .sl 21 .ro (y11.Data.map (PV.int .i32))]), (72, .tup [.agg [.int .i64 y12.1.Channels, .int .i64 y12.1.Capacity, .int .i64 y12.1.Written, .int .i64 y12.1.Read, .sl 21 .ro (y12.1.Data.map (PV.int .i32))], .int .i64 y12.2.1, .int .i64 y12.2.2]), (67, .tup [.agg [.int .i64 y12.1.Channels, .int .i64 y12.1.Capacity, .int .i64 y12.1.Written, .int .i64 y12.1.Read, .sl 21 .ro (y12.1.Data.map (PV.int .i32))], .int .i64 y12.2.1, .int .i64 y12.2.2]), (73, .agg [.int .i64 y12.1.Channels, .int .i64 y12.1.Capacity, .int .i64 y12.1.Written, .int .i64 y12.1.Read, .sl 21 .ro (y12.1.Data.map (PV.int .i32))]), (74, .int .i64 y12.2.1), (75, .int .i64 y12.2.2), (18, .ptr (.loc 7 9) 0), (1, .int .u8 a1), (3, .int .u8 a3), (9, .ptr (.loc 3 3) 0), (10, .ptr (.loc 4 15) 0), (11, .ptr (.loc 4 16) 0), (13, .int .i64 y9.2.1), (14, .int .i64 y9.2.2), (15, .ptr (.loc 6 7) 0), (16, .int .i64 y10.2.1), (17, .int .i64 y10.2.2)], [], [((.loc 3 3), [.int .i64 y6.1.Channels, .int .i64 y6.1.Capacity, .int .i64 y6.1.Written, .int .i64 y6.1.Read, .sl 21 .ro (y6.1.Data.map (PV.int .i32))]), ((.loc 4 15), [.int .i64 y7.Channels, .sl 21 .ro (y7.Data.map (PV.int .i32))]), ((.loc 4 16), [.int .i64 y8.Channels, .sl 21 .ro (y8.Data.map (PV.int .i32))]), ((.loc 6 7), [.int .i64 y10.1.Channels, .int .i64 y10.1.Capacity, .int .i64 y10.1.Written, .int .i64 y10.1.Read, .sl 21 .ro (y10.1.Data.map (PV.int .i32))]), ((.loc 7 9), [.int .i64 0, .int .i64 0, .int .i64 0, .int .i64 0, .sl 21 .full []])]⟩,
      ⟨[(68, .agg [.int .i64 y6.1.Channels, .int .i64 y6.1.Capacity, .int .i64 y6.1.Written, .int .i64 y6.1.Read, .sl 21 .ro (y6.1.Data.map (PV.int .i32))]), (69, .agg [.int .i64 y7.Channels, .sl 21 .ro (y7.Data.map (PV.int .i32))]), (70, .agg [.int .i64 y8.Channels, .sl 21 .ro (y8.Data.map (PV.int .i32))]), (71, .agg [.int .i64 y11.Channels, .sl 21 .ro (y11.Data.map (PV.int .i32))]), (72, .tup [.agg [.int .i64 y12.1.Channels, .int .i64 y12.1.Capacity, .int .i64 y12.1.Written, .int .i64 y12.1.Read, .sl 21 .ro (y12.1.Data.map (PV.int .i32))], .int .i64 y12.2.1, .int .i64 y12.2.2]), (67, .tup [.agg [.int .i64 y12.1.Channels, .int .i64 y12.1.Capacity, .int .i64 y12.1.Written, .int .i64 y12.1.Read, .sl 21 .ro (y12.1.Data.map (PV.int .i32))], .int .i64 y12.2.1, .int .i64 y12.2.2]), (73, .agg [.int .i64 y12.1.Channels, .int .i64 y12.1.Capacity, .int .i64 y12.1.Written, .int .i64 y12.1.Read, .sl 21 .ro (y12.1.Data.map (PV.int .i32))]), (74, .int .i64 y12.2.1), (75, .int .i64 y12.2.2), (18, .ptr (.loc 7 9) 0), (19, .int .i64 y12.2.1), (20, .int .i64 y12.2.2), (1, .int .u8 a1), (3, .int .u8 a3), (9, .ptr (.loc 3 3) 0), (10, .ptr (.loc 4 15) 0), (11, .ptr (.loc 4 16) 0), (13, .int .i64 y9.2.1), (14, .int .i64 y9.2.2), (15, .ptr (.loc 6 7) 0), (16, .int .i64 y10.2.1), (17, .int .i64 y10.2.2)], [], [((.loc 3 3), [.int .i64 y6.1.Channels, .int .i64 y6.1.Capacity, .int .i64 y6.1.Written, .int .i64 y6.1.Read, .sl 21 .ro (y6.1.Data.map (PV.int .i32))]), ((.loc 4 15), [.int .i64 y7.Channels, .sl 21 .ro (y7.Data.map (PV.int .i32))]), ((.loc 4 16), [.int .i64 y8.Channels, .sl 21 .ro (y8.Data.map (PV.int .i32))]), ((.loc 6 7), [.int .i64 y10.1.Channels, .int .i64 y10.1.Capacity, .int .i64 y10.1.Written, .int .i64 y10.1.Read, .sl 21 .ro (y10.1.Data.map (PV.int .i32))]), ((.loc 7 9), [.int .i64 y12.1.Channels, .int .i64 y12.1.Capacity, .int .i64 y12.1.Written, .int .i64 y12.1.Read, .sl 21 .ro (y12.1.Data.map (PV.int .i32))])]⟩]
      [(1, .int .u8 a1), (3, .int .u8 a3), (9, .ptr (.loc 3 3) 0), (10, .ptr (.loc 4 15) 0), (11, .ptr (.loc 4 16) 0), (13, .int .i64 y9.2.1), (14, .int .i64 y9.2.2), (15, .ptr (.loc 6 7) 0), (16, .int .i64 y10.2.1), (17, .int .i64 y10.2.2)]
      (.cons [9] [] (fun _ _ h => .val (h _)) rfl rfl <|
      .cons [9] [] (fun _ _ h => .val (h _)) rfl rfl <|
      .cons [10] [] (fun _ _ h => .val (h _)) rfl rfl <|
      .cons [10] [] (fun _ _ h => .val (h _)) rfl rfl <|
      .cons [11] [] (fun _ _ h => .val (h _)) rfl rfl <|
      .cons [11] [] (fun _ _ h => .val (h _)) rfl rfl <|
      .cons [69, 70] [] (fun _ _ h => .cP (g22 hy11) (h _)) rfl rfl <|
      .cons [69, 70] [] (fun _ _ h => .cP (g22 hy11) (h _)) rfl rfl <|
      .cons [68, 71] [] (fun _ _ h => .cP (g16 hy12) (h _)) rfl rfl <|
      .cons [68, 71] [] (fun _ _ h => .cP (g16 hy12) (h _)) rfl rfl <|
      .cons [72] [] (fun _ _ h => .move (h _)) rfl rfl <|
      .cons [72] [] (fun _ _ h => .move (h _)) rfl rfl <|
      .cons [67] [] (fun _ _ h => .val (h _)) rfl rfl <|
      .cons [67] [] (fun _ _ h => .val (h _)) rfl rfl <|
      .cons [67] [] (fun _ _ h => .val (h _)) rfl rfl <|
      .cons [67] [] (fun _ _ h => .val (h _)) rfl rfl <|
      .cons [67] [] (fun _ _ h => .val (h _)) rfl rfl <|
      .cons [67] [] (fun _ _ h => .val (h _)) rfl rfl <|
      .cons [67] [] (fun _ _ h => .val (h _)) rfl rfl <|
      .cons [67] [] (fun _ _ h => .val (h _)) rfl rfl <|
      .cons [74] [] (fun _ _ h => .assign (h _)) rfl rfl <|
      .cons [75] [] (fun _ _ h => .assign (h _)) rfl rfl <|
      .nil)
      (.cons (PV.sub (oneSub (.loc 7 9) .kill)) [] [] (fun _ _ h => .allocL (cs := [.int .i64 0, .int .i64 0, .int .i64 0, .int .i64 0, .sl 21 .full []]) (h _ _ (.cons rfl (.cons rfl (.cons rfl (.cons rfl (.cons rfl (.nil)))))))) rfl (.old rfl (.old rfl (.old rfl (.old rfl (.old rfl (.old rfl (.old rfl (.old rfl (.old rfl (.new rfl (.old rfl (.old rfl (.old rfl (.old rfl (.old rfl (.old rfl (.old rfl (.old rfl (.old rfl (.old rfl (.nil))))))))))))))))))))) rfl rfl <|
      .cons (fun x => x) [18, 73] [] (fun _ _ h => .wrL (cs := [.int .i64 y12.1.Channels, .int .i64 y12.1.Capacity, .int .i64 y12.1.Written, .int .i64 y12.1.Read, .sl 21 .ro (y12.1.Data.map (PV.int .i32))]) (h _ _ (.cons rfl (.cons rfl (.cons rfl (.cons rfl (.cons rfl (.nil)))))))) rfl (.old rfl (.old rfl (.old rfl (.old rfl (.old rfl (.old rfl (.old rfl (.old rfl (.old rfl (.old rfl (.new rfl (.new rfl (.old rfl (.old rfl (.old rfl (.old rfl (.old rfl (.old rfl (.old rfl (.old rfl (.old rfl (.old rfl (.nil))))))))))))))))))))))) rfl rfl <|
      .nil)
      (by kernel_rfl) rfl (.cons rfl (.cons rfl (.cons rfl (.cons rfl (.cons rfl (.cons rfl (.cons rfl (.cons rfl (.cons rfl (.cons rfl (.nil))))))))))) (.nil) (.cons rfl (.cons rfl (.cons rfl (.cons rfl (.nil))))) ?_
    refine .imp (T := St.of [(1, .int .u8 a1), (3, .int .u8 a3), (13, .int .i64 y9.2.1), (14, .int .i64 y9.2.2), (15, .ptr (.loc 6 7) 0), (16, .int .i64 y10.2.1), (17, .int .i64 y10.2.2), (18, .ptr (.loc 7 9) 0), (19, .int .i64 y12.2.1), (20, .int .i64 y12.2.2)] [((.loc 6 7), [.int .i64 y10.1.Channels, .int .i64 y10.1.Capacity, .int .i64 y10.1.Written, .int .i64 y10.1.Read, .sl 21 .ro (y10.1.Data.map (PV.int .i32))]), ((.loc 7 9), [.int .i64 y12.1.Channels, .int .i64 y12.1.Capacity, .int .i64 y12.1.Written, .int .i64 y12.1.Read, .sl 21 .ro (y12.1.Data.map (PV.int .i32))])]) (imp_of (.cons rfl (.cons rfl (.cons rfl (.cons rfl (.cons rfl (.cons rfl (.cons rfl (.cons rfl (.cons rfl (.cons rfl (.nil))))))))))) (.cons rfl (.cons rfl (.nil)))) ?_
    obtain ⟨j24, hj24, h⟩ := joinE h
    refine .cutI (fun T => (T = St.of [(1, .int .u8 a1), (3, .int .u8 a3), (18, .ptr (.loc 7 9) 0)] [((.loc 7 9), [.int .i64 y12.1.Channels, .int .i64 y12.1.Capacity, .int .i64 y12.1.Written, .int .i64 y12.1.Read, .sl 21 .ro (y12.1.Data.map (PV.int .i32))])] ∧ j24 () = some r)) ?_ ?_
    · obtain ⟨j31, hj31, h⟩ := joinE h
      obtain ⟨j33, hj33, h⟩ := joinE h
      obtain ⟨j34, hj34, h⟩ := joinE h
      refine .cutI (fun T => (T = St.of [(1, .int .u8 a1), (3, .int .u8 a3), (18, .ptr (.loc 7 9) 0), (102, .bool true)] [((.loc 7 9), [.int .i64 y12.1.Channels, .int .i64 y12.1.Capacity, .int .i64 y12.1.Written, .int .i64 y12.1.Read, .sl 21 .ro (y12.1.Data.map (PV.int .i32))])] ∧ j31 () = some r) ∨ (∃ (v32 : Bool), T = St.of [(1, .int .u8 a1), (3, .int .u8 a3), (18, .ptr (.loc 7 9) 0), (102, .bool v32)] [((.loc 7 9), [.int .i64 y12.1.Channels, .int .i64 y12.1.Capacity, .int .i64 y12.1.Written, .int .i64 y12.1.Read, .sl 21 .ro (y12.1.Data.map (PV.int .i32))])] ∧ j33 v32 = some r) ∨ (T = St.of [(1, .int .u8 a1), (3, .int .u8 a3), (18, .ptr (.loc 7 9) 0), (102, .bool false)] [((.loc 7 9), [.int .i64 y12.1.Channels, .int .i64 y12.1.Capacity, .int .i64 y12.1.Written, .int .i64 y12.1.Read, .sl 21 .ro (y12.1.Data.map (PV.int .i32))])] ∧ j34 () = some r)) ?_ ?_
      · refine .region ?_
        refine .move ?_
        refine .val ?_
        refine .move ?_
        refine .caseG (fun hc35 => ?_) (fun hc35 => ?_)
        · replace h := (if_pos hc35).symm.trans h
          refine .skip ?_
          refine .skip ?_
          refine .brT ?_
          refine .move ?_
          refine .skip ?_
          refine .skip ?_
          refine .brT ?_
          refine .move ?_
          refine .skip ?_
          refine .skip ?_
          refine .skip ?_
          refine .skip ?_
          refine .skip ?_
          refine .brT ?_
          refine .move ?_
          refine .skip ?_
          refine .skip ?_
          refine .skip ?_
          refine .skip ?_
          refine .skip ?_
          refine .skip ?_
          refine .skip ?_
          refine .skip ?_
          refine .brT ?_
          refine .nil ?_
          exact ⟨_, (.inl ⟨rfl, h⟩), (imp_of (.cons rfl (.cons rfl (.cons rfl (.cons rfl (.nil))))) (.cons rfl (.nil)))⟩
        · replace h := (if_neg (nt hc35)).symm.trans h
          refine .move ?_
          refine .val ?_
          refine .brF ?_
          refine .move ?_
          refine .caseG (fun hc36 => ?_) (fun hc36 => ?_)
          · replace h := (if_pos hc36).symm.trans h
            refine .skip ?_
            refine .skip ?_
            refine .brT ?_
            refine .move ?_
            refine .skip ?_
            refine .skip ?_
            refine .skip ?_
            refine .skip ?_
            refine .skip ?_
            refine .brT ?_
            refine .move ?_
            refine .skip ?_
            refine .skip ?_
            refine .skip ?_
            refine .skip ?_
            refine .skip ?_
            refine .skip ?_
            refine .skip ?_
            refine .skip ?_
            refine .brT ?_
            refine .nil ?_
            exact ⟨_, (.inl ⟨rfl, h⟩), (imp_of (.cons rfl (.cons rfl (.cons rfl (.cons rfl (.nil))))) (.cons rfl (.nil)))⟩
          · replace h := (if_neg (nt hc36)).symm.trans h
            refine .move ?_
            refine .val ?_
            refine .brF ?_
            refine .move ?_
            refine .caseG (fun hc37 => ?_) (fun hc37 => ?_)
            · replace h := (if_pos hc37).symm.trans h
              refine .skip ?_
              refine .skip ?_
              refine .skip ?_
              refine .skip ?_
              refine .skip ?_
              refine .brT ?_
              refine .move ?_
              refine .skip ?_
              refine .skip ?_
              refine .skip ?_
              refine .skip ?_
              refine .skip ?_
              refine .skip ?_
              refine .skip ?_
              refine .skip ?_
              refine .brT ?_
              refine .nil ?_
              exact ⟨_, (.inl ⟨rfl, h⟩), (imp_of (.cons rfl (.cons rfl (.cons rfl (.cons rfl (.nil))))) (.cons rfl (.nil)))⟩
            · replace h := (if_neg (nt hc37)).symm.trans h
              refine .move ?_
              refine .move ?_
              refine .val ?_
              refine .move ?_
              refine .val ?_
              refine .brF ?_
              refine .move ?_
              refine .caseG (fun hc38 => ?_) (fun hc38 => ?_)
              · replace h := (if_pos hc38).symm.trans h
                refine .skip ?_
                refine .skip ?_
                refine .skip ?_
                refine .skip ?_
                refine .skip ?_
                refine .skip ?_
                refine .skip ?_
                refine .skip ?_
                refine .brT ?_
                refine .nil ?_
                exact ⟨_, (.inl ⟨rfl, h⟩), (imp_of (.cons rfl (.cons rfl (.cons rfl (.cons rfl (.nil))))) (.cons rfl (.nil)))⟩
              · replace h := (if_neg (nt hc38)).symm.trans h
                refine .move ?_
                refine .val ?_
                refine .move ?_
                refine .caseG (fun hc39 => ?_) (fun hc39 => ?_)
                · replace h := (if_pos hc39).symm.trans h
                  refine .val (v := .agg [.int .i64 y10.1.Channels, .int .i64 y10.1.Capacity, .int .i64 y10.1.Written, .int .i64 y10.1.Read, .sl 21 .ro (y10.1.Data.map (PV.int .i32))]) ?_
                  refine .val (v := .agg [.int .i64 y12.1.Channels, .int .i64 y12.1.Capacity, .int .i64 y12.1.Written, .int .i64 y12.1.Read, .sl 21 .ro (y12.1.Data.map (PV.int .i32))]) ?_
                  obtain ⟨y40, hy40, h⟩ := bindE h
                  refine .cP (g23 hy40) ?_
                  refine .val ?_
                  refine .brT ?_
                  refine .brF ?_
                  refine .nil ?_
                  exact ⟨_, (.inr (.inl ⟨_, rfl, h⟩)), (imp_of (.cons rfl (.cons rfl (.cons rfl (.cons rfl (.nil))))) (.cons rfl (.nil)))⟩
                · replace h := (if_neg (nt hc39)).symm.trans h
                  refine .skip ?_
                  refine .skip ?_
                  refine .skip ?_
                  refine .skip ?_
                  refine .brF ?_
                  refine .brF ?_
                  refine .nil ?_
                  exact ⟨_, (.inr (.inr (⟨rfl, h⟩))), (imp_of (.cons rfl (.cons rfl (.cons rfl (.cons rfl (.nil))))) (.cons rfl (.nil)))⟩
      · rintro T (⟨rfl, h⟩ | ⟨v32, rfl, h⟩ | ⟨rfl, h⟩)
        · subst hj31
          refine .condT ?_
          refine .seq ?_
          refine .region ?_
          refine .assign ?_
          refine .nil ?_
          cases h
          exact .ret (fin_gen0 none)
        · subst hj33
          refine .cond (fun hc41 => ?_) (fun hc41 => ?_)
          · replace h := (if_pos hc41).symm.trans h
            refine .seq ?_
            refine .region ?_
            refine .assign ?_
            refine .nil ?_
            cases h
            exact .ret (fin_gen0 none)
          · replace h := (if_neg (nt hc41)).symm.trans h
            refine .skip ?_
            exact ⟨_, ⟨rfl, h⟩, (imp_of (.cons rfl (.cons rfl (.cons rfl (.nil)))) (.cons rfl (.nil)))⟩
        · subst hj34
          refine .condF ?_
          refine .skip ?_
          exact ⟨_, ⟨rfl, h⟩, (imp_of (.cons rfl (.cons rfl (.cons rfl (.nil)))) (.cons rfl (.nil)))⟩
    · rintro T ⟨rfl, h⟩
      subst hj24
      refine .seq ?_
      refine .region ?_
      refine .val (v := .agg [.int .i64 y12.1.Channels, .int .i64 y12.1.Capacity, .int .i64 y12.1.Written, .int .i64 y12.1.Read, .sl 21 .ro (y12.1.Data.map (PV.int .i32))]) ?_
      refine .move ?_
      refine .val ?_ (hc := by decide)
      refine .val ?_
      obtain ⟨y42, hy42, h⟩ := bindE h
      refine .cP (g17 hy42) ?_
      refine .move ?_
      refine .val ?_
      refine .val ?_
      refine .val ?_
      refine .val ?_
      refine .allocL (cs := [.int .i64 0, .sl 21 .full []]) ?_
      refine .allocL (cs := [.int .i64 0, .int .i64 0, .int .i64 0, .int .i64 0, .sl 21 .full []]) ?_
      refine .wrL (cs := [.int .i64 y42.1.Channels, .sl 21 .ro (y42.1.Data.map (PV.int .i32))]) ?_
      refine .assign ?_
      refine .wrL (cs := [.int .i64 y42.2.2.1.Channels, .int .i64 y42.2.2.1.Capacity, .int .i64 y42.2.2.1.Written, .int .i64 y42.2.2.1.Read, .sl 21 .ro (y42.2.2.1.Data.map (PV.int .i32))]) ?_
      refine .assign ?_
      refine .nil ?_
      refine .seq ?_
      refine .region ?_
      refine .val (v := .agg [.int .i64 y42.2.2.1.Channels, .int .i64 y42.2.2.1.Capacity, .int .i64 y42.2.2.1.Written, .int .i64 y42.2.2.1.Read, .sl 21 .ro (y42.2.2.1.Data.map (PV.int .i32))]) ?_
      refine .move ?_
      refine .val ?_ (hc := by decide)
      refine .val ?_
      obtain ⟨y43, hy43, h⟩ := bindE h
      refine .cP (g17 hy43) ?_
      refine .move ?_
      refine .val ?_
      refine .val ?_
      refine .val ?_
      refine .val ?_
      refine .allocL (cs := [.int .i64 0, .sl 21 .full []]) ?_
      refine .allocL (cs := [.int .i64 0, .int .i64 0, .int .i64 0, .int .i64 0, .sl 21 .full []]) ?_
      refine .wrL (cs := [.int .i64 y43.1.Channels, .sl 21 .ro (y43.1.Data.map (PV.int .i32))]) ?_
      refine .assign ?_
      refine .wrL (cs := [.int .i64 y43.2.2.1.Channels, .int .i64 y43.2.2.1.Capacity, .int .i64 y43.2.2.1.Written, .int .i64 y43.2.2.1.Read, .sl 21 .ro (y43.2.2.1.Data.map (PV.int .i32))]) ?_
      refine .assign ?_
      refine .nil ?_
      refine .imp (T := St.of [(1, .int .u8 a1), (3, .int .u8 a3), (18, .ptr (.loc 7 9) 0), (21, .ptr (.loc 10 10) 0), (22, .int .i64 y42.2.1), (24, .int .i64 y42.2.2.2), (25, .ptr (.loc 11 10) 0), (26, .int .i64 y43.2.1), (27, .ptr (.loc 11 11) 0), (28, .int .i64 y43.2.2.2)] [((.loc 7 9), [.int .i64 y12.1.Channels, .int .i64 y12.1.Capacity, .int .i64 y12.1.Written, .int .i64 y12.1.Read, .sl 21 .ro (y12.1.Data.map (PV.int .i32))]), ((.loc 10 10), [.int .i64 y42.1.Channels, .sl 21 .ro (y42.1.Data.map (PV.int .i32))]), ((.loc 11 10), [.int .i64 y43.1.Channels, .sl 21 .ro (y43.1.Data.map (PV.int .i32))]), ((.loc 11 11), [.int .i64 y43.2.2.1.Channels, .int .i64 y43.2.2.1.Capacity, .int .i64 y43.2.2.1.Written, .int .i64 y43.2.2.1.Read, .sl 21 .ro (y43.2.2.1.Data.map (PV.int .i32))])]) (imp_of (.cons rfl (.cons rfl (.cons rfl (.cons rfl (.cons rfl (.cons rfl (.cons rfl (.cons rfl (.cons rfl (.cons rfl (.nil))))))))))) (.cons rfl (.cons rfl (.cons rfl (.cons rfl (.nil)))))) ?_
      refine .seq ?_
      refine .region ?_
      refine .val (v := .agg [.int .i64 y12.1.Channels, .int .i64 y12.1.Capacity, .int .i64 y12.1.Written, .int .i64 y12.1.Read, .sl 21 .ro (y12.1.Data.map (PV.int .i32))]) ?_
      refine .move ?_
      refine .val ?_ (hc := by decide)
      refine .val ?_
      refine .move ?_
      refine .val ?_ (hc := by decide)
      refine .val ?_
      refine .val ?_
      obtain ⟨y44, hy44, h⟩ := bindE h
      refine .cP (g17 hy44) ?_
      refine .move ?_
      refine .val ?_
      refine .val ?_
      refine .val ?_
      refine .val ?_
      refine .allocL (cs := [.int .i64 0, .sl 21 .full []]) ?_
      refine .allocL (cs := [.int .i64 0, .int .i64 0, .int .i64 0, .int .i64 0, .sl 21 .full []]) ?_
      refine .wrL (cs := [.int .i64 y44.1.Channels, .sl 21 .ro (y44.1.Data.map (PV.int .i32))]) ?_
      refine .assign ?_
      refine .wrL (cs := [.int .i64 y44.2.2.1.Channels, .int .i64 y44.2.2.1.Capacity, .int .i64 y44.2.2.1.Written, .int .i64 y44.2.2.1.Read, .sl 21 .ro (y44.2.2.1.Data.map (PV.int .i32))]) ?_
      refine .assign ?_
      refine .nil ?_
      refine .seq ?_
      rcases bool_em ((y42.2.2.2 == (0 : Int))) with hc53 | hc53
      · replace h := (if_pos hc53).symm.trans h
        rcases bool_em ((y43.2.2.2 == (0 : Int))) with hc54 | hc54
        · replace h := (if_pos hc54).symm.trans h
          rcases bool_em ((y44.2.2.2 == (0 : Int))) with hc55 | hc55
          · replace h := (if_pos hc55).symm.trans h
            rcases bool_em (((w64 (y42.2.1 + y43.2.1)) == y44.2.1)) with hc56 | hc56
            · replace h := (if_pos hc56).symm.trans h
              obtain ⟨y57, hy57, h⟩ := bindE h
              rcases bool_em (y57) with hc58 | hc58
              · replace h := (if_pos hc58).symm.trans h
                obtain ⟨y59, hy59, h⟩ := bindE h
                obtain ⟨y60, hy60, h⟩ := bindE h
                refine .draw [] [[], [], [], [], [], [], [], [], [], [], [], [], [], [], [], [], [], [], [], [], [], [], [], [], [], [], [], [], [], []] [[], [], [], [], [], [], [], [], [], [], [], [], [], [], [], [], [], [], [], [], [], [], [], [], [], [], [], [], [], []] [[]]
                  [(0, 0), (1, 0), (2, 0), (3, 0), (4, 0), (5, 0), (6, 0), (7, 0), (8, 0), (9, 0), (10, 0), (11, 0), (12, 0), (13, 0), (14, 0), (15, 0), (16, 0), (17, 0), (18, 0), (19, 0), (20, 0), (21, 0), (22, 0), (23, 0), (24, 0), (25, 0), (26, 0), (27, 0), (28, 0), (29, 0)] [] 0
                  [⟨[(137, .int .i64 y42.2.2.2), (138, .bool true), (139, .bool true), (140, .int .i64 y43.2.2.2), (141, .bool true), (142, .bool true), (143, .bool true), (144, .int .i64 y44.2.2.2), (145, .bool true), (146, .bool true), (147, .bool true), (148, .int .i64 y42.2.1), (149, .int .i64 y43.2.1), (150, .int .i64 (w64 (y42.2.1 + y43.2.1))), (151, .int .i64 y44.2.1), (152, .bool true), (153, .bool true), (154, .bool true), (155, .agg [.int .i64 y43.2.2.1.Channels, .int .i64 y43.2.2.1.Capacity, .int .i64 y43.2.2.1.Written, .int .i64 y43.2.2.1.Read, .sl 21 .ro (y43.2.2.1.Data.map (PV.int .i32))]), (156, .agg [.int .i64 y44.2.2.1.Channels, .int .i64 y44.2.2.1.Capacity, .int .i64 y44.2.2.1.Written, .int .i64 y44.2.2.1.Read, .sl 21 .ro (y44.2.2.1.Data.map (PV.int .i32))]), (157, .bool true), (158, .bool true), (159, .bool true), (160, .agg [.int .i64 y42.1.Channels, .sl 21 .ro (y42.1.Data.map (PV.int .i32))]), (161, .agg [.int .i64 y43.1.Channels, .sl 21 .ro (y43.1.Data.map (PV.int .i32))]), (162, .agg [.int .i64 y59.Channels, .sl 21 .ro (y59.Data.map (PV.int .i32))]), (163, .agg [.int .i64 y44.1.Channels, .sl 21 .ro (y44.1.Data.map (PV.int .i32))]), (164, .bool y60), (165, .bool y60), (8, .bool y60), (21, .ptr (.loc 10 10) 0), (22, .int .i64 y42.2.1), (24, .int .i64 y42.2.2.2), (25, .ptr (.loc 11 10) 0), (26, .int .i64 y43.2.1), (27, .ptr (.loc 11 11) 0), (28, .int .i64 y43.2.2.2), (29, .ptr (.loc 12 14) 0), (30, .int .i64 y44.2.1), (31, .ptr (.loc 12 15) 0), (32, .int .i64 y44.2.2.2)], [], [((.loc 10 10), [.int .i64 y42.1.Channels, .sl 21 .ro (y42.1.Data.map (PV.int .i32))]), ((.loc 11 10), [.int .i64 y43.1.Channels, .sl 21 .ro (y43.1.Data.map (PV.int .i32))]), ((.loc 11 11), [.int .i64 y43.2.2.1.Channels, .int .i64 y43.2.2.1.Capacity, .int .i64 y43.2.2.1.Written, .int .i64 y43.2.2.1.Read, .sl 21 .ro (y43.2.2.1.Data.map (PV.int .i32))]), ((.loc 12 14), [.int .i64 y44.1.Channels, .sl 21 .ro (y44.1.Data.map (PV.int .i32))]), ((.loc 12 15), [.int .i64 y44.2.2.1.Channels, .int .i64 y44.2.2.1.Capacity, .int .i64 y44.2.2.1.Written, .int .i64 y44.2.2.1.Read, .sl 21 .ro (y44.2.2.1.Data.map (PV.int .i32))])]⟩]
                  [(21, .ptr (.loc 10 10) 0), (22, .int .i64 y42.2.1), (24, .int .i64 y42.2.2.2), (25, .ptr (.loc 11 10) 0), (26, .int .i64 y43.2.1), (27, .ptr (.loc 11 11) 0), (28, .int .i64 y43.2.2.2), (29, .ptr (.loc 12 14) 0), (30, .int .i64 y44.2.1), (31, .ptr (.loc 12 15) 0), (32, .int .i64 y44.2.2.2)]
                  (.cons [24] [] (fun _ _ h => .move (h _)) rfl rfl <|
                  .cons [137] [] (fun _ _ h => .valB hc53 (h _)) rfl rfl <|
                  .cons [138] [] (fun _ _ h => .move (h _)) rfl rfl <|
                  .cons [28, 139] [] (fun _ _ h => .move (h _)) rfl rfl <|
                  .cons [140, 139] [] (fun _ _ h => .valB hc54 (h _)) rfl rfl <|
                  .cons [139, 141] [] (fun _ _ h => .brT (h _)) rfl rfl <|
                  .cons [142] [] (fun _ _ h => .move (h _)) rfl rfl <|
                  .cons [32, 143] [] (fun _ _ h => .move (h _)) rfl rfl <|
                  .cons [144, 143] [] (fun _ _ h => .valB hc55 (h _)) rfl rfl <|
                  .cons [143, 145] [] (fun _ _ h => .brT (h _)) rfl rfl <|
                  .cons [146] [] (fun _ _ h => .move (h _)) rfl rfl <|
                  .cons [22, 147] [] (fun _ _ h => .move (h _)) rfl rfl <|
                  .cons [26, 147] [] (fun _ _ h => .move (h _)) rfl rfl <|
                  .cons [148, 149, 147] [] (fun _ _ h => .val (h _)) rfl rfl <|
                  .cons [30, 147] [] (fun _ _ h => .move (h _)) rfl rfl <|
                  .cons [150, 151, 147] [] (fun _ _ h => .valB hc56 (h _)) rfl rfl <|
                  .cons [147, 152] [] (fun _ _ h => .brT (h _)) rfl rfl <|
                  .cons [153] [] (fun _ _ h => .move (h _)) rfl rfl <|
                  .cons [27, 154] [] (fun _ _ h => .val (h _)) rfl rfl <|
                  .cons [31, 154] [] (fun _ _ h => .val (h _)) rfl rfl <|
                  .cons [155, 156, 154] [] (fun _ _ h => .cP (g23 hy57) (by rw [hc58]; exact h _)) rfl rfl <|
                  .cons [154, 157] [] (fun _ _ h => .brT (h _)) rfl rfl <|
                  .cons [158] [] (fun _ _ h => .move (h _)) rfl rfl <|
                  .cons [21, 159] [] (fun _ _ h => .val (h _)) rfl rfl <|
                  .cons [25, 159] [] (fun _ _ h => .val (h _)) rfl rfl <|
                  .cons [160, 161, 159] [] (fun _ _ h => .cP (g22 hy59) (h _)) rfl rfl <|
                  .cons [29, 159] [] (fun _ _ h => .val (h _)) rfl rfl <|
                  .cons [162, 163, 159] [] (fun _ _ h => .cP (g24 hy60) (h _)) rfl rfl <|
                  .cons [159, 164] [] (fun _ _ h => .brT (h _)) rfl rfl <|
                  .cons [165] [] (fun _ _ h => .assign (h _)) rfl rfl <|
                  .nil)
                  (.nil)
                  (by kernel_rfl) rfl (.cons rfl (.cons rfl (.cons rfl (.cons rfl (.cons rfl (.cons rfl (.cons rfl (.cons rfl (.cons rfl (.cons rfl (.cons rfl (.nil)))))))))))) (.nil) (.cons rfl (.cons rfl (.cons rfl (.cons rfl (.cons rfl (.nil)))))) ?_
                cases h
                exact .ret (fin_gen0 none)
              · replace h := (if_neg (nt hc58)).symm.trans h
                refine .draw [] [[], [], [], [], [], [], [], [], [], [], [], [], [], [], [], [], [], [], [], [], [], [], [], [], [], [], [], [], [], []] [[], [], [], [], [], [], [], [], [], [], [], [], [], [], [], [], [], [], [], [], [], [], [], [], [], [], [], [], [], []] [[]]
                  [(0, 0), (1, 0), (2, 0), (3, 0), (4, 0), (5, 0), (6, 0), (7, 0), (8, 0), (9, 0), (10, 0), (11, 0), (12, 0), (13, 0), (14, 0), (15, 0), (16, 0), (17, 0), (18, 0), (19, 0), (20, 0), (21, 0), (22, 0), (23, 0), (24, 0), (25, 0), (26, 0), (27, 0), (28, 0), (29, 0)] [] 0
                  [⟨[(137, .int .i64 y42.2.2.2), (138, .bool true), (139, .bool true), (140, .int .i64 y43.2.2.2), (141, .bool true), (142, .bool true), (143, .bool true), (144, .int .i64 y44.2.2.2), (145, .bool true), (146, .bool true), (147, .bool true), (148, .int .i64 y42.2.1), (149, .int .i64 y43.2.1), (150, .int .i64 (w64 (y42.2.1 + y43.2.1))), (151, .int .i64 y44.2.1), (152, .bool true), (153, .bool true), (154, .bool true), (155, .agg [.int .i64 y43.2.2.1.Channels, .int .i64 y43.2.2.1.Capacity, .int .i64 y43.2.2.1.Written, .int .i64 y43.2.2.1.Read, .sl 21 .ro (y43.2.2.1.Data.map (PV.int .i32))]), (156, .agg [.int .i64 y44.2.2.1.Channels, .int .i64 y44.2.2.1.Capacity, .int .i64 y44.2.2.1.Written, .int .i64 y44.2.2.1.Read, .sl 21 .ro (y44.2.2.1.Data.map (PV.int .i32))]), (157, .bool false), (158, .bool false), (159, .bool false), (160, .tup []), (161, .tup []), (162, .tup []), (163, .tup []), (164, .tup []), (165, .bool false), (8, .bool false), (21, .ptr (.loc 10 10) 0), (22, .int .i64 y42.2.1), (24, .int .i64 y42.2.2.2), (25, .ptr (.loc 11 10) 0), (26, .int .i64 y43.2.1), (27, .ptr (.loc 11 11) 0), (28, .int .i64 y43.2.2.2), (29, .ptr (.loc 12 14) 0), (30, .int .i64 y44.2.1), (31, .ptr (.loc 12 15) 0), (32, .int .i64 y44.2.2.2)], [], [((.loc 10 10), [.int .i64 y42.1.Channels, .sl 21 .ro (y42.1.Data.map (PV.int .i32))]), ((.loc 11 10), [.int .i64 y43.1.Channels, .sl 21 .ro (y43.1.Data.map (PV.int .i32))]), ((.loc 11 11), [.int .i64 y43.2.2.1.Channels, .int .i64 y43.2.2.1.Capacity, .int .i64 y43.2.2.1.Written, .int .i64 y43.2.2.1.Read, .sl 21 .ro (y43.2.2.1.Data.map (PV.int .i32))]), ((.loc 12 14), [.int .i64 y44.1.Channels, .sl 21 .ro (y44.1.Data.map (PV.int .i32))]), ((.loc 12 15), [.int .i64 y44.2.2.1.Channels, .int .i64 y44.2.2.1.Capacity, .int .i64 y44.2.2.1.Written, .int .i64 y44.2.2.1.Read, .sl 21 .ro (y44.2.2.1.Data.map (PV.int .i32))])]⟩]
                  [(21, .ptr (.loc 10 10) 0), (22, .int .i64 y42.2.1), (24, .int .i64 y42.2.2.2), (25, .ptr (.loc 11 10) 0), (26, .int .i64 y43.2.1), (27, .ptr (.loc 11 11) 0), (28, .int .i64 y43.2.2.2), (29, .ptr (.loc 12 14) 0), (30, .int .i64 y44.2.1), (31, .ptr (.loc 12 15) 0), (32, .int .i64 y44.2.2.2)]
                  (.cons [24] [] (fun _ _ h => .move (h _)) rfl rfl <|
                  .cons [137] [] (fun _ _ h => .valB hc53 (h _)) rfl rfl <|
                  .cons [138] [] (fun _ _ h => .move (h _)) rfl rfl <|
                  .cons [28, 139] [] (fun _ _ h => .move (h _)) rfl rfl <|
                  .cons [140, 139] [] (fun _ _ h => .valB hc54 (h _)) rfl rfl <|
                  .cons [139, 141] [] (fun _ _ h => .brT (h _)) rfl rfl <|
                  .cons [142] [] (fun _ _ h => .move (h _)) rfl rfl <|
                  .cons [32, 143] [] (fun _ _ h => .move (h _)) rfl rfl <|
                  .cons [144, 143] [] (fun _ _ h => .valB hc55 (h _)) rfl rfl <|
                  .cons [143, 145] [] (fun _ _ h => .brT (h _)) rfl rfl <|
                  .cons [146] [] (fun _ _ h => .move (h _)) rfl rfl <|
                  .cons [22, 147] [] (fun _ _ h => .move (h _)) rfl rfl <|
                  .cons [26, 147] [] (fun _ _ h => .move (h _)) rfl rfl <|
                  .cons [148, 149, 147] [] (fun _ _ h => .val (h _)) rfl rfl <|
                  .cons [30, 147] [] (fun _ _ h => .move (h _)) rfl rfl <|
                  .cons [150, 151, 147] [] (fun _ _ h => .valB hc56 (h _)) rfl rfl <|
                  .cons [147, 152] [] (fun _ _ h => .brT (h _)) rfl rfl <|
                  .cons [153] [] (fun _ _ h => .move (h _)) rfl rfl <|
                  .cons [27, 154] [] (fun _ _ h => .val (h _)) rfl rfl <|
                  .cons [31, 154] [] (fun _ _ h => .val (h _)) rfl rfl <|
                  .cons [155, 156, 154] [] (fun _ _ h => .cP (g23 hy57) (by rw [hc58]; exact h _)) rfl rfl <|
                  .cons [154, 157] [] (fun _ _ h => .brT (h _)) rfl rfl <|
                  .cons [158] [] (fun _ _ h => .move (h _)) rfl rfl <|
                  .cons [159] [] (fun _ _ h => .skip (h _)) rfl rfl <|
                  .cons [159] [] (fun _ _ h => .skip (h _)) rfl rfl <|
                  .cons [159] [] (fun _ _ h => .skip (h _)) rfl rfl <|
                  .cons [159] [] (fun _ _ h => .skip (h _)) rfl rfl <|
                  .cons [159] [] (fun _ _ h => .skip (h _)) rfl rfl <|
                  .cons [159, 164] [] (fun _ _ h => .brF (h _)) rfl rfl <|
                  .cons [165] [] (fun _ _ h => .assign (h _)) rfl rfl <|
                  .nil)
                  (.nil)
                  (by kernel_rfl) rfl (.cons rfl (.cons rfl (.cons rfl (.cons rfl (.cons rfl (.cons rfl (.cons rfl (.cons rfl (.cons rfl (.cons rfl (.cons rfl (.nil)))))))))))) (.nil) (.cons rfl (.cons rfl (.cons rfl (.cons rfl (.cons rfl (.nil)))))) ?_
                cases h
                exact .ret (fin_gen0 none)
            · replace h := (if_neg (nt hc56)).symm.trans h
              refine .draw [] [[], [], [], [], [], [], [], [], [], [], [], [], [], [], [], [], [], [], [], [], [], [], [], [], [], [], [], [], [], []] [[], [], [], [], [], [], [], [], [], [], [], [], [], [], [], [], [], [], [], [], [], [], [], [], [], [], [], [], [], []] [[]]
                [(0, 0), (1, 0), (2, 0), (3, 0), (4, 0), (5, 0), (6, 0), (7, 0), (8, 0), (9, 0), (10, 0), (11, 0), (12, 0), (13, 0), (14, 0), (15, 0), (16, 0), (17, 0), (18, 0), (19, 0), (20, 0), (21, 0), (22, 0), (23, 0), (24, 0), (25, 0), (26, 0), (27, 0), (28, 0), (29, 0)] [] 0
                [⟨[(137, .int .i64 y42.2.2.2), (138, .bool true), (139, .bool true), (140, .int .i64 y43.2.2.2), (141, .bool true), (142, .bool true), (143, .bool true), (144, .int .i64 y44.2.2.2), (145, .bool true), (146, .bool true), (147, .bool true), (148, .int .i64 y42.2.1), (149, .int .i64 y43.2.1), (150, .int .i64 (w64 (y42.2.1 + y43.2.1))), (151, .int .i64 y44.2.1), (152, .bool false), (153, .bool false), (154, .bool false), (155, .tup []), (156, .tup []), (157, .tup []), (158, .bool false), (159, .bool false), (160, .tup []), (161, .tup []), (162, .tup []), (163, .tup []), (164, .tup []), (165, .bool false), (8, .bool false), (21, .ptr (.loc 10 10) 0), (22, .int .i64 y42.2.1), (24, .int .i64 y42.2.2.2), (25, .ptr (.loc 11 10) 0), (26, .int .i64 y43.2.1), (27, .ptr (.loc 11 11) 0), (28, .int .i64 y43.2.2.2), (29, .ptr (.loc 12 14) 0), (30, .int .i64 y44.2.1), (31, .ptr (.loc 12 15) 0), (32, .int .i64 y44.2.2.2)], [], [((.loc 10 10), [.int .i64 y42.1.Channels, .sl 21 .ro (y42.1.Data.map (PV.int .i32))]), ((.loc 11 10), [.int .i64 y43.1.Channels, .sl 21 .ro (y43.1.Data.map (PV.int .i32))]), ((.loc 11 11), [.int .i64 y43.2.2.1.Channels, .int .i64 y43.2.2.1.Capacity, .int .i64 y43.2.2.1.Written, .int .i64 y43.2.2.1.Read, .sl 21 .ro (y43.2.2.1.Data.map (PV.int .i32))]), ((.loc 12 14), [.int .i64 y44.1.Channels, .sl 21 .ro (y44.1.Data.map (PV.int .i32))]), ((.loc 12 15), [.int .i64 y44.2.2.1.Channels, .int .i64 y44.2.2.1.Capacity, .int .i64 y44.2.2.1.Written, .int .i64 y44.2.2.1.Read, .sl 21 .ro (y44.2.2.1.Data.map (PV.int .i32))])]⟩]
                [(21, .ptr (.loc 10 10) 0), (22, .int .i64 y42.2.1), (24, .int .i64 y42.2.2.2), (25, .ptr (.loc 11 10) 0), (26, .int .i64 y43.2.1), (27, .ptr (.loc 11 11) 0), (28, .int .i64 y43.2.2.2), (29, .ptr (.loc 12 14) 0), (30, .int .i64 y44.2.1), (31, .ptr (.loc 12 15) 0), (32, .int .i64 y44.2.2.2)]
                (.cons [24] [] (fun _ _ h => .move (h _)) rfl rfl <|
                .cons [137] [] (fun _ _ h => .valB hc53 (h _)) rfl rfl <|
                .cons [138] [] (fun _ _ h => .move (h _)) rfl rfl <|
                .cons [28, 139] [] (fun _ _ h => .move (h _)) rfl rfl <|
                .cons [140, 139] [] (fun _ _ h => .valB hc54 (h _)) rfl rfl <|
                .cons [139, 141] [] (fun _ _ h => .brT (h _)) rfl rfl <|
                .cons [142] [] (fun _ _ h => .move (h _)) rfl rfl <|
                .cons [32, 143] [] (fun _ _ h => .move (h _)) rfl rfl <|
                .cons [144, 143] [] (fun _ _ h => .valB hc55 (h _)) rfl rfl <|
                .cons [143, 145] [] (fun _ _ h => .brT (h _)) rfl rfl <|
                .cons [146] [] (fun _ _ h => .move (h _)) rfl rfl <|
                .cons [22, 147] [] (fun _ _ h => .move (h _)) rfl rfl <|
                .cons [26, 147] [] (fun _ _ h => .move (h _)) rfl rfl <|
                .cons [148, 149, 147] [] (fun _ _ h => .val (h _)) rfl rfl <|
                .cons [30, 147] [] (fun _ _ h => .move (h _)) rfl rfl <|
                .cons [150, 151, 147] [] (fun _ _ h => .valB hc56 (h _)) rfl rfl <|
                .cons [147, 152] [] (fun _ _ h => .brT (h _)) rfl rfl <|
                .cons [153] [] (fun _ _ h => .move (h _)) rfl rfl <|
                .cons [154] [] (fun _ _ h => .skip (h _)) rfl rfl <|
                .cons [154] [] (fun _ _ h => .skip (h _)) rfl rfl <|
                .cons [154] [] (fun _ _ h => .skip (h _)) rfl rfl <|
                .cons [154, 157] [] (fun _ _ h => .brF (h _)) rfl rfl <|
                .cons [158] [] (fun _ _ h => .move (h _)) rfl rfl <|
                .cons [159] [] (fun _ _ h => .skip (h _)) rfl rfl <|
                .cons [159] [] (fun _ _ h => .skip (h _)) rfl rfl <|
                .cons [159] [] (fun _ _ h => .skip (h _)) rfl rfl <|
                .cons [159] [] (fun _ _ h => .skip (h _)) rfl rfl <|
                .cons [159] [] (fun _ _ h => .skip (h _)) rfl rfl <|
                .cons [159, 164] [] (fun _ _ h => .brF (h _)) rfl rfl <|
                .cons [165] [] (fun _ _ h => .assign (h _)) rfl rfl <|
                .nil)
                (.nil)
                (by kernel_rfl) rfl (.cons rfl (.cons rfl (.cons rfl (.cons rfl (.cons rfl (.cons rfl (.cons rfl (.cons rfl (.cons rfl (.cons rfl (.cons rfl (.nil)))))))))))) (.nil) (.cons rfl (.cons rfl (.cons rfl (.cons rfl (.cons rfl (.nil)))))) ?_
              cases h
              exact .ret (fin_gen0 none)
          · replace h := (if_neg (nt hc55)).symm.trans h
            refine .draw [] [[], [], [], [], [], [], [], [], [], [], [], [], [], [], [], [], [], [], [], [], [], [], [], [], [], [], [], [], [], []] [[], [], [], [], [], [], [], [], [], [], [], [], [], [], [], [], [], [], [], [], [], [], [], [], [], [], [], [], [], []] [[]]
              [(0, 0), (1, 0), (2, 0), (3, 0), (4, 0), (5, 0), (6, 0), (7, 0), (8, 0), (9, 0), (10, 0), (11, 0), (12, 0), (13, 0), (14, 0), (15, 0), (16, 0), (17, 0), (18, 0), (19, 0), (20, 0), (21, 0), (22, 0), (23, 0), (24, 0), (25, 0), (26, 0), (27, 0), (28, 0), (29, 0)] [] 0
              [⟨[(137, .int .i64 y42.2.2.2), (138, .bool true), (139, .bool true), (140, .int .i64 y43.2.2.2), (141, .bool true), (142, .bool true), (143, .bool true), (144, .int .i64 y44.2.2.2), (145, .bool false), (146, .bool false), (147, .bool false), (148, .tup []), (149, .tup []), (150, .tup []), (151, .tup []), (152, .tup []), (153, .bool false), (154, .bool false), (155, .tup []), (156, .tup []), (157, .tup []), (158, .bool false), (159, .bool false), (160, .tup []), (161, .tup []), (162, .tup []), (163, .tup []), (164, .tup []), (165, .bool false), (8, .bool false), (21, .ptr (.loc 10 10) 0), (22, .int .i64 y42.2.1), (24, .int .i64 y42.2.2.2), (25, .ptr (.loc 11 10) 0), (26, .int .i64 y43.2.1), (27, .ptr (.loc 11 11) 0), (28, .int .i64 y43.2.2.2), (29, .ptr (.loc 12 14) 0), (30, .int .i64 y44.2.1), (31, .ptr (.loc 12 15) 0), (32, .int .i64 y44.2.2.2)], [], [((.loc 10 10), [.int .i64 y42.1.Channels, .sl 21 .ro (y42.1.Data.map (PV.int .i32))]), ((.loc 11 10), [.int .i64 y43.1.Channels, .sl 21 .ro (y43.1.Data.map (PV.int .i32))]), ((.loc 11 11), [.int .i64 y43.2.2.1.Channels, .int .i64 y43.2.2.1.Capacity, .int .i64 y43.2.2.1.Written, .int .i64 y43.2.2.1.Read, .sl 21 .ro (y43.2.2.1.Data.map (PV.int .i32))]), ((.loc 12 14), [.int .i64 y44.1.Channels, .sl 21 .ro (y44.1.Data.map (PV.int .i32))]), ((.loc 12 15), [.int .i64 y44.2.2.1.Channels, .int .i64 y44.2.2.1.Capacity, .int .i64 y44.2.2.1.Written, .int .i64 y44.2.2.1.Read, .sl 21 .ro (y44.2.2.1.Data.map (PV.int .i32))])]⟩]
              [(21, .ptr (.loc 10 10) 0), (22, .int .i64 y42.2.1), (24, .int .i64 y42.2.2.2), (25, .ptr (.loc 11 10) 0), (26, .int .i64 y43.2.1), (27, .ptr (.loc 11 11) 0), (28, .int .i64 y43.2.2.2), (29, .ptr (.loc 12 14) 0), (30, .int .i64 y44.2.1), (31, .ptr (.loc 12 15) 0), (32, .int .i64 y44.2.2.2)]
              (.cons [24] [] (fun _ _ h => .move (h _)) rfl rfl <|
              .cons [137] [] (fun _ _ h => .valB hc53 (h _)) rfl rfl <|
              .cons [138] [] (fun _ _ h => .move (h _)) rfl rfl <|
              .cons [28, 139] [] (fun _ _ h => .move (h _)) rfl rfl <|
              .cons [140, 139] [] (fun _ _ h => .valB hc54 (h _)) rfl rfl <|
              .cons [139, 141] [] (fun _ _ h => .brT (h _)) rfl rfl <|
              .cons [142] [] (fun _ _ h => .move (h _)) rfl rfl <|
              .cons [32, 143] [] (fun _ _ h => .move (h _)) rfl rfl <|
              .cons [144, 143] [] (fun _ _ h => .valB hc55 (h _)) rfl rfl <|
              .cons [143, 145] [] (fun _ _ h => .brT (h _)) rfl rfl <|
              .cons [146] [] (fun _ _ h => .move (h _)) rfl rfl <|
              .cons [147] [] (fun _ _ h => .skip (h _)) rfl rfl <|
              .cons [147] [] (fun _ _ h => .skip (h _)) rfl rfl <|
              .cons [147] [] (fun _ _ h => .skip (h _)) rfl rfl <|
              .cons [147] [] (fun _ _ h => .skip (h _)) rfl rfl <|
              .cons [147] [] (fun _ _ h => .skip (h _)) rfl rfl <|
              .cons [147, 152] [] (fun _ _ h => .brF (h _)) rfl rfl <|
              .cons [153] [] (fun _ _ h => .move (h _)) rfl rfl <|
              .cons [154] [] (fun _ _ h => .skip (h _)) rfl rfl <|
              .cons [154] [] (fun _ _ h => .skip (h _)) rfl rfl <|
              .cons [154] [] (fun _ _ h => .skip (h _)) rfl rfl <|
              .cons [154, 157] [] (fun _ _ h => .brF (h _)) rfl rfl <|
              .cons [158] [] (fun _ _ h => .move (h _)) rfl rfl <|
              .cons [159] [] (fun _ _ h => .skip (h _)) rfl rfl <|
              .cons [159] [] (fun _ _ h => .skip (h _)) rfl rfl <|
              .cons [159] [] (fun _ _ h => .skip (h _)) rfl rfl <|
              .cons [159] [] (fun _ _ h => .skip (h _)) rfl rfl <|
              .cons [159] [] (fun _ _ h => .skip (h _)) rfl rfl <|
              .cons [159, 164] [] (fun _ _ h => .brF (h _)) rfl rfl <|
              .cons [165] [] (fun _ _ h => .assign (h _)) rfl rfl <|
              .nil)
              (.nil)
              (by kernel_rfl) rfl (.cons rfl (.cons rfl (.cons rfl (.cons rfl (.cons rfl (.cons rfl (.cons rfl (.cons rfl (.cons rfl (.cons rfl (.cons rfl (.nil)))))))))))) (.nil) (.cons rfl (.cons rfl (.cons rfl (.cons rfl (.cons rfl (.nil)))))) ?_
            cases h
            exact .ret (fin_gen0 none)
        · replace h := (if_neg (nt hc54)).symm.trans h
          refine .draw [] [[], [], [], [], [], [], [], [], [], [], [], [], [], [], [], [], [], [], [], [], [], [], [], [], [], [], [], [], [], []] [[], [], [], [], [], [], [], [], [], [], [], [], [], [], [], [], [], [], [], [], [], [], [], [], [], [], [], [], [], []] [[]]
            [(0, 0), (1, 0), (2, 0), (3, 0), (4, 0), (5, 0), (6, 0), (7, 0), (8, 0), (9, 0), (10, 0), (11, 0), (12, 0), (13, 0), (14, 0), (15, 0), (16, 0), (17, 0), (18, 0), (19, 0), (20, 0), (21, 0), (22, 0), (23, 0), (24, 0), (25, 0), (26, 0), (27, 0), (28, 0), (29, 0)] [] 0
            [⟨[(137, .int .i64 y42.2.2.2), (138, .bool true), (139, .bool true), (140, .int .i64 y43.2.2.2), (141, .bool false), (142, .bool false), (143, .bool false), (144, .tup []), (145, .tup []), (146, .bool false), (147, .bool false), (148, .tup []), (149, .tup []), (150, .tup []), (151, .tup []), (152, .tup []), (153, .bool false), (154, .bool false), (155, .tup []), (156, .tup []), (157, .tup []), (158, .bool false), (159, .bool false), (160, .tup []), (161, .tup []), (162, .tup []), (163, .tup []), (164, .tup []), (165, .bool false), (8, .bool false), (21, .ptr (.loc 10 10) 0), (22, .int .i64 y42.2.1), (24, .int .i64 y42.2.2.2), (25, .ptr (.loc 11 10) 0), (26, .int .i64 y43.2.1), (27, .ptr (.loc 11 11) 0), (28, .int .i64 y43.2.2.2), (29, .ptr (.loc 12 14) 0), (30, .int .i64 y44.2.1), (31, .ptr (.loc 12 15) 0), (32, .int .i64 y44.2.2.2)], [], [((.loc 10 10), [.int .i64 y42.1.Channels, .sl 21 .ro (y42.1.Data.map (PV.int .i32))]), ((.loc 11 10), [.int .i64 y43.1.Channels, .sl 21 .ro (y43.1.Data.map (PV.int .i32))]), ((.loc 11 11), [.int .i64 y43.2.2.1.Channels, .int .i64 y43.2.2.1.Capacity, .int .i64 y43.2.2.1.Written, .int .i64 y43.2.2.1.Read, .sl 21 .ro (y43.2.2.1.Data.map (PV.int .i32))]), ((.loc 12 14), [.int .i64 y44.1.Channels, .sl 21 .ro (y44.1.Data.map (PV.int .i32))]), ((.loc 12 15), [.int .i64 y44.2.2.1.Channels, .int .i64 y44.2.2.1.Capacity, .int .i64 y44.2.2.1.Written, .int .i64 y44.2.2.1.Read, .sl 21 .ro (y44.2.2.1.Data.map (PV.int .i32))])]⟩]
            [(21, .ptr (.loc 10 10) 0), (22, .int .i64 y42.2.1), (24, .int .i64 y42.2.2.2), (25, .ptr (.loc 11 10) 0), (26, .int .i64 y43.2.1), (27, .ptr (.loc 11 11) 0), (28, .int .i64 y43.2.2.2), (29, .ptr (.loc 12 14) 0), (30, .int .i64 y44.2.1), (31, .ptr (.loc 12 15) 0), (32, .int .i64 y44.2.2.2)]
            (.cons [24] [] (fun _ _ h => .move (h _)) rfl rfl <|
            .cons [137] [] (fun _ _ h => .valB hc53 (h _)) rfl rfl <|
            .cons [138] [] (fun _ _ h => .move (h _)) rfl rfl <|
            .cons [28, 139] [] (fun _ _ h => .move (h _)) rfl rfl <|
            .cons [140, 139] [] (fun _ _ h => .valB hc54 (h _)) rfl rfl <|
            .cons [139, 141] [] (fun _ _ h => .brT (h _)) rfl rfl <|
            .cons [142] [] (fun _ _ h => .move (h _)) rfl rfl <|
            .cons [143] [] (fun _ _ h => .skip (h _)) rfl rfl <|
            .cons [143] [] (fun _ _ h => .skip (h _)) rfl rfl <|
            .cons [143, 145] [] (fun _ _ h => .brF (h _)) rfl rfl <|
            .cons [146] [] (fun _ _ h => .move (h _)) rfl rfl <|
            .cons [147] [] (fun _ _ h => .skip (h _)) rfl rfl <|
            .cons [147] [] (fun _ _ h => .skip (h _)) rfl rfl <|
            .cons [147] [] (fun _ _ h => .skip (h _)) rfl rfl <|
            .cons [147] [] (fun _ _ h => .skip (h _)) rfl rfl <|
            .cons [147] [] (fun _ _ h => .skip (h _)) rfl rfl <|
            .cons [147, 152] [] (fun _ _ h => .brF (h _)) rfl rfl <|
            .cons [153] [] (fun _ _ h => .move (h _)) rfl rfl <|
            .cons [154] [] (fun _ _ h => .skip (h _)) rfl rfl <|
            .cons [154] [] (fun _ _ h => .skip (h _)) rfl rfl <|
            .cons [154] [] (fun _ _ h => .skip (h _)) rfl rfl <|
            .cons [154, 157] [] (fun _ _ h => .brF (h _)) rfl rfl <|
            .cons [158] [] (fun _ _ h => .move (h _)) rfl rfl <|
            .cons [159] [] (fun _ _ h => .skip (h _)) rfl rfl <|
            .cons [159] [] (fun _ _ h => .skip (h _)) rfl rfl <|
            .cons [159] [] (fun _ _ h => .skip (h _)) rfl rfl <|
            .cons [159] [] (fun _ _ h => .skip (h _)) rfl rfl <|
            .cons [159] [] (fun _ _ h => .skip (h _)) rfl rfl <|
            .cons [159, 164] [] (fun _ _ h => .brF (h _)) rfl rfl <|
            .cons [165] [] (fun _ _ h => .assign (h _)) rfl rfl <|
            .nil)
            (.nil)
            (by kernel_rfl) rfl (.cons rfl (.cons rfl (.cons rfl (.cons rfl (.cons rfl (.cons rfl (.cons rfl (.cons rfl (.cons rfl (.cons rfl (.cons rfl (.nil)))))))))))) (.nil) (.cons rfl (.cons rfl (.cons rfl (.cons rfl (.cons rfl (.nil)))))) ?_
          cases h
          exact .ret (fin_gen0 none)
      · replace h := (if_neg (nt hc53)).symm.trans h
        refine .draw [] [[], [], [], [], [], [], [], [], [], [], [], [], [], [], [], [], [], [], [], [], [], [], [], [], [], [], [], [], [], []] [[], [], [], [], [], [], [], [], [], [], [], [], [], [], [], [], [], [], [], [], [], [], [], [], [], [], [], [], [], []] [[]]
          [(0, 0), (1, 0), (2, 0), (3, 0), (4, 0), (5, 0), (6, 0), (7, 0), (8, 0), (9, 0), (10, 0), (11, 0), (12, 0), (13, 0), (14, 0), (15, 0), (16, 0), (17, 0), (18, 0), (19, 0), (20, 0), (21, 0), (22, 0), (23, 0), (24, 0), (25, 0), (26, 0), (27, 0), (28, 0), (29, 0)] [] 0
          [⟨[(137, .int .i64 y42.2.2.2), (138, .bool false), (139, .bool false), (140, .tup []), (141, .tup []), (142, .bool false), (143, .bool false), (144, .tup []), (145, .tup []), (146, .bool false), (147, .bool false), (148, .tup []), (149, .tup []), (150, .tup []), (151, .tup []), (152, .tup []), (153, .bool false), (154, .bool false), (155, .tup []), (156, .tup []), (157, .tup []), (158, .bool false), (159, .bool false), (160, .tup []), (161, .tup []), (162, .tup []), (163, .tup []), (164, .tup []), (165, .bool false), (8, .bool false), (21, .ptr (.loc 10 10) 0), (22, .int .i64 y42.2.1), (24, .int .i64 y42.2.2.2), (25, .ptr (.loc 11 10) 0), (26, .int .i64 y43.2.1), (27, .ptr (.loc 11 11) 0), (28, .int .i64 y43.2.2.2), (29, .ptr (.loc 12 14) 0), (30, .int .i64 y44.2.1), (31, .ptr (.loc 12 15) 0), (32, .int .i64 y44.2.2.2)], [], [((.loc 10 10), [.int .i64 y42.1.Channels, .sl 21 .ro (y42.1.Data.map (PV.int .i32))]), ((.loc 11 10), [.int .i64 y43.1.Channels, .sl 21 .ro (y43.1.Data.map (PV.int .i32))]), ((.loc 11 11), [.int .i64 y43.2.2.1.Channels, .int .i64 y43.2.2.1.Capacity, .int .i64 y43.2.2.1.Written, .int .i64 y43.2.2.1.Read, .sl 21 .ro (y43.2.2.1.Data.map (PV.int .i32))]), ((.loc 12 14), [.int .i64 y44.1.Channels, .sl 21 .ro (y44.1.Data.map (PV.int .i32))]), ((.loc 12 15), [.int .i64 y44.2.2.1.Channels, .int .i64 y44.2.2.1.Capacity, .int .i64 y44.2.2.1.Written, .int .i64 y44.2.2.1.Read, .sl 21 .ro (y44.2.2.1.Data.map (PV.int .i32))])]⟩]
          [(21, .ptr (.loc 10 10) 0), (22, .int .i64 y42.2.1), (24, .int .i64 y42.2.2.2), (25, .ptr (.loc 11 10) 0), (26, .int .i64 y43.2.1), (27, .ptr (.loc 11 11) 0), (28, .int .i64 y43.2.2.2), (29, .ptr (.loc 12 14) 0), (30, .int .i64 y44.2.1), (31, .ptr (.loc 12 15) 0), (32, .int .i64 y44.2.2.2)]
          (.cons [24] [] (fun _ _ h => .move (h _)) rfl rfl <|
          .cons [137] [] (fun _ _ h => .valB hc53 (h _)) rfl rfl <|
          .cons [138] [] (fun _ _ h => .move (h _)) rfl rfl <|
          .cons [139] [] (fun _ _ h => .skip (h _)) rfl rfl <|
          .cons [139] [] (fun _ _ h => .skip (h _)) rfl rfl <|
          .cons [139, 141] [] (fun _ _ h => .brF (h _)) rfl rfl <|
          .cons [142] [] (fun _ _ h => .move (h _)) rfl rfl <|
          .cons [143] [] (fun _ _ h => .skip (h _)) rfl rfl <|
          .cons [143] [] (fun _ _ h => .skip (h _)) rfl rfl <|
          .cons [143, 145] [] (fun _ _ h => .brF (h _)) rfl rfl <|
          .cons [146] [] (fun _ _ h => .move (h _)) rfl rfl <|
          .cons [147] [] (fun _ _ h => .skip (h _)) rfl rfl <|
          .cons [147] [] (fun _ _ h => .skip (h _)) rfl rfl <|
          .cons [147] [] (fun _ _ h => .skip (h _)) rfl rfl <|
          .cons [147] [] (fun _ _ h => .skip (h _)) rfl rfl <|
          .cons [147] [] (fun _ _ h => .skip (h _)) rfl rfl <|
          .cons [147, 152] [] (fun _ _ h => .brF (h _)) rfl rfl <|
          .cons [153] [] (fun _ _ h => .move (h _)) rfl rfl <|
          .cons [154] [] (fun _ _ h => .skip (h _)) rfl rfl <|
          .cons [154] [] (fun _ _ h => .skip (h _)) rfl rfl <|
          .cons [154] [] (fun _ _ h => .skip (h _)) rfl rfl <|
          .cons [154, 157] [] (fun _ _ h => .brF (h _)) rfl rfl <|
          .cons [158] [] (fun _ _ h => .move (h _)) rfl rfl <|
          .cons [159] [] (fun _ _ h => .skip (h _)) rfl rfl <|
          .cons [159] [] (fun _ _ h => .skip (h _)) rfl rfl <|
          .cons [159] [] (fun _ _ h => .skip (h _)) rfl rfl <|
          .cons [159] [] (fun _ _ h => .skip (h _)) rfl rfl <|
          .cons [159] [] (fun _ _ h => .skip (h _)) rfl rfl <|
          .cons [159, 164] [] (fun _ _ h => .brF (h _)) rfl rfl <|
          .cons [165] [] (fun _ _ h => .assign (h _)) rfl rfl <|
          .nil)
          (.nil)
          (by kernel_rfl) rfl (.cons rfl (.cons rfl (.cons rfl (.cons rfl (.cons rfl (.cons rfl (.cons rfl (.cons rfl (.cons rfl (.cons rfl (.cons rfl (.nil)))))))))))) (.nil) (.cons rfl (.cons rfl (.cons rfl (.cons rfl (.cons rfl (.nil)))))) ?_
        cases h
        exact .ret (fin_gen0 none)

/- soundservice/soundservicelaw17.RingMoves -/
def f5_l2 (n : Nat) (a1 : Block) (x634 : Ring) (j673 : (List Int) → Option Bool) (y674 : (Int × Dice)) (y675 : Block) : Nat → Int → Option Bool
  | 0, _ => none
  | m700 + 1, v687 =>
    if decide (v687 < (([(⟨a1.Channels, a1.Data⟩ : Block), y675] : List Block).length : Int)) then (
    (lAt ([(⟨a1.Channels, a1.Data⟩ : Block), y675] : List Block) v687).bind fun x713 =>
    (f16 n (⟨x634.Channels, x634.Capacity, x634.Written, x634.Read, x634.Data⟩ : Ring) (⟨x713.Channels, x713.Data⟩ : Block)).bind fun y714 =>
    (f27 n (⟨x634.Channels, x634.Capacity, x634.Written, x634.Read, x634.Data⟩ : Ring) (⟨x713.Channels, x713.Data⟩ : Block)).bind fun y715 =>
    joinK (fun (_ : Unit) =>
    some false) fun j719 =>
    joinK (fun (v720 : Bool) =>
    if v720 then (
    some false)
    else (
    f5_l2 n a1 x634 j673 y674 y675 m700 (w64 (v687 + (1 : Int))))) fun j721 =>
    if (y714.2.1 != y715.2.1) then (
    j719 ())
    else (
    if (y714.2.2 != y715.2.2) then (
    j719 ())
    else (
    (f23 n (⟨y714.1.Channels, y714.1.Capacity, y714.1.Written, y714.1.Read, y714.1.Data⟩ : Ring) (⟨y715.1.Channels, y715.1.Capacity, y715.1.Written, y715.1.Read, y715.1.Data⟩ : Ring)).bind fun y724 =>
    j721 (!y724))))
    else (
    j673 y674.2.l)
def f5_l3 (n : Nat) (a3 : Int) (x634 : Ring) (j767 : Unit → Option Bool) : Nat → Int → Option Bool
  | 0, _ => none
  | m796 + 1, v781 =>
    if decide (v781 < (([a3, Int.tmod (w64 ((Int.tmod a3 (20 : Int)) + (20 : Int))) (20 : Int)] : List Int).length : Int)) then (
    (lAt ([a3, Int.tmod (w64 ((Int.tmod a3 (20 : Int)) + (20 : Int))) (20 : Int)] : List Int) v781).bind fun x811 =>
    (f17 n (⟨x634.Channels, x634.Capacity, x634.Written, x634.Read, x634.Data⟩ : Ring) x811).bind fun y812 =>
    (f28 n (⟨x634.Channels, x634.Capacity, x634.Written, x634.Read, x634.Data⟩ : Ring) x811).bind fun y813 =>
    joinK (fun (_ : Unit) =>
    some false) fun j819 =>
    joinK (fun (v820 : Bool) =>
    if v820 then (
    some false)
    else (
    f5_l3 n a3 x634 j767 m796 (w64 (v781 + (1 : Int))))) fun j821 =>
    if (y812.2.1 != y813.2.1) then (
    j819 ())
    else (
    if (y812.2.2.2 != y813.2.2.2) then (
    j819 ())
    else (
    (f23 n (⟨y812.2.2.1.Channels, y812.2.2.1.Capacity, y812.2.2.1.Written, y812.2.2.1.Read, y812.2.2.1.Data⟩ : Ring) (⟨y813.2.2.1.Channels, y813.2.2.1.Capacity, y813.2.2.1.Written, y813.2.2.1.Read, y813.2.2.1.Data⟩ : Ring)).bind fun y824 =>
    if !y824 then (
    j819 ())
    else (
    (f24 n (⟨y812.1.Channels, y812.1.Data⟩ : Block) (⟨y813.1.Channels, y813.1.Data⟩ : Block)).bind fun y826 =>
    j821 (!y826)))))
    else (
    j767 ())
def f5_l1 (n : Nat) (a0 : Ring) (a1 : Block) (a3 : Int) (j329 : Unit → Option Bool) (y330 : (Ring × Dice)) : Nat → (List Int) → Int → Option Bool
  | 0, _, _ => none
  | m533 + 1, v430, v431 =>
    if decide (v431 < (([(⟨a0.Channels, a0.Capacity, a0.Written, a0.Read, a0.Data⟩ : Ring), y330.1] : List Ring).length : Int)) then (
    joinK (fun (v632 : (List Int)) =>
    f5_l1 n a0 a1 a3 j329 y330 m533 v632 (w64 (v431 + (1 : Int)))) fun j633 =>
    (lAt ([(⟨a0.Channels, a0.Capacity, a0.Written, a0.Read, a0.Data⟩ : Ring), y330.1] : List Ring) v431).bind fun x634 =>
    joinK (fun (v672 : (List Int)) =>
    joinK (fun (_ : Unit) =>
    (f29 n (⟨x634.Channels, x634.Capacity, x634.Written, x634.Read, x634.Data⟩ : Ring)).bind fun y828 =>
    (f30 n (⟨x634.Channels, x634.Capacity, x634.Written, x634.Read, x634.Data⟩ : Ring)).bind fun y829 =>
    joinK (fun (_ : Unit) =>
    some false) fun j838 =>
    joinK (fun (v839 : Bool) =>
    if v839 then (
    some false)
    else (
    j633 v672)) fun j840 =>
    if (y828.2 != y829.2) then (
    j838 ())
    else (
    (f23 n (⟨y828.1.Channels, y828.1.Capacity, y828.1.Written, y828.1.Read, y828.1.Data⟩ : Ring) (⟨y829.1.Channels, y829.1.Capacity, y829.1.Written, y829.1.Read, y829.1.Data⟩ : Ring)).bind fun y842 =>
    if !y842 then (
    j838 ())
    else (
    (f31 n (⟨x634.Channels, x634.Capacity, x634.Written, x634.Read, x634.Data⟩ : Ring)).bind fun y844 =>
    (f32 n (⟨x634.Channels, x634.Capacity, x634.Written, x634.Read, x634.Data⟩ : Ring)).bind fun y845 =>
    if !(y844 == y845) then (
    j838 ())
    else (
    (f18 n (⟨x634.Channels, x634.Capacity, x634.Written, x634.Read, x634.Data⟩ : Ring)).bind fun y847 =>
    (f33 n (⟨x634.Channels, x634.Capacity, x634.Written, x634.Read, x634.Data⟩ : Ring)).bind fun y848 =>
    j840 (y847 != y848))))) fun j767 =>
    f5_l3 n a3 x634 j767 n 0) fun j673 =>
    (f26 n (⟨v430⟩ : Dice) (20 : Int)).bind fun y674 =>
    (f21 n (1 : Int) (1 : Int) (0 : Int) y674.1).bind fun y675 =>
    f5_l2 n a1 x634 j673 y674 y675 n 0)
    else (
    j329 ())
def f5 (n : Nat) (a0 : Ring) (a1 : Block) (a2 : (List Int)) (a3 : Int) (a4 : Int) (a5 : Int) : Option Bool :=
  (f14 n ).bind fun y3 =>
  if !y3 then (
  some false)
  else (
  joinK (fun (_ : Unit) =>
  (f20 n a2).bind fun y26 =>
  joinK (fun (_ : Unit) =>
  (f15 n a4 a5).bind fun y850 =>
  (f34 n a4 a5).bind fun y851 =>
  if (y850.2 == y851.2) then (
  (f23 n (⟨y850.1.Channels, y850.1.Capacity, y850.1.Written, y850.1.Read, y850.1.Data⟩ : Ring) (⟨y851.1.Channels, y851.1.Capacity, y851.1.Written, y851.1.Read, y851.1.Data⟩ : Ring)).bind fun y855 =>
  some y855)
  else (
  some false)) fun j329 =>
  (f19 n (⟨y26.l⟩ : Dice)).bind fun y330 =>
  f5_l1 n a0 a1 a3 j329 y330 n y330.2.l 0) fun j13 =>
  joinK (fun (_ : Unit) =>
  some true) fun j18 =>
  joinK (fun (_ : Unit) =>
  if decide (a3 ≤ (65536 : Int)) then (
  some true)
  else (
  j13 ())) fun j19 =>
  joinK (fun (_ : Unit) =>
  j13 ()) fun j20 =>
  if decide ((a0.Data.length : Int) > (300 : Int)) then (
  j18 ())
  else (
  (f25 n (⟨a1.Channels, a1.Data⟩ : Block) (300 : Int)).bind fun y22 =>
  if !y22 then (
  j18 ())
  else (
  if decide (a3 > (500 : Int)) then (
  j19 ())
  else (
  j20 ()))))
set_option maxHeartbeats 4000000 in
set_option maxRecDepth 100000 in
theorem g5 {n : Nat} {a0 : Ring} {a1 : Block} {a2 : (List Int)} {a3 : Int} {a4 : Int} {a5 : Int} {r : Bool} (h : f5 n a0 a1 a2 a3 a4 a5 = some r) :
    Ab.Can Try.prog 5 [.agg [.int .i64 a0.Channels, .int .i64 a0.Capacity, .int .i64 a0.Written, .int .i64 a0.Read, .sl 21 .ro (a0.Data.map (PV.int .i32))], .agg [.int .i64 a1.Channels, .sl 21 .ro (a1.Data.map (PV.int .i32))], .sl 5 .ro (a2.map (PV.int .u8)), .int .i64 a3, .int .i64 a4, .int .i64 a5] H0 (.bool r) H0 := by
  refine can_of tabOK mix Try.call5 Try.func5 rfl (by kernel_rfl) (by show _ ≤ 213; simp) fun _ => ?_
  rw [f5] at h
  refine .seq ?_
  refine .region ?_
  refine .boxL (cs := [.int .i64 a0.Channels, .int .i64 a0.Capacity, .int .i64 a0.Written, .int .i64 a0.Read, .sl 21 .ro (a0.Data.map (PV.int .i32))]) ?_
  refine .boxL (cs := [.int .i64 a1.Channels, .sl 21 .ro (a1.Data.map (PV.int .i32))]) ?_
  refine .assign ?_
  refine .nil ?_
  refine .seq ?_
  refine .seq ?_
  refine .region ?_
  obtain ⟨y3, hy3, h⟩ := bindE h
  refine .cP (g14 hy3) ?_
  refine .val ?_
  refine .nil ?_
  refine .cond (fun hc4 => ?_) (fun hc4 => ?_)
  · replace h := (if_pos hc4).symm.trans h
    refine .seq ?_
    refine .region ?_
    refine .assign ?_
    refine .nil ?_
    cases h
    exact .ret (fin_gen0 none)
  · replace h := (if_neg (nt hc4)).symm.trans h
    refine .skip ?_
    obtain ⟨j13, hj13, h⟩ := joinE h
    refine .cutI (fun T => (T = St.of [(2, .sl 5 .ro (a2.map (PV.int .u8))), (3, .int .i64 a3), (4, .int .i64 a4), (5, .int .i64 a5), (6, .ptr (.loc 0 0) 0), (7, .ptr (.loc 0 1) 0)] [((.loc 0 0), [.int .i64 a0.Channels, .int .i64 a0.Capacity, .int .i64 a0.Written, .int .i64 a0.Read, .sl 21 .ro (a0.Data.map (PV.int .i32))]), ((.loc 0 1), [.int .i64 a1.Channels, .sl 21 .ro (a1.Data.map (PV.int .i32))])] ∧ j13 () = some r)) ?_ ?_
    · obtain ⟨j18, hj18, h⟩ := joinE h
      obtain ⟨j19, hj19, h⟩ := joinE h
      obtain ⟨j20, hj20, h⟩ := joinE h
      refine .cutI (fun T => (T = St.of [(2, .sl 5 .ro (a2.map (PV.int .u8))), (3, .int .i64 a3), (4, .int .i64 a4), (5, .int .i64 a5), (6, .ptr (.loc 0 0) 0), (7, .ptr (.loc 0 1) 0), (60, .bool true)] [((.loc 0 0), [.int .i64 a0.Channels, .int .i64 a0.Capacity, .int .i64 a0.Written, .int .i64 a0.Read, .sl 21 .ro (a0.Data.map (PV.int .i32))]), ((.loc 0 1), [.int .i64 a1.Channels, .sl 21 .ro (a1.Data.map (PV.int .i32))])] ∧ j18 () = some r) ∨ (T = St.of [(2, .sl 5 .ro (a2.map (PV.int .u8))), (3, .int .i64 a3), (4, .int .i64 a4), (5, .int .i64 a5), (6, .ptr (.loc 0 0) 0), (7, .ptr (.loc 0 1) 0), (60, .bool (decide (a3 ≤ (65536 : Int))))] [((.loc 0 0), [.int .i64 a0.Channels, .int .i64 a0.Capacity, .int .i64 a0.Written, .int .i64 a0.Read, .sl 21 .ro (a0.Data.map (PV.int .i32))]), ((.loc 0 1), [.int .i64 a1.Channels, .sl 21 .ro (a1.Data.map (PV.int .i32))])] ∧ j19 () = some r) ∨ (T = St.of [(2, .sl 5 .ro (a2.map (PV.int .u8))), (3, .int .i64 a3), (4, .int .i64 a4), (5, .int .i64 a5), (6, .ptr (.loc 0 0) 0), (7, .ptr (.loc 0 1) 0), (60, .bool false)] [((.loc 0 0), [.int .i64 a0.Channels, .int .i64 a0.Capacity, .int .i64 a0.Written, .int .i64 a0.Read, .sl 21 .ro (a0.Data.map (PV.int .i32))]), ((.loc 0 1), [.int .i64 a1.Channels, .sl 21 .ro (a1.Data.map (PV.int .i32))])] ∧ j20 () = some r)) ?_ ?_
      · refine .region ?_
        refine .val ?_
        refine .val ?_
        refine .lenL (f := (PV.int .i32)) ?_
        refine .val ?_
        refine .move ?_
        refine .caseG (fun hc21 => ?_) (fun hc21 => ?_)
        · replace h := (if_pos hc21).symm.trans h
          refine .skip ?_
          refine .skip ?_
          refine .skip ?_
          refine .brT ?_
          refine .move ?_
          refine .skip ?_
          refine .skip ?_
          refine .skip ?_
          refine .skip ?_
          refine .skip ?_
          refine .skip ?_
          refine .brT ?_
          refine .nil ?_
          exact ⟨_, (.inl ⟨rfl, h⟩), (imp_of (.cons rfl (.cons rfl (.cons rfl (.cons rfl (.cons rfl (.cons rfl (.cons rfl (.nil)))))))) (.cons rfl (.cons rfl (.nil))))⟩
        · replace h := (if_neg (nt hc21)).symm.trans h
          refine .val (v := .agg [.int .i64 a1.Channels, .sl 21 .ro (a1.Data.map (PV.int .i32))]) ?_
          obtain ⟨y22, hy22, h⟩ := bindE h
          refine .cP (g25 hy22) ?_
          refine .val ?_
          refine .brF ?_
          refine .move ?_
          refine .caseG (fun hc23 => ?_) (fun hc23 => ?_)
          · replace h := (if_pos hc23).symm.trans h
            refine .skip ?_
            refine .skip ?_
            refine .skip ?_
            refine .skip ?_
            refine .skip ?_
            refine .skip ?_
            refine .brT ?_
            refine .nil ?_
            exact ⟨_, (.inl ⟨rfl, h⟩), (imp_of (.cons rfl (.cons rfl (.cons rfl (.cons rfl (.cons rfl (.cons rfl (.cons rfl (.nil)))))))) (.cons rfl (.cons rfl (.nil))))⟩
          · replace h := (if_neg (nt hc23)).symm.trans h
            refine .move ?_
            refine .val ?_
            refine .move ?_
            refine .caseG (fun hc24 => ?_) (fun hc24 => ?_)
            · replace h := (if_pos hc24).symm.trans h
              refine .move ?_
              refine .val ?_
              refine .brT ?_
              refine .brF ?_
              refine .nil ?_
              exact ⟨_, (.inr (.inl ⟨rfl, h⟩)), (imp_of (.cons rfl (.cons rfl (.cons rfl (.cons rfl (.cons rfl (.cons rfl (.cons rfl (.nil)))))))) (.cons rfl (.cons rfl (.nil))))⟩
            · replace h := (if_neg (nt hc24)).symm.trans h
              refine .skip ?_
              refine .skip ?_
              refine .brF ?_
              refine .brF ?_
              refine .nil ?_
              exact ⟨_, (.inr (.inr (⟨rfl, h⟩))), (imp_of (.cons rfl (.cons rfl (.cons rfl (.cons rfl (.cons rfl (.cons rfl (.cons rfl (.nil)))))))) (.cons rfl (.cons rfl (.nil))))⟩
      · rintro T (⟨rfl, h⟩ | ⟨rfl, h⟩ | ⟨rfl, h⟩)
        · subst hj18
          refine .condT ?_
          refine .seq ?_
          refine .region ?_
          refine .assign ?_
          refine .nil ?_
          cases h
          exact .ret (fin_gen0 none)
        · subst hj19
          refine .cond (fun hc25 => ?_) (fun hc25 => ?_)
          · replace h := (if_pos hc25).symm.trans h
            refine .seq ?_
            refine .region ?_
            refine .assign ?_
            refine .nil ?_
            cases h
            exact .ret (fin_gen0 none)
          · replace h := (if_neg (nt hc25)).symm.trans h
            refine .skip ?_
            exact ⟨_, ⟨rfl, h⟩, (imp_of (.cons rfl (.cons rfl (.cons rfl (.cons rfl (.cons rfl (.cons rfl (.nil))))))) (.cons rfl (.cons rfl (.nil))))⟩
        · subst hj20
          refine .condF ?_
          refine .skip ?_
          exact ⟨_, ⟨rfl, h⟩, (imp_of (.cons rfl (.cons rfl (.cons rfl (.cons rfl (.cons rfl (.cons rfl (.nil))))))) (.cons rfl (.cons rfl (.nil))))⟩
    · rintro T ⟨rfl, h⟩
      subst hj13
      refine .seq ?_
      refine .region ?_
      refine .move ?_
      obtain ⟨y26, hy26, h⟩ := bindE h
      refine .cB (.loc 5 1) (g20 hy26) ?_
      refine .assign ?_
      refine .nil ?_
      obtain ⟨j329, hj329, h⟩ := joinE h
      refine .cutI (fun T => (T = St.of [(4, .int .i64 a4), (5, .int .i64 a5)] [] ∧ j329 () = some r)) ?_ ?_
      · refine .seq ?_
        obtain ⟨y330, hy330, h⟩ := bindE h
        refine .draw [2] [[], [], [], [2], [2], []] [[], [2], [], [], [], []] [[], [2]]
          [(0, 0), (0, 1), (1, 0), (3, 1), (4, 1), (5, 0), (5, 1)] [(0, 2, 1)] 1
          [⟨[(63, .agg [.int .i64 a0.Channels, .int .i64 a0.Capacity, .int .i64 a0.Written, .int .i64 a0.Read, .sl 21 .ro (a0.Data.map (PV.int .i32))]), (64, .ptr (.loc 5 1) 0), (68, .int .i64 0), (3, .int .i64 a3), (4, .int .i64 a4), (5, .int .i64 a5), (6, .ptr (.loc 0 0) 0), (7, .ptr (.loc 0 1) 0), (13, .ptr (.loc 5 1) 0)], [], [((.loc 0 0), [.int .i64 a0.Channels, .int .i64 a0.Capacity, .int .i64 a0.Written, .int .i64 a0.Read, .sl 21 .ro (a0.Data.map (PV.int .i32))]), ((.loc 0 1), [.int .i64 a1.Channels, .sl 21 .ro (a1.Data.map (PV.int .i32))]), ((.loc 5 1), [.sl 5 .ro (y26.l.map (PV.int .u8))])]⟩,
          ⟨[(63, .agg [.int .i64 a0.Channels, .int .i64 a0.Capacity, .int .i64 a0.Written, .int .i64 a0.Read, .sl 21 .ro (a0.Data.map (PV.int .i32))]), (64, .ptr (.loc 5 1) 0), (65, .agg [.int .i64 y330.1.Channels, .int .i64 y330.1.Capacity, .int .i64 y330.1.Written, .int .i64 y330.1.Read, .sl 21 .ro (y330.1.Data.map (PV.int .i32))]), (66, .sl 26 .ro (([(⟨a0.Channels, a0.Capacity, a0.Written, a0.Read, a0.Data⟩ : Ring), y330.1] : List Ring).map pv26)), (67, .int .i64 (([(⟨a0.Channels, a0.Capacity, a0.Written, a0.Read, a0.Data⟩ : Ring), y330.1] : List Ring).length : Int)), (68, .int .i64 0), (3, .int .i64 a3), (4, .int .i64 a4), (5, .int .i64 a5), (6, .ptr (.loc 0 0) 0), (7, .ptr (.loc 0 1) 0), (13, .ptr (.loc 5 1) 0)], [], [((.loc 0 0), [.int .i64 a0.Channels, .int .i64 a0.Capacity, .int .i64 a0.Written, .int .i64 a0.Read, .sl 21 .ro (a0.Data.map (PV.int .i32))]), ((.loc 0 1), [.int .i64 a1.Channels, .sl 21 .ro (a1.Data.map (PV.int .i32))]), ((.loc 5 1), [.sl 5 .ro (y330.2.l.map (PV.int .u8))])]⟩]
          [(3, .int .i64 a3), (4, .int .i64 a4), (5, .int .i64 a5), (6, .ptr (.loc 0 0) 0), (7, .ptr (.loc 0 1) 0), (13, .ptr (.loc 5 1) 0)]
          (.cons [6] [] (fun _ _ h => .val (h _)) rfl rfl <|
          .cons [6] [] (fun _ _ h => .val (h _)) rfl rfl <|
          .cons [13] [] (fun _ _ h => .move (h _)) rfl rfl <|
          .cons [63, 65] [] (fun _ _ h => .litR (f := pv26) ([(⟨a0.Channels, a0.Capacity, a0.Written, a0.Read, a0.Data⟩ : Ring), y330.1] : List Ring) (h _)) rfl rfl <|
          .cons [66] [] (fun _ _ h => .lenL (f := pv26) (h _)) rfl rfl <|
          .cons [] [] (fun _ _ h => .move (h _)) rfl rfl <|
          .cons [] [] (fun _ _ h => .move (h _)) rfl rfl <|
          .nil)
          (.cons (fun x => x) [64] [] (fun _ _ h => .cH (.loc 5 1) (g19 hy330) (h _ _ (.cons rfl (.cons rfl (.cons rfl (.nil)))))) rfl (.old rfl (.old rfl (.new rfl (.new rfl (.new rfl (.old rfl (.old rfl (.old rfl (.old rfl (.old rfl (.old rfl (.old rfl (.nil))))))))))))) rfl rfl <|
          .nil)
          (by kernel_rfl) rfl (.cons rfl (.cons rfl (.cons rfl (.cons rfl (.cons rfl (.cons rfl (.nil))))))) (.nil) (.cons rfl (.cons rfl (.cons rfl (.nil)))) ?_
        refine .imp (T := St.of [(3, .int .i64 a3), (4, .int .i64 a4), (5, .int .i64 a5), (7, .ptr (.loc 0 1) 0), (13, .ptr (.loc 5 1) 0), (66, .sl 26 .ro (([(⟨a0.Channels, a0.Capacity, a0.Written, a0.Read, a0.Data⟩ : Ring), y330.1] : List Ring).map pv26)), (67, .int .i64 (([(⟨a0.Channels, a0.Capacity, a0.Written, a0.Read, a0.Data⟩ : Ring), y330.1] : List Ring).length : Int)), (68, .int .i64 0)] [((.loc 0 1), [.int .i64 a1.Channels, .sl 21 .ro (a1.Data.map (PV.int .i32))]), ((.loc 5 1), [.sl 5 .ro (y330.2.l.map (PV.int .u8))])]) (imp_of (.cons rfl (.cons rfl (.cons rfl (.cons rfl (.cons rfl (.cons rfl (.cons rfl (.cons rfl (.nil))))))))) (.cons rfl (.cons rfl (.nil)))) ?_
        refine .block ?_
        refine .loopI (fun m T => ∃ (v430 : (List Int)) (v431 : Int), T = St.of [(3, .int .i64 a3), (4, .int .i64 a4), (5, .int .i64 a5), (7, .ptr (.loc 0 1) 0), (13, .ptr (.loc 5 1) 0), (66, .sl 26 .ro (([(⟨a0.Channels, a0.Capacity, a0.Written, a0.Read, a0.Data⟩ : Ring), y330.1] : List Ring).map pv26)), (67, .int .i64 (([(⟨a0.Channels, a0.Capacity, a0.Written, a0.Read, a0.Data⟩ : Ring), y330.1] : List Ring).length : Int)), (68, .int .i64 v431)] [((.loc 0 1), [.int .i64 a1.Channels, .sl 21 .ro (a1.Data.map (PV.int .i32))]), ((.loc 5 1), [.sl 5 .ro (v430.map (PV.int .u8))])] ∧ f5_l1 n a0 a1 a3 j329 y330 m v430 v431 = some r) _ _ ⟨_, _, rfl, h⟩ (imp_of (.cons rfl (.cons rfl (.cons rfl (.cons rfl (.cons rfl (.cons rfl (.cons rfl (.cons rfl (.nil))))))))) (.cons rfl (.cons rfl (.nil)))) ?_
        rintro m533 T ⟨v430, v431, rfl, h⟩
        obtain _ | m533 := m533
        · rw [f5_l1] at h; cases h
        rw [f5_l1] at h
        refine .seq ?_
        refine .region ?_
        refine .val ?_
        refine .nil ?_
        refine .seq ?_
        refine .cond (fun hc535 => ?_) (fun hc535 => ?_)
        · replace h := (if_pos hc535).symm.trans h
          refine .skip ?_
          obtain ⟨j633, hj633, h⟩ := joinE h
          refine .cutI (fun T => (∃ (v632 : (List Int)), T = St.of [(3, .int .i64 a3), (4, .int .i64 a4), (5, .int .i64 a5), (7, .ptr (.loc 0 1) 0), (13, .ptr (.loc 5 1) 0), (66, .sl 26 .ro (([(⟨a0.Channels, a0.Capacity, a0.Written, a0.Read, a0.Data⟩ : Ring), y330.1] : List Ring).map pv26)), (67, .int .i64 (([(⟨a0.Channels, a0.Capacity, a0.Written, a0.Read, a0.Data⟩ : Ring), y330.1] : List Ring).length : Int)), (68, .int .i64 v431)] [((.loc 0 1), [.int .i64 a1.Channels, .sl 21 .ro (a1.Data.map (PV.int .i32))]), ((.loc 5 1), [.sl 5 .ro (v632.map (PV.int .u8))])] ∧ j633 v632 = some r)) ?_ ?_
          · refine .block ?_
            refine .seq ?_
            refine .region ?_
            obtain ⟨x634, hx634, h⟩ := bindE h
            refine .idxL (f := pv26) hx634 ?_
            refine .ldL hx634 (y := .agg [.int .i64 x634.Channels, .int .i64 x634.Capacity, .int .i64 x634.Written, .int .i64 x634.Read, .sl 21 .ro (x634.Data.map (PV.int .i32))]) ?_
            refine .allocL (cs := [.int .i64 0, .int .i64 0, .int .i64 0, .int .i64 0, .sl 21 .full []]) ?_
            refine .wrL (cs := [.int .i64 x634.Channels, .int .i64 x634.Capacity, .int .i64 x634.Written, .int .i64 x634.Read, .sl 21 .ro (x634.Data.map (PV.int .i32))]) ?_
            refine .nil ?_
            obtain ⟨j673, hj673, h⟩ := joinE h
            refine .cutI (fun T => (∃ (v672 : (List Int)), T = St.of [(3, .int .i64 a3), (4, .int .i64 a4), (5, .int .i64 a5), (7, .ptr (.loc 0 1) 0), (13, .ptr (.loc 5 1) 0), (15, .ptr (.loc 8 2) 0), (66, .sl 26 .ro (([(⟨a0.Channels, a0.Capacity, a0.Written, a0.Read, a0.Data⟩ : Ring), y330.1] : List Ring).map pv26)), (67, .int .i64 (([(⟨a0.Channels, a0.Capacity, a0.Written, a0.Read, a0.Data⟩ : Ring), y330.1] : List Ring).length : Int)), (68, .int .i64 v431)] [((.loc 0 1), [.int .i64 a1.Channels, .sl 21 .ro (a1.Data.map (PV.int .i32))]), ((.loc 5 1), [.sl 5 .ro (v672.map (PV.int .u8))]), ((.loc 8 2), [.int .i64 x634.Channels, .int .i64 x634.Capacity, .int .i64 x634.Written, .int .i64 x634.Read, .sl 21 .ro (x634.Data.map (PV.int .i32))])] ∧ j673 v672 = some r)) ?_ ?_
            · refine .seq ?_
              obtain ⟨y674, hy674, h⟩ := bindE h
              obtain ⟨y675, hy675, h⟩ := bindE h
              refine .draw [2] [[], [], [], [2], [2], [2], []] [[], [2], [], [], [], [], []] [[], [2]]
                [(0, 0), (0, 1), (1, 0), (3, 1), (4, 1), (5, 1), (6, 0), (6, 1)] [(0, 2, 1)] 1
                [⟨[(72, .agg [.int .i64 a1.Channels, .sl 21 .ro (a1.Data.map (PV.int .i32))]), (73, .ptr (.loc 5 1) 0), (78, .int .i64 0), (3, .int .i64 a3), (4, .int .i64 a4), (5, .int .i64 a5), (7, .ptr (.loc 0 1) 0), (13, .ptr (.loc 5 1) 0), (15, .ptr (.loc 8 2) 0), (66, .sl 26 .ro (([(⟨a0.Channels, a0.Capacity, a0.Written, a0.Read, a0.Data⟩ : Ring), y330.1] : List Ring).map pv26)), (67, .int .i64 (([(⟨a0.Channels, a0.Capacity, a0.Written, a0.Read, a0.Data⟩ : Ring), y330.1] : List Ring).length : Int)), (68, .int .i64 v431)], [], [((.loc 0 1), [.int .i64 a1.Channels, .sl 21 .ro (a1.Data.map (PV.int .i32))]), ((.loc 5 1), [.sl 5 .ro (v430.map (PV.int .u8))]), ((.loc 8 2), [.int .i64 x634.Channels, .int .i64 x634.Capacity, .int .i64 x634.Written, .int .i64 x634.Read, .sl 21 .ro (x634.Data.map (PV.int .i32))])]⟩,
                ⟨[(72, .agg [.int .i64 a1.Channels, .sl 21 .ro (a1.Data.map (PV.int .i32))]), (73, .ptr (.loc 5 1) 0), (74, .int .i64 y674.1), (75, .agg [.int .i64 y675.Channels, .sl 21 .ro (y675.Data.map (PV.int .i32))]), (76, .sl 32 .ro (([(⟨a1.Channels, a1.Data⟩ : Block), y675] : List Block).map pv32)), (77, .int .i64 (([(⟨a1.Channels, a1.Data⟩ : Block), y675] : List Block).length : Int)), (78, .int .i64 0), (3, .int .i64 a3), (4, .int .i64 a4), (5, .int .i64 a5), (7, .ptr (.loc 0 1) 0), (13, .ptr (.loc 5 1) 0), (15, .ptr (.loc 8 2) 0), (66, .sl 26 .ro (([(⟨a0.Channels, a0.Capacity, a0.Written, a0.Read, a0.Data⟩ : Ring), y330.1] : List Ring).map pv26)), (67, .int .i64 (([(⟨a0.Channels, a0.Capacity, a0.Written, a0.Read, a0.Data⟩ : Ring), y330.1] : List Ring).length : Int)), (68, .int .i64 v431)], [], [((.loc 0 1), [.int .i64 a1.Channels, .sl 21 .ro (a1.Data.map (PV.int .i32))]), ((.loc 5 1), [.sl 5 .ro (y674.2.l.map (PV.int .u8))]), ((.loc 8 2), [.int .i64 x634.Channels, .int .i64 x634.Capacity, .int .i64 x634.Written, .int .i64 x634.Read, .sl 21 .ro (x634.Data.map (PV.int .i32))])]⟩]
                [(3, .int .i64 a3), (4, .int .i64 a4), (5, .int .i64 a5), (7, .ptr (.loc 0 1) 0), (13, .ptr (.loc 5 1) 0), (15, .ptr (.loc 8 2) 0), (66, .sl 26 .ro (([(⟨a0.Channels, a0.Capacity, a0.Written, a0.Read, a0.Data⟩ : Ring), y330.1] : List Ring).map pv26)), (67, .int .i64 (([(⟨a0.Channels, a0.Capacity, a0.Written, a0.Read, a0.Data⟩ : Ring), y330.1] : List Ring).length : Int)), (68, .int .i64 v431)]
                (.cons [7] [] (fun _ _ h => .val (h _)) rfl rfl <|
                .cons [7] [] (fun _ _ h => .val (h _)) rfl rfl <|
                .cons [13] [] (fun _ _ h => .move (h _)) rfl rfl <|
                .cons [74] [] (fun _ _ h => .cP (g21 hy675) (h _)) rfl rfl <|
                .cons [72, 75] [] (fun _ _ h => .litR (f := pv32) ([(⟨a1.Channels, a1.Data⟩ : Block), y675] : List Block) (h _)) rfl rfl <|
                .cons [76] [] (fun _ _ h => .lenL (f := pv32) (h _)) rfl rfl <|
                .cons [] [] (fun _ _ h => .move (h _)) rfl rfl <|
                .cons [] [] (fun _ _ h => .move (h _)) rfl rfl <|
                .nil)
                (.cons (fun x => x) [73] [] (fun _ _ h => .cH (.loc 5 1) (g26 hy674) (h _ _ (.cons rfl (.cons rfl (.cons rfl (.nil)))))) rfl (.old rfl (.old rfl (.new rfl (.new rfl (.new rfl (.new rfl (.old rfl (.old rfl (.old rfl (.old rfl (.old rfl (.old rfl (.old rfl (.old rfl (.old rfl (.old rfl (.nil))))))))))))))))) rfl rfl <|
                .nil)
                (by kernel_rfl) rfl (.cons rfl (.cons rfl (.cons rfl (.cons rfl (.cons rfl (.cons rfl (.cons rfl (.cons rfl (.cons rfl (.nil)))))))))) (.nil) (.cons rfl (.cons rfl (.cons rfl (.nil)))) ?_
              refine .imp (T := St.of [(3, .int .i64 a3), (4, .int .i64 a4), (5, .int .i64 a5), (7, .ptr (.loc 0 1) 0), (13, .ptr (.loc 5 1) 0), (15, .ptr (.loc 8 2) 0), (66, .sl 26 .ro (([(⟨a0.Channels, a0.Capacity, a0.Written, a0.Read, a0.Data⟩ : Ring), y330.1] : List Ring).map pv26)), (67, .int .i64 (([(⟨a0.Channels, a0.Capacity, a0.Written, a0.Read, a0.Data⟩ : Ring), y330.1] : List Ring).length : Int)), (68, .int .i64 v431), (76, .sl 32 .ro (([(⟨a1.Channels, a1.Data⟩ : Block), y675] : List Block).map pv32)), (77, .int .i64 (([(⟨a1.Channels, a1.Data⟩ : Block), y675] : List Block).length : Int)), (78, .int .i64 0)] [((.loc 0 1), [.int .i64 a1.Channels, .sl 21 .ro (a1.Data.map (PV.int .i32))]), ((.loc 5 1), [.sl 5 .ro (y674.2.l.map (PV.int .u8))]), ((.loc 8 2), [.int .i64 x634.Channels, .int .i64 x634.Capacity, .int .i64 x634.Written, .int .i64 x634.Read, .sl 21 .ro (x634.Data.map (PV.int .i32))])]) (imp_of (.cons rfl (.cons rfl (.cons rfl (.cons rfl (.cons rfl (.cons rfl (.cons rfl (.cons rfl (.cons rfl (.cons rfl (.cons rfl (.cons rfl (.nil))))))))))))) (.cons rfl (.cons rfl (.cons rfl (.nil))))) ?_
              refine .block ?_
              refine .loopI (fun m T => ∃ (v687 : Int), T = St.of [(3, .int .i64 a3), (4, .int .i64 a4), (5, .int .i64 a5), (7, .ptr (.loc 0 1) 0), (13, .ptr (.loc 5 1) 0), (15, .ptr (.loc 8 2) 0), (66, .sl 26 .ro (([(⟨a0.Channels, a0.Capacity, a0.Written, a0.Read, a0.Data⟩ : Ring), y330.1] : List Ring).map pv26)), (67, .int .i64 (([(⟨a0.Channels, a0.Capacity, a0.Written, a0.Read, a0.Data⟩ : Ring), y330.1] : List Ring).length : Int)), (68, .int .i64 v431), (76, .sl 32 .ro (([(⟨a1.Channels, a1.Data⟩ : Block), y675] : List Block).map pv32)), (77, .int .i64 (([(⟨a1.Channels, a1.Data⟩ : Block), y675] : List Block).length : Int)), (78, .int .i64 v687)] [((.loc 0 1), [.int .i64 a1.Channels, .sl 21 .ro (a1.Data.map (PV.int .i32))]), ((.loc 5 1), [.sl 5 .ro (y674.2.l.map (PV.int .u8))]), ((.loc 8 2), [.int .i64 x634.Channels, .int .i64 x634.Capacity, .int .i64 x634.Written, .int .i64 x634.Read, .sl 21 .ro (x634.Data.map (PV.int .i32))])] ∧ f5_l2 n a1 x634 j673 y674 y675 m v687 = some r) _ _ ⟨_, rfl, h⟩ (imp_of (.cons rfl (.cons rfl (.cons rfl (.cons rfl (.cons rfl (.cons rfl (.cons rfl (.cons rfl (.cons rfl (.cons rfl (.cons rfl (.cons rfl (.nil))))))))))))) (.cons rfl (.cons rfl (.cons rfl (.nil))))) ?_
              rintro m700 T ⟨v687, rfl, h⟩
              obtain _ | m700 := m700
              · rw [f5_l2] at h; cases h
              rw [f5_l2] at h
              refine .seq ?_
              refine .region ?_
              refine .val ?_
              refine .nil ?_
              refine .seq ?_
              refine .cond (fun hc702 => ?_) (fun hc702 => ?_)
              · replace h := (if_pos hc702).symm.trans h
                refine .skip ?_
                refine .seq ?_
                refine .block ?_
                refine .seq ?_
                refine .region ?_
                obtain ⟨x713, hx713, h⟩ := bindE h
                refine .idxL (f := pv32) hx713 ?_
                refine .ldL hx713 (y := .agg [.int .i64 x713.Channels, .sl 21 .ro (x713.Data.map (PV.int .i32))]) ?_
                refine .allocL (cs := [.int .i64 0, .sl 21 .full []]) ?_
                refine .wrL (cs := [.int .i64 x713.Channels, .sl 21 .ro (x713.Data.map (PV.int .i32))]) ?_
                refine .nil ?_
                refine .seq ?_
                refine .region ?_
                refine .val (v := .agg [.int .i64 x634.Channels, .int .i64 x634.Capacity, .int .i64 x634.Written, .int .i64 x634.Read, .sl 21 .ro (x634.Data.map (PV.int .i32))]) ?_
                refine .val (v := .agg [.int .i64 x713.Channels, .sl 21 .ro (x713.Data.map (PV.int .i32))]) ?_
                obtain ⟨y714, hy714, h⟩ := bindE h
                refine .cP (g16 hy714) ?_
                refine .move ?_
                refine .val ?_
                refine .val ?_
                refine .val ?_
                refine .allocL (cs := [.int .i64 0, .int .i64 0, .int .i64 0, .int .i64 0, .sl 21 .full []]) ?_
                refine .wrL (cs := [.int .i64 y714.1.Channels, .int .i64 y714.1.Capacity, .int .i64 y714.1.Written, .int .i64 y714.1.Read, .sl 21 .ro (y714.1.Data.map (PV.int .i32))]) ?_
                refine .assign ?_
                refine .assign ?_
                refine .nil ?_
                refine .seq ?_
                refine .region ?_
                refine .val (v := .agg [.int .i64 x634.Channels, .int .i64 x634.Capacity, .int .i64 x634.Written, .int .i64 x634.Read, .sl 21 .ro (x634.Data.map (PV.int .i32))]) ?_
                refine .val (v := .agg [.int .i64 x713.Channels, .sl 21 .ro (x713.Data.map (PV.int .i32))]) ?_
                obtain ⟨y715, hy715, h⟩ := bindE h
                refine .cP (g27 hy715) ?_
                refine .move ?_
                refine .val ?_
                refine .val ?_
                refine .val ?_
                refine .allocL (cs := [.int .i64 0, .int .i64 0, .int .i64 0, .int .i64 0, .sl 21 .full []]) ?_
                refine .wrL (cs := [.int .i64 y715.1.Channels, .int .i64 y715.1.Capacity, .int .i64 y715.1.Written, .int .i64 y715.1.Read, .sl 21 .ro (y715.1.Data.map (PV.int .i32))]) ?_
                refine .assign ?_
                refine .assign ?_
                refine .nil ?_
                refine .imp (T := St.of [(3, .int .i64 a3), (4, .int .i64 a4), (5, .int .i64 a5), (7, .ptr (.loc 0 1) 0), (13, .ptr (.loc 5 1) 0), (15, .ptr (.loc 8 2) 0), (18, .ptr (.loc 12 7) 0), (19, .int .i64 y714.2.1), (20, .int .i64 y714.2.2), (21, .ptr (.loc 13 7) 0), (22, .int .i64 y715.2.1), (23, .int .i64 y715.2.2), (66, .sl 26 .ro (([(⟨a0.Channels, a0.Capacity, a0.Written, a0.Read, a0.Data⟩ : Ring), y330.1] : List Ring).map pv26)), (67, .int .i64 (([(⟨a0.Channels, a0.Capacity, a0.Written, a0.Read, a0.Data⟩ : Ring), y330.1] : List Ring).length : Int)), (68, .int .i64 v431), (76, .sl 32 .ro (([(⟨a1.Channels, a1.Data⟩ : Block), y675] : List Block).map pv32)), (77, .int .i64 (([(⟨a1.Channels, a1.Data⟩ : Block), y675] : List Block).length : Int)), (78, .int .i64 v687)] [((.loc 0 1), [.int .i64 a1.Channels, .sl 21 .ro (a1.Data.map (PV.int .i32))]), ((.loc 5 1), [.sl 5 .ro (y674.2.l.map (PV.int .u8))]), ((.loc 8 2), [.int .i64 x634.Channels, .int .i64 x634.Capacity, .int .i64 x634.Written, .int .i64 x634.Read, .sl 21 .ro (x634.Data.map (PV.int .i32))]), ((.loc 12 7), [.int .i64 y714.1.Channels, .int .i64 y714.1.Capacity, .int .i64 y714.1.Written, .int .i64 y714.1.Read, .sl 21 .ro (y714.1.Data.map (PV.int .i32))]), ((.loc 13 7), [.int .i64 y715.1.Channels, .int .i64 y715.1.Capacity, .int .i64 y715.1.Written, .int .i64 y715.1.Read, .sl 21 .ro (y715.1.Data.map (PV.int .i32))])]) (imp_of (.cons rfl (.cons rfl (.cons rfl (.cons rfl (.cons rfl (.cons rfl (.cons rfl (.cons rfl (.cons rfl (.cons rfl (.cons rfl (.cons rfl (.cons rfl (.cons rfl (.cons rfl (.cons rfl (.cons rfl (.cons rfl (.nil))))))))))))))))))) (.cons rfl (.cons rfl (.cons rfl (.cons rfl (.cons rfl (.nil))))))) ?_
                obtain ⟨j719, hj719, h⟩ := joinE h
                obtain ⟨j721, hj721, h⟩ := joinE h
                refine .cutI (fun T => (T = St.of [(3, .int .i64 a3), (4, .int .i64 a4), (5, .int .i64 a5), (7, .ptr (.loc 0 1) 0), (13, .ptr (.loc 5 1) 0), (15, .ptr (.loc 8 2) 0), (66, .sl 26 .ro (([(⟨a0.Channels, a0.Capacity, a0.Written, a0.Read, a0.Data⟩ : Ring), y330.1] : List Ring).map pv26)), (67, .int .i64 (([(⟨a0.Channels, a0.Capacity, a0.Written, a0.Read, a0.Data⟩ : Ring), y330.1] : List Ring).length : Int)), (68, .int .i64 v431), (76, .sl 32 .ro (([(⟨a1.Channels, a1.Data⟩ : Block), y675] : List Block).map pv32)), (77, .int .i64 (([(⟨a1.Channels, a1.Data⟩ : Block), y675] : List Block).length : Int)), (78, .int .i64 v687), (109, .bool true)] [((.loc 0 1), [.int .i64 a1.Channels, .sl 21 .ro (a1.Data.map (PV.int .i32))]), ((.loc 5 1), [.sl 5 .ro (y674.2.l.map (PV.int .u8))]), ((.loc 8 2), [.int .i64 x634.Channels, .int .i64 x634.Capacity, .int .i64 x634.Written, .int .i64 x634.Read, .sl 21 .ro (x634.Data.map (PV.int .i32))])] ∧ j719 () = some r) ∨ (∃ (v720 : Bool), T = St.of [(3, .int .i64 a3), (4, .int .i64 a4), (5, .int .i64 a5), (7, .ptr (.loc 0 1) 0), (13, .ptr (.loc 5 1) 0), (15, .ptr (.loc 8 2) 0), (66, .sl 26 .ro (([(⟨a0.Channels, a0.Capacity, a0.Written, a0.Read, a0.Data⟩ : Ring), y330.1] : List Ring).map pv26)), (67, .int .i64 (([(⟨a0.Channels, a0.Capacity, a0.Written, a0.Read, a0.Data⟩ : Ring), y330.1] : List Ring).length : Int)), (68, .int .i64 v431), (76, .sl 32 .ro (([(⟨a1.Channels, a1.Data⟩ : Block), y675] : List Block).map pv32)), (77, .int .i64 (([(⟨a1.Channels, a1.Data⟩ : Block), y675] : List Block).length : Int)), (78, .int .i64 v687), (109, .bool v720)] [((.loc 0 1), [.int .i64 a1.Channels, .sl 21 .ro (a1.Data.map (PV.int .i32))]), ((.loc 5 1), [.sl 5 .ro (y674.2.l.map (PV.int .u8))]), ((.loc 8 2), [.int .i64 x634.Channels, .int .i64 x634.Capacity, .int .i64 x634.Written, .int .i64 x634.Read, .sl 21 .ro (x634.Data.map (PV.int .i32))])] ∧ j721 v720 = some r)) ?_ ?_
                · refine .region ?_
                  refine .move ?_
                  refine .move ?_
                  refine .val ?_
                  refine .move ?_
                  refine .caseG (fun hc722 => ?_) (fun hc722 => ?_)
                  · replace h := (if_pos hc722).symm.trans h
                    refine .skip ?_
                    refine .skip ?_
                    refine .skip ?_
                    refine .brT ?_
                    refine .move ?_
                    refine .skip ?_
                    refine .skip ?_
                    refine .skip ?_
                    refine .skip ?_
                    refine .brT ?_
                    refine .nil ?_
                    exact ⟨_, (.inl ⟨rfl, h⟩), (imp_of (.cons rfl (.cons rfl (.cons rfl (.cons rfl (.cons rfl (.cons rfl (.cons rfl (.cons rfl (.cons rfl (.cons rfl (.cons rfl (.cons rfl (.cons rfl (.nil)))))))))))))) (.cons rfl (.cons rfl (.cons rfl (.nil)))))⟩
                  · replace h := (if_neg (nt hc722)).symm.trans h
                    refine .move ?_
                    refine .move ?_
                    refine .val ?_
                    refine .brF ?_
                    refine .move ?_
                    refine .caseG (fun hc723 => ?_) (fun hc723 => ?_)
                    · replace h := (if_pos hc723).symm.trans h
                      refine .skip ?_
                      refine .skip ?_
                      refine .skip ?_
                      refine .skip ?_
                      refine .brT ?_
                      refine .nil ?_
                      exact ⟨_, (.inl ⟨rfl, h⟩), (imp_of (.cons rfl (.cons rfl (.cons rfl (.cons rfl (.cons rfl (.cons rfl (.cons rfl (.cons rfl (.cons rfl (.cons rfl (.cons rfl (.cons rfl (.cons rfl (.nil)))))))))))))) (.cons rfl (.cons rfl (.cons rfl (.nil)))))⟩
                    · replace h := (if_neg (nt hc723)).symm.trans h
                      refine .val (v := .agg [.int .i64 y714.1.Channels, .int .i64 y714.1.Capacity, .int .i64 y714.1.Written, .int .i64 y714.1.Read, .sl 21 .ro (y714.1.Data.map (PV.int .i32))]) ?_
                      refine .val (v := .agg [.int .i64 y715.1.Channels, .int .i64 y715.1.Capacity, .int .i64 y715.1.Written, .int .i64 y715.1.Read, .sl 21 .ro (y715.1.Data.map (PV.int .i32))]) ?_
                      obtain ⟨y724, hy724, h⟩ := bindE h
                      refine .cP (g23 hy724) ?_
                      refine .val ?_
                      refine .brF ?_
                      refine .nil ?_
                      exact ⟨_, (.inr (⟨_, rfl, h⟩)), (imp_of (.cons rfl (.cons rfl (.cons rfl (.cons rfl (.cons rfl (.cons rfl (.cons rfl (.cons rfl (.cons rfl (.cons rfl (.cons rfl (.cons rfl (.cons rfl (.nil)))))))))))))) (.cons rfl (.cons rfl (.cons rfl (.nil)))))⟩
                · rintro T (⟨rfl, h⟩ | ⟨v720, rfl, h⟩)
                  · subst hj719
                    refine .condT ?_
                    refine .seq ?_
                    refine .region ?_
                    refine .assign ?_
                    refine .nil ?_
                    cases h
                    exact .ret (fin_gen0 none)
                  · subst hj721
                    refine .cond (fun hc725 => ?_) (fun hc725 => ?_)
                    · replace h := (if_pos hc725).symm.trans h
                      refine .seq ?_
                      refine .region ?_
                      refine .assign ?_
                      refine .nil ?_
                      cases h
                      exact .ret (fin_gen0 none)
                    · replace h := (if_neg (nt hc725)).symm.trans h
                      refine .skip ?_
                      refine .region ?_
                      refine .val ?_
                      refine .move ?_
                      refine .nil ?_
                      exact ⟨m700, _, Nat.lt_succ_self m700, ⟨_, rfl, h⟩, (imp_of (.cons rfl (.cons rfl (.cons rfl (.cons rfl (.cons rfl (.cons rfl (.cons rfl (.cons rfl (.cons rfl (.cons rfl (.cons rfl (.cons rfl (.nil))))))))))))) (.cons rfl (.cons rfl (.cons rfl (.nil)))))⟩
              · replace h := (if_neg (nt hc702)).symm.trans h
                refine .exit (.hit ?_)
                exact ⟨_, ⟨_, rfl, h⟩, (imp_of (.cons rfl (.cons rfl (.cons rfl (.cons rfl (.cons rfl (.cons rfl (.cons rfl (.cons rfl (.cons rfl (.nil)))))))))) (.cons rfl (.cons rfl (.cons rfl (.nil)))))⟩
            · rintro T ⟨v672, rfl, h⟩
              subst hj673
              obtain ⟨j767, hj767, h⟩ := joinE h
              refine .cutI (fun T => (T = St.of [(3, .int .i64 a3), (4, .int .i64 a4), (5, .int .i64 a5), (7, .ptr (.loc 0 1) 0), (13, .ptr (.loc 5 1) 0), (15, .ptr (.loc 8 2) 0), (66, .sl 26 .ro (([(⟨a0.Channels, a0.Capacity, a0.Written, a0.Read, a0.Data⟩ : Ring), y330.1] : List Ring).map pv26)), (67, .int .i64 (([(⟨a0.Channels, a0.Capacity, a0.Written, a0.Read, a0.Data⟩ : Ring), y330.1] : List Ring).length : Int)), (68, .int .i64 v431)] [((.loc 0 1), [.int .i64 a1.Channels, .sl 21 .ro (a1.Data.map (PV.int .i32))]), ((.loc 5 1), [.sl 5 .ro (v672.map (PV.int .u8))]), ((.loc 8 2), [.int .i64 x634.Channels, .int .i64 x634.Capacity, .int .i64 x634.Written, .int .i64 x634.Read, .sl 21 .ro (x634.Data.map (PV.int .i32))])] ∧ j767 () = some r)) ?_ ?_
              · refine .seq ?_
                refine .region ?_
                refine .move ?_
                refine .move ?_
                refine .val ?_ (hc := by decide)
                refine .val ?_
                refine .val ?_ (hc := by decide)
                refine .litR (f := (PV.int .i64)) ([a3, Int.tmod (w64 ((Int.tmod a3 (20 : Int)) + (20 : Int))) (20 : Int)] : List Int) ?_
                refine .lenL (f := (PV.int .i64)) ?_
                refine .move ?_
                refine .nil ?_
                refine .block ?_
                refine .loopI (fun m T => ∃ (v781 : Int), T = St.of [(3, .int .i64 a3), (4, .int .i64 a4), (5, .int .i64 a5), (7, .ptr (.loc 0 1) 0), (13, .ptr (.loc 5 1) 0), (15, .ptr (.loc 8 2) 0), (66, .sl 26 .ro (([(⟨a0.Channels, a0.Capacity, a0.Written, a0.Read, a0.Data⟩ : Ring), y330.1] : List Ring).map pv26)), (67, .int .i64 (([(⟨a0.Channels, a0.Capacity, a0.Written, a0.Read, a0.Data⟩ : Ring), y330.1] : List Ring).length : Int)), (68, .int .i64 v431), (116, .sl 3 .ro (([a3, Int.tmod (w64 ((Int.tmod a3 (20 : Int)) + (20 : Int))) (20 : Int)] : List Int).map (PV.int .i64))), (117, .int .i64 (([a3, Int.tmod (w64 ((Int.tmod a3 (20 : Int)) + (20 : Int))) (20 : Int)] : List Int).length : Int)), (118, .int .i64 v781)] [((.loc 0 1), [.int .i64 a1.Channels, .sl 21 .ro (a1.Data.map (PV.int .i32))]), ((.loc 5 1), [.sl 5 .ro (v672.map (PV.int .u8))]), ((.loc 8 2), [.int .i64 x634.Channels, .int .i64 x634.Capacity, .int .i64 x634.Written, .int .i64 x634.Read, .sl 21 .ro (x634.Data.map (PV.int .i32))])] ∧ f5_l3 n a3 x634 j767 m v781 = some r) _ _ ⟨_, rfl, h⟩ (imp_of (.cons rfl (.cons rfl (.cons rfl (.cons rfl (.cons rfl (.cons rfl (.cons rfl (.cons rfl (.cons rfl (.cons rfl (.cons rfl (.cons rfl (.nil))))))))))))) (.cons rfl (.cons rfl (.cons rfl (.nil))))) ?_
                rintro m796 T ⟨v781, rfl, h⟩
                obtain _ | m796 := m796
                · rw [f5_l3] at h; cases h
                rw [f5_l3] at h
                refine .seq ?_
                refine .region ?_
                refine .val ?_
                refine .nil ?_
                refine .seq ?_
                refine .cond (fun hc798 => ?_) (fun hc798 => ?_)
                · replace h := (if_pos hc798).symm.trans h
                  refine .skip ?_
                  refine .seq ?_
                  refine .block ?_
                  refine .seq ?_
                  refine .region ?_
                  obtain ⟨x811, hx811, h⟩ := bindE h
                  refine .idxL (f := (PV.int .i64)) hx811 ?_
                  refine .ldL hx811 (y := .int .i64 x811) ?_
                  refine .assign ?_
                  refine .nil ?_
                  refine .seq ?_
                  refine .region ?_
                  refine .val (v := .agg [.int .i64 x634.Channels, .int .i64 x634.Capacity, .int .i64 x634.Written, .int .i64 x634.Read, .sl 21 .ro (x634.Data.map (PV.int .i32))]) ?_
                  refine .move ?_
                  obtain ⟨y812, hy812, h⟩ := bindE h
                  refine .cP (g17 hy812) ?_
                  refine .move ?_
                  refine .val ?_
                  refine .val ?_
                  refine .val ?_
                  refine .val ?_
                  refine .allocL (cs := [.int .i64 0, .sl 21 .full []]) ?_
                  refine .allocL (cs := [.int .i64 0, .int .i64 0, .int .i64 0, .int .i64 0, .sl 21 .full []]) ?_
                  refine .wrL (cs := [.int .i64 y812.1.Channels, .sl 21 .ro (y812.1.Data.map (PV.int .i32))]) ?_
                  refine .assign ?_
                  refine .wrL (cs := [.int .i64 y812.2.2.1.Channels, .int .i64 y812.2.2.1.Capacity, .int .i64 y812.2.2.1.Written, .int .i64 y812.2.2.1.Read, .sl 21 .ro (y812.2.2.1.Data.map (PV.int .i32))]) ?_
                  refine .assign ?_
                  refine .nil ?_
                  refine .seq ?_
                  refine .region ?_
                  refine .val (v := .agg [.int .i64 x634.Channels, .int .i64 x634.Capacity, .int .i64 x634.Written, .int .i64 x634.Read, .sl 21 .ro (x634.Data.map (PV.int .i32))]) ?_
                  refine .move ?_
                  obtain ⟨y813, hy813, h⟩ := bindE h
                  refine .cP (g28 hy813) ?_
                  refine .move ?_
                  refine .val ?_
                  refine .val ?_
                  refine .val ?_
                  refine .val ?_
                  refine .allocL (cs := [.int .i64 0, .sl 21 .full []]) ?_
                  refine .allocL (cs := [.int .i64 0, .int .i64 0, .int .i64 0, .int .i64 0, .sl 21 .full []]) ?_
                  refine .wrL (cs := [.int .i64 y813.1.Channels, .sl 21 .ro (y813.1.Data.map (PV.int .i32))]) ?_
                  refine .assign ?_
                  refine .wrL (cs := [.int .i64 y813.2.2.1.Channels, .int .i64 y813.2.2.1.Capacity, .int .i64 y813.2.2.1.Written, .int .i64 y813.2.2.1.Read, .sl 21 .ro (y813.2.2.1.Data.map (PV.int .i32))]) ?_
                  refine .assign ?_
                  refine .nil ?_
                  refine .imp (T := St.of [(3, .int .i64 a3), (4, .int .i64 a4), (5, .int .i64 a5), (7, .ptr (.loc 0 1) 0), (13, .ptr (.loc 5 1) 0), (15, .ptr (.loc 8 2) 0), (26, .ptr (.loc 20 8) 0), (27, .int .i64 y812.2.1), (28, .ptr (.loc 20 9) 0), (29, .int .i64 y812.2.2.2), (30, .ptr (.loc 21 8) 0), (31, .int .i64 y813.2.1), (32, .ptr (.loc 21 9) 0), (33, .int .i64 y813.2.2.2), (66, .sl 26 .ro (([(⟨a0.Channels, a0.Capacity, a0.Written, a0.Read, a0.Data⟩ : Ring), y330.1] : List Ring).map pv26)), (67, .int .i64 (([(⟨a0.Channels, a0.Capacity, a0.Written, a0.Read, a0.Data⟩ : Ring), y330.1] : List Ring).length : Int)), (68, .int .i64 v431), (116, .sl 3 .ro (([a3, Int.tmod (w64 ((Int.tmod a3 (20 : Int)) + (20 : Int))) (20 : Int)] : List Int).map (PV.int .i64))), (117, .int .i64 (([a3, Int.tmod (w64 ((Int.tmod a3 (20 : Int)) + (20 : Int))) (20 : Int)] : List Int).length : Int)), (118, .int .i64 v781)] [((.loc 0 1), [.int .i64 a1.Channels, .sl 21 .ro (a1.Data.map (PV.int .i32))]), ((.loc 5 1), [.sl 5 .ro (v672.map (PV.int .u8))]), ((.loc 8 2), [.int .i64 x634.Channels, .int .i64 x634.Capacity, .int .i64 x634.Written, .int .i64 x634.Read, .sl 21 .ro (x634.Data.map (PV.int .i32))]), ((.loc 20 8), [.int .i64 y812.1.Channels, .sl 21 .ro (y812.1.Data.map (PV.int .i32))]), ((.loc 20 9), [.int .i64 y812.2.2.1.Channels, .int .i64 y812.2.2.1.Capacity, .int .i64 y812.2.2.1.Written, .int .i64 y812.2.2.1.Read, .sl 21 .ro (y812.2.2.1.Data.map (PV.int .i32))]), ((.loc 21 8), [.int .i64 y813.1.Channels, .sl 21 .ro (y813.1.Data.map (PV.int .i32))]), ((.loc 21 9), [.int .i64 y813.2.2.1.Channels, .int .i64 y813.2.2.1.Capacity, .int .i64 y813.2.2.1.Written, .int .i64 y813.2.2.1.Read, .sl 21 .ro (y813.2.2.1.Data.map (PV.int .i32))])]) (imp_of (.cons rfl (.cons rfl (.cons rfl (.cons rfl (.cons rfl (.cons rfl (.cons rfl (.cons rfl (.cons rfl (.cons rfl (.cons rfl (.cons rfl (.cons rfl (.cons rfl (.cons rfl (.cons rfl (.cons rfl (.cons rfl (.cons rfl (.cons rfl (.nil))))))))))))))))))))) (.cons rfl (.cons rfl (.cons rfl (.cons rfl (.cons rfl (.cons rfl (.cons rfl (.nil))))))))) ?_
                  obtain ⟨j819, hj819, h⟩ := joinE h
                  obtain ⟨j821, hj821, h⟩ := joinE h
                  refine .cutI (fun T => (T = St.of [(3, .int .i64 a3), (4, .int .i64 a4), (5, .int .i64 a5), (7, .ptr (.loc 0 1) 0), (13, .ptr (.loc 5 1) 0), (15, .ptr (.loc 8 2) 0), (66, .sl 26 .ro (([(⟨a0.Channels, a0.Capacity, a0.Written, a0.Read, a0.Data⟩ : Ring), y330.1] : List Ring).map pv26)), (67, .int .i64 (([(⟨a0.Channels, a0.Capacity, a0.Written, a0.Read, a0.Data⟩ : Ring), y330.1] : List Ring).length : Int)), (68, .int .i64 v431), (116, .sl 3 .ro (([a3, Int.tmod (w64 ((Int.tmod a3 (20 : Int)) + (20 : Int))) (20 : Int)] : List Int).map (PV.int .i64))), (117, .int .i64 (([a3, Int.tmod (w64 ((Int.tmod a3 (20 : Int)) + (20 : Int))) (20 : Int)] : List Int).length : Int)), (118, .int .i64 v781), (157, .bool true)] [((.loc 0 1), [.int .i64 a1.Channels, .sl 21 .ro (a1.Data.map (PV.int .i32))]), ((.loc 5 1), [.sl 5 .ro (v672.map (PV.int .u8))]), ((.loc 8 2), [.int .i64 x634.Channels, .int .i64 x634.Capacity, .int .i64 x634.Written, .int .i64 x634.Read, .sl 21 .ro (x634.Data.map (PV.int .i32))])] ∧ j819 () = some r) ∨ (∃ (v820 : Bool), T = St.of [(3, .int .i64 a3), (4, .int .i64 a4), (5, .int .i64 a5), (7, .ptr (.loc 0 1) 0), (13, .ptr (.loc 5 1) 0), (15, .ptr (.loc 8 2) 0), (66, .sl 26 .ro (([(⟨a0.Channels, a0.Capacity, a0.Written, a0.Read, a0.Data⟩ : Ring), y330.1] : List Ring).map pv26)), (67, .int .i64 (([(⟨a0.Channels, a0.Capacity, a0.Written, a0.Read, a0.Data⟩ : Ring), y330.1] : List Ring).length : Int)), (68, .int .i64 v431), (116, .sl 3 .ro (([a3, Int.tmod (w64 ((Int.tmod a3 (20 : Int)) + (20 : Int))) (20 : Int)] : List Int).map (PV.int .i64))), (117, .int .i64 (([a3, Int.tmod (w64 ((Int.tmod a3 (20 : Int)) + (20 : Int))) (20 : Int)] : List Int).length : Int)), (118, .int .i64 v781), (157, .bool v820)] [((.loc 0 1), [.int .i64 a1.Channels, .sl 21 .ro (a1.Data.map (PV.int .i32))]), ((.loc 5 1), [.sl 5 .ro (v672.map (PV.int .u8))]), ((.loc 8 2), [.int .i64 x634.Channels, .int .i64 x634.Capacity, .int .i64 x634.Written, .int .i64 x634.Read, .sl 21 .ro (x634.Data.map (PV.int .i32))])] ∧ j821 v820 = some r)) ?_ ?_
                  · refine .region ?_
                    refine .move ?_
                    refine .move ?_
                    refine .val ?_
                    refine .move ?_
                    refine .caseG (fun hc822 => ?_) (fun hc822 => ?_)
                    · replace h := (if_pos hc822).symm.trans h
                      refine .skip ?_
                      refine .skip ?_
                      refine .skip ?_
                      refine .brT ?_
                      refine .move ?_
                      refine .skip ?_
                      refine .skip ?_
                      refine .skip ?_
                      refine .skip ?_
                      refine .brT ?_
                      refine .move ?_
                      refine .skip ?_
                      refine .skip ?_
                      refine .skip ?_
                      refine .skip ?_
                      refine .brT ?_
                      refine .nil ?_
                      exact ⟨_, (.inl ⟨rfl, h⟩), (imp_of (.cons rfl (.cons rfl (.cons rfl (.cons rfl (.cons rfl (.cons rfl (.cons rfl (.cons rfl (.cons rfl (.cons rfl (.cons rfl (.cons rfl (.cons rfl (.nil)))))))))))))) (.cons rfl (.cons rfl (.cons rfl (.nil)))))⟩
                    · replace h := (if_neg (nt hc822)).symm.trans h
                      refine .move ?_
                      refine .move ?_
                      refine .val ?_
                      refine .brF ?_
                      refine .move ?_
                      refine .caseG (fun hc823 => ?_) (fun hc823 => ?_)
                      · replace h := (if_pos hc823).symm.trans h
                        refine .skip ?_
                        refine .skip ?_
                        refine .skip ?_
                        refine .skip ?_
                        refine .brT ?_
                        refine .move ?_
                        refine .skip ?_
                        refine .skip ?_
                        refine .skip ?_
                        refine .skip ?_
                        refine .brT ?_
                        refine .nil ?_
                        exact ⟨_, (.inl ⟨rfl, h⟩), (imp_of (.cons rfl (.cons rfl (.cons rfl (.cons rfl (.cons rfl (.cons rfl (.cons rfl (.cons rfl (.cons rfl (.cons rfl (.cons rfl (.cons rfl (.cons rfl (.nil)))))))))))))) (.cons rfl (.cons rfl (.cons rfl (.nil)))))⟩
                      · replace h := (if_neg (nt hc823)).symm.trans h
                        refine .val (v := .agg [.int .i64 y812.2.2.1.Channels, .int .i64 y812.2.2.1.Capacity, .int .i64 y812.2.2.1.Written, .int .i64 y812.2.2.1.Read, .sl 21 .ro (y812.2.2.1.Data.map (PV.int .i32))]) ?_
                        refine .val (v := .agg [.int .i64 y813.2.2.1.Channels, .int .i64 y813.2.2.1.Capacity, .int .i64 y813.2.2.1.Written, .int .i64 y813.2.2.1.Read, .sl 21 .ro (y813.2.2.1.Data.map (PV.int .i32))]) ?_
                        obtain ⟨y824, hy824, h⟩ := bindE h
                        refine .cP (g23 hy824) ?_
                        refine .val ?_
                        refine .brF ?_
                        refine .move ?_
                        refine .caseG (fun hc825 => ?_) (fun hc825 => ?_)
                        · replace h := (if_pos hc825).symm.trans h
                          refine .skip ?_
                          refine .skip ?_
                          refine .skip ?_
                          refine .skip ?_
                          refine .brT ?_
                          refine .nil ?_
                          exact ⟨_, (.inl ⟨rfl, h⟩), (imp_of (.cons rfl (.cons rfl (.cons rfl (.cons rfl (.cons rfl (.cons rfl (.cons rfl (.cons rfl (.cons rfl (.cons rfl (.cons rfl (.cons rfl (.cons rfl (.nil)))))))))))))) (.cons rfl (.cons rfl (.cons rfl (.nil)))))⟩
                        · replace h := (if_neg (nt hc825)).symm.trans h
                          refine .val (v := .agg [.int .i64 y812.1.Channels, .sl 21 .ro (y812.1.Data.map (PV.int .i32))]) ?_
                          refine .val (v := .agg [.int .i64 y813.1.Channels, .sl 21 .ro (y813.1.Data.map (PV.int .i32))]) ?_
                          obtain ⟨y826, hy826, h⟩ := bindE h
                          refine .cP (g24 hy826) ?_
                          refine .val ?_
                          refine .brF ?_
                          refine .nil ?_
                          exact ⟨_, (.inr (⟨_, rfl, h⟩)), (imp_of (.cons rfl (.cons rfl (.cons rfl (.cons rfl (.cons rfl (.cons rfl (.cons rfl (.cons rfl (.cons rfl (.cons rfl (.cons rfl (.cons rfl (.cons rfl (.nil)))))))))))))) (.cons rfl (.cons rfl (.cons rfl (.nil)))))⟩
                  · rintro T (⟨rfl, h⟩ | ⟨v820, rfl, h⟩)
                    · subst hj819
                      refine .condT ?_
                      refine .seq ?_
                      refine .region ?_
                      refine .assign ?_
                      refine .nil ?_
                      cases h
                      exact .ret (fin_gen0 none)
                    · subst hj821
                      refine .cond (fun hc827 => ?_) (fun hc827 => ?_)
                      · replace h := (if_pos hc827).symm.trans h
                        refine .seq ?_
                        refine .region ?_
                        refine .assign ?_
                        refine .nil ?_
                        cases h
                        exact .ret (fin_gen0 none)
                      · replace h := (if_neg (nt hc827)).symm.trans h
                        refine .skip ?_
                        refine .region ?_
                        refine .val ?_
                        refine .move ?_
                        refine .nil ?_
                        exact ⟨m796, _, Nat.lt_succ_self m796, ⟨_, rfl, h⟩, (imp_of (.cons rfl (.cons rfl (.cons rfl (.cons rfl (.cons rfl (.cons rfl (.cons rfl (.cons rfl (.cons rfl (.cons rfl (.cons rfl (.cons rfl (.nil))))))))))))) (.cons rfl (.cons rfl (.cons rfl (.nil)))))⟩
                · replace h := (if_neg (nt hc798)).symm.trans h
                  refine .exit (.hit ?_)
                  exact ⟨_, ⟨rfl, h⟩, (imp_of (.cons rfl (.cons rfl (.cons rfl (.cons rfl (.cons rfl (.cons rfl (.cons rfl (.cons rfl (.cons rfl (.nil)))))))))) (.cons rfl (.cons rfl (.cons rfl (.nil)))))⟩
              · rintro T ⟨rfl, h⟩
                subst hj767
                refine .seq ?_
                refine .region ?_
                refine .val (v := .agg [.int .i64 x634.Channels, .int .i64 x634.Capacity, .int .i64 x634.Written, .int .i64 x634.Read, .sl 21 .ro (x634.Data.map (PV.int .i32))]) ?_
                obtain ⟨y828, hy828, h⟩ := bindE h
                refine .cP (g29 hy828) ?_
                refine .move ?_
                refine .val ?_
                refine .val ?_
                refine .allocL (cs := [.int .i64 0, .int .i64 0, .int .i64 0, .int .i64 0, .sl 21 .full []]) ?_
                refine .wrL (cs := [.int .i64 y828.1.Channels, .int .i64 y828.1.Capacity, .int .i64 y828.1.Written, .int .i64 y828.1.Read, .sl 21 .ro (y828.1.Data.map (PV.int .i32))]) ?_
                refine .assign ?_
                refine .nil ?_
                refine .seq ?_
                refine .region ?_
                refine .val (v := .agg [.int .i64 x634.Channels, .int .i64 x634.Capacity, .int .i64 x634.Written, .int .i64 x634.Read, .sl 21 .ro (x634.Data.map (PV.int .i32))]) ?_
                obtain ⟨y829, hy829, h⟩ := bindE h
                refine .cP (g30 hy829) ?_
                refine .move ?_
                refine .val ?_
                refine .val ?_
                refine .allocL (cs := [.int .i64 0, .int .i64 0, .int .i64 0, .int .i64 0, .sl 21 .full []]) ?_
                refine .wrL (cs := [.int .i64 y829.1.Channels, .int .i64 y829.1.Capacity, .int .i64 y829.1.Written, .int .i64 y829.1.Read, .sl 21 .ro (y829.1.Data.map (PV.int .i32))]) ?_
                refine .assign ?_
                refine .nil ?_
                obtain ⟨j838, hj838, h⟩ := joinE h
                obtain ⟨j840, hj840, h⟩ := joinE h
                refine .cutI (fun T => (T = St.of [(3, .int .i64 a3), (4, .int .i64 a4), (5, .int .i64 a5), (7, .ptr (.loc 0 1) 0), (13, .ptr (.loc 5 1) 0), (66, .sl 26 .ro (([(⟨a0.Channels, a0.Capacity, a0.Written, a0.Read, a0.Data⟩ : Ring), y330.1] : List Ring).map pv26)), (67, .int .i64 (([(⟨a0.Channels, a0.Capacity, a0.Written, a0.Read, a0.Data⟩ : Ring), y330.1] : List Ring).length : Int)), (68, .int .i64 v431), (191, .bool true)] [((.loc 0 1), [.int .i64 a1.Channels, .sl 21 .ro (a1.Data.map (PV.int .i32))]), ((.loc 5 1), [.sl 5 .ro (v672.map (PV.int .u8))])] ∧ j838 () = some r) ∨ (∃ (v839 : Bool), T = St.of [(3, .int .i64 a3), (4, .int .i64 a4), (5, .int .i64 a5), (7, .ptr (.loc 0 1) 0), (13, .ptr (.loc 5 1) 0), (66, .sl 26 .ro (([(⟨a0.Channels, a0.Capacity, a0.Written, a0.Read, a0.Data⟩ : Ring), y330.1] : List Ring).map pv26)), (67, .int .i64 (([(⟨a0.Channels, a0.Capacity, a0.Written, a0.Read, a0.Data⟩ : Ring), y330.1] : List Ring).length : Int)), (68, .int .i64 v431), (191, .bool v839)] [((.loc 0 1), [.int .i64 a1.Channels, .sl 21 .ro (a1.Data.map (PV.int .i32))]), ((.loc 5 1), [.sl 5 .ro (v672.map (PV.int .u8))])] ∧ j840 v839 = some r)) ?_ ?_
                · rcases bool_em ((y828.2 != y829.2)) with hc841 | hc841
                  · replace h := (if_pos hc841).symm.trans h
                    refine .draw [] [[], [], [], [], [], [], [], [], [], [], [], [], [], [], [], [], [], [], [], [], [], [], []] [[], [], [], [], [], [], [], [], [], [], [], [], [], [], [], [], [], [], [], [], [], [], []] [[]]
                      [(0, 0), (1, 0), (2, 0), (3, 0), (4, 0), (5, 0), (6, 0), (7, 0), (8, 0), (9, 0), (10, 0), (11, 0), (12, 0), (13, 0), (14, 0), (15, 0), (16, 0), (17, 0), (18, 0), (19, 0), (20, 0), (21, 0), (22, 0)] [] 0
                      [⟨[(169, .int .i64 y828.2), (170, .int .i64 y829.2), (171, .bool true), (172, .bool true), (173, .tup []), (174, .tup []), (175, .tup []), (176, .tup []), (177, .bool true), (178, .bool true), (179, .tup []), (180, .tup []), (181, .tup []), (182, .tup []), (183, .tup []), (184, .bool true), (185, .bool true), (186, .tup []), (187, .tup []), (188, .tup []), (189, .tup []), (190, .tup []), (191, .bool true), (3, .int .i64 a3), (4, .int .i64 a4), (5, .int .i64 a5), (7, .ptr (.loc 0 1) 0), (13, .ptr (.loc 5 1) 0), (15, .ptr (.loc 8 2) 0), (34, .ptr (.loc 25 5) 0), (35, .int .i64 y828.2), (36, .ptr (.loc 26 5) 0), (37, .int .i64 y829.2), (66, .sl 26 .ro (([(⟨a0.Channels, a0.Capacity, a0.Written, a0.Read, a0.Data⟩ : Ring), y330.1] : List Ring).map pv26)), (67, .int .i64 (([(⟨a0.Channels, a0.Capacity, a0.Written, a0.Read, a0.Data⟩ : Ring), y330.1] : List Ring).length : Int)), (68, .int .i64 v431)], [], [((.loc 0 1), [.int .i64 a1.Channels, .sl 21 .ro (a1.Data.map (PV.int .i32))]), ((.loc 5 1), [.sl 5 .ro (v672.map (PV.int .u8))]), ((.loc 8 2), [.int .i64 x634.Channels, .int .i64 x634.Capacity, .int .i64 x634.Written, .int .i64 x634.Read, .sl 21 .ro (x634.Data.map (PV.int .i32))]), ((.loc 25 5), [.int .i64 y828.1.Channels, .int .i64 y828.1.Capacity, .int .i64 y828.1.Written, .int .i64 y828.1.Read, .sl 21 .ro (y828.1.Data.map (PV.int .i32))]), ((.loc 26 5), [.int .i64 y829.1.Channels, .int .i64 y829.1.Capacity, .int .i64 y829.1.Written, .int .i64 y829.1.Read, .sl 21 .ro (y829.1.Data.map (PV.int .i32))])]⟩]
                      [(3, .int .i64 a3), (4, .int .i64 a4), (5, .int .i64 a5), (7, .ptr (.loc 0 1) 0), (13, .ptr (.loc 5 1) 0), (15, .ptr (.loc 8 2) 0), (34, .ptr (.loc 25 5) 0), (35, .int .i64 y828.2), (36, .ptr (.loc 26 5) 0), (37, .int .i64 y829.2), (66, .sl 26 .ro (([(⟨a0.Channels, a0.Capacity, a0.Written, a0.Read, a0.Data⟩ : Ring), y330.1] : List Ring).map pv26)), (67, .int .i64 (([(⟨a0.Channels, a0.Capacity, a0.Written, a0.Read, a0.Data⟩ : Ring), y330.1] : List Ring).length : Int)), (68, .int .i64 v431)]
                      (.cons [35] [] (fun _ _ h => .move (h _)) rfl rfl <|
                      .cons [37] [] (fun _ _ h => .move (h _)) rfl rfl <|
                      .cons [169, 170] [] (fun _ _ h => .valB hc841 (h _)) rfl rfl <|
                      .cons [171] [] (fun _ _ h => .move (h _)) rfl rfl <|
                      .cons [172] [] (fun _ _ h => .skip (h _)) rfl rfl <|
                      .cons [172] [] (fun _ _ h => .skip (h _)) rfl rfl <|
                      .cons [172] [] (fun _ _ h => .skip (h _)) rfl rfl <|
                      .cons [172] [] (fun _ _ h => .skip (h _)) rfl rfl <|
                      .cons [172, 176] [] (fun _ _ h => .brT (h _)) rfl rfl <|
                      .cons [177] [] (fun _ _ h => .move (h _)) rfl rfl <|
                      .cons [178] [] (fun _ _ h => .skip (h _)) rfl rfl <|
                      .cons [178] [] (fun _ _ h => .skip (h _)) rfl rfl <|
                      .cons [178] [] (fun _ _ h => .skip (h _)) rfl rfl <|
                      .cons [178] [] (fun _ _ h => .skip (h _)) rfl rfl <|
                      .cons [178] [] (fun _ _ h => .skip (h _)) rfl rfl <|
                      .cons [178, 183] [] (fun _ _ h => .brT (h _)) rfl rfl <|
                      .cons [184] [] (fun _ _ h => .move (h _)) rfl rfl <|
                      .cons [185] [] (fun _ _ h => .skip (h _)) rfl rfl <|
                      .cons [185] [] (fun _ _ h => .skip (h _)) rfl rfl <|
                      .cons [185] [] (fun _ _ h => .skip (h _)) rfl rfl <|
                      .cons [185] [] (fun _ _ h => .skip (h _)) rfl rfl <|
                      .cons [185] [] (fun _ _ h => .skip (h _)) rfl rfl <|
                      .cons [185, 190] [] (fun _ _ h => .brT (h _)) rfl rfl <|
                      .nil)
                      (.nil)
                      (by kernel_rfl) rfl (.cons rfl (.cons rfl (.cons rfl (.cons rfl (.cons rfl (.cons rfl (.cons rfl (.cons rfl (.cons rfl (.cons rfl (.cons rfl (.cons rfl (.cons rfl (.nil)))))))))))))) (.nil) (.cons rfl (.cons rfl (.cons rfl (.cons rfl (.cons rfl (.nil)))))) ?_
                    exact ⟨_, (.inl ⟨rfl, h⟩), (imp_of (.cons rfl (.cons rfl (.cons rfl (.cons rfl (.cons rfl (.cons rfl (.cons rfl (.cons rfl (.cons rfl (.nil)))))))))) (.cons rfl (.cons rfl (.nil))))⟩
                  · replace h := (if_neg (nt hc841)).symm.trans h
                    obtain ⟨y842, hy842, h⟩ := bindE h
                    rcases bool_em (!y842) with hc843 | hc843
                    · replace h := (if_pos hc843).symm.trans h
                      refine .draw [] [[], [], [], [], [], [], [], [], [], [], [], [], [], [], [], [], [], [], [], [], [], [], []] [[], [], [], [], [], [], [], [], [], [], [], [], [], [], [], [], [], [], [], [], [], [], []] [[]]
                        [(0, 0), (1, 0), (2, 0), (3, 0), (4, 0), (5, 0), (6, 0), (7, 0), (8, 0), (9, 0), (10, 0), (11, 0), (12, 0), (13, 0), (14, 0), (15, 0), (16, 0), (17, 0), (18, 0), (19, 0), (20, 0), (21, 0), (22, 0)] [] 0
                        [⟨[(169, .int .i64 y828.2), (170, .int .i64 y829.2), (171, .bool false), (172, .bool false), (173, .agg [.int .i64 y828.1.Channels, .int .i64 y828.1.Capacity, .int .i64 y828.1.Written, .int .i64 y828.1.Read, .sl 21 .ro (y828.1.Data.map (PV.int .i32))]), (174, .agg [.int .i64 y829.1.Channels, .int .i64 y829.1.Capacity, .int .i64 y829.1.Written, .int .i64 y829.1.Read, .sl 21 .ro (y829.1.Data.map (PV.int .i32))]), (175, .bool y842), (176, .bool true), (177, .bool true), (178, .bool true), (179, .tup []), (180, .tup []), (181, .tup []), (182, .tup []), (183, .tup []), (184, .bool true), (185, .bool true), (186, .tup []), (187, .tup []), (188, .tup []), (189, .tup []), (190, .tup []), (191, .bool true), (3, .int .i64 a3), (4, .int .i64 a4), (5, .int .i64 a5), (7, .ptr (.loc 0 1) 0), (13, .ptr (.loc 5 1) 0), (15, .ptr (.loc 8 2) 0), (34, .ptr (.loc 25 5) 0), (35, .int .i64 y828.2), (36, .ptr (.loc 26 5) 0), (37, .int .i64 y829.2), (66, .sl 26 .ro (([(⟨a0.Channels, a0.Capacity, a0.Written, a0.Read, a0.Data⟩ : Ring), y330.1] : List Ring).map pv26)), (67, .int .i64 (([(⟨a0.Channels, a0.Capacity, a0.Written, a0.Read, a0.Data⟩ : Ring), y330.1] : List Ring).length : Int)), (68, .int .i64 v431)], [], [((.loc 0 1), [.int .i64 a1.Channels, .sl 21 .ro (a1.Data.map (PV.int .i32))]), ((.loc 5 1), [.sl 5 .ro (v672.map (PV.int .u8))]), ((.loc 8 2), [.int .i64 x634.Channels, .int .i64 x634.Capacity, .int .i64 x634.Written, .int .i64 x634.Read, .sl 21 .ro (x634.Data.map (PV.int .i32))]), ((.loc 25 5), [.int .i64 y828.1.Channels, .int .i64 y828.1.Capacity, .int .i64 y828.1.Written, .int .i64 y828.1.Read, .sl 21 .ro (y828.1.Data.map (PV.int .i32))]), ((.loc 26 5), [.int .i64 y829.1.Channels, .int .i64 y829.1.Capacity, .int .i64 y829.1.Written, .int .i64 y829.1.Read, .sl 21 .ro (y829.1.Data.map (PV.int .i32))])]⟩]
                        [(3, .int .i64 a3), (4, .int .i64 a4), (5, .int .i64 a5), (7, .ptr (.loc 0 1) 0), (13, .ptr (.loc 5 1) 0), (15, .ptr (.loc 8 2) 0), (34, .ptr (.loc 25 5) 0), (35, .int .i64 y828.2), (36, .ptr (.loc 26 5) 0), (37, .int .i64 y829.2), (66, .sl 26 .ro (([(⟨a0.Channels, a0.Capacity, a0.Written, a0.Read, a0.Data⟩ : Ring), y330.1] : List Ring).map pv26)), (67, .int .i64 (([(⟨a0.Channels, a0.Capacity, a0.Written, a0.Read, a0.Data⟩ : Ring), y330.1] : List Ring).length : Int)), (68, .int .i64 v431)]
                        (.cons [35] [] (fun _ _ h => .move (h _)) rfl rfl <|
                        .cons [37] [] (fun _ _ h => .move (h _)) rfl rfl <|
                        .cons [169, 170] [] (fun _ _ h => .valB hc841 (h _)) rfl rfl <|
                        .cons [171] [] (fun _ _ h => .move (h _)) rfl rfl <|
                        .cons [34, 172] [] (fun _ _ h => .val (h _)) rfl rfl <|
                        .cons [36, 172] [] (fun _ _ h => .val (h _)) rfl rfl <|
                        .cons [173, 174, 172] [] (fun _ _ h => .cP (g23 hy842) (h _)) rfl rfl <|
                        .cons [175, 172] [] (fun _ _ h => .valB hc843 (h _)) rfl rfl <|
                        .cons [172, 176] [] (fun _ _ h => .brF (h _)) rfl rfl <|
                        .cons [177] [] (fun _ _ h => .move (h _)) rfl rfl <|
                        .cons [178] [] (fun _ _ h => .skip (h _)) rfl rfl <|
                        .cons [178] [] (fun _ _ h => .skip (h _)) rfl rfl <|
                        .cons [178] [] (fun _ _ h => .skip (h _)) rfl rfl <|
                        .cons [178] [] (fun _ _ h => .skip (h _)) rfl rfl <|
                        .cons [178] [] (fun _ _ h => .skip (h _)) rfl rfl <|
                        .cons [178, 183] [] (fun _ _ h => .brT (h _)) rfl rfl <|
                        .cons [184] [] (fun _ _ h => .move (h _)) rfl rfl <|
                        .cons [185] [] (fun _ _ h => .skip (h _)) rfl rfl <|
                        .cons [185] [] (fun _ _ h => .skip (h _)) rfl rfl <|
                        .cons [185] [] (fun _ _ h => .skip (h _)) rfl rfl <|
                        .cons [185] [] (fun _ _ h => .skip (h _)) rfl rfl <|
                        .cons [185] [] (fun _ _ h => .skip (h _)) rfl rfl <|
                        .cons [185, 190] [] (fun _ _ h => .brT (h _)) rfl rfl <|
                        .nil)
                        (.nil)
                        (by kernel_rfl) rfl (.cons rfl (.cons rfl (.cons rfl (.cons rfl (.cons rfl (.cons rfl (.cons rfl (.cons rfl (.cons rfl (.cons rfl (.cons rfl (.cons rfl (.cons rfl (.nil)))))))))))))) (.nil) (.cons rfl (.cons rfl (.cons rfl (.cons rfl (.cons rfl (.nil)))))) ?_
                      exact ⟨_, (.inl ⟨rfl, h⟩), (imp_of (.cons rfl (.cons rfl (.cons rfl (.cons rfl (.cons rfl (.cons rfl (.cons rfl (.cons rfl (.cons rfl (.nil)))))))))) (.cons rfl (.cons rfl (.nil))))⟩
                    · replace h := (if_neg (nt hc843)).symm.trans h
                      obtain ⟨y844, hy844, h⟩ := bindE h
                      obtain ⟨y845, hy845, h⟩ := bindE h
                      rcases bool_em (!(y844 == y845)) with hc846 | hc846
                      · replace h := (if_pos hc846).symm.trans h
                        refine .draw [] [[], [], [], [], [], [], [], [], [], [], [], [], [], [], [], [], [], [], [], [], [], [], []] [[], [], [], [], [], [], [], [], [], [], [], [], [], [], [], [], [], [], [], [], [], [], []] [[]]
                          [(0, 0), (1, 0), (2, 0), (3, 0), (4, 0), (5, 0), (6, 0), (7, 0), (8, 0), (9, 0), (10, 0), (11, 0), (12, 0), (13, 0), (14, 0), (15, 0), (16, 0), (17, 0), (18, 0), (19, 0), (20, 0), (21, 0), (22, 0)] [] 0
                          [⟨[(169, .int .i64 y828.2), (170, .int .i64 y829.2), (171, .bool false), (172, .bool false), (173, .agg [.int .i64 y828.1.Channels, .int .i64 y828.1.Capacity, .int .i64 y828.1.Written, .int .i64 y828.1.Read, .sl 21 .ro (y828.1.Data.map (PV.int .i32))]), (174, .agg [.int .i64 y829.1.Channels, .int .i64 y829.1.Capacity, .int .i64 y829.1.Written, .int .i64 y829.1.Read, .sl 21 .ro (y829.1.Data.map (PV.int .i32))]), (175, .bool y842), (176, .bool false), (177, .bool false), (178, .bool false), (179, .agg [.int .i64 x634.Channels, .int .i64 x634.Capacity, .int .i64 x634.Written, .int .i64 x634.Read, .sl 21 .ro (x634.Data.map (PV.int .i32))]), (180, .bool y844), (181, .agg [.int .i64 x634.Channels, .int .i64 x634.Capacity, .int .i64 x634.Written, .int .i64 x634.Read, .sl 21 .ro (x634.Data.map (PV.int .i32))]), (182, .bool y845), (183, .bool true), (184, .bool true), (185, .bool true), (186, .tup []), (187, .tup []), (188, .tup []), (189, .tup []), (190, .tup []), (191, .bool true), (3, .int .i64 a3), (4, .int .i64 a4), (5, .int .i64 a5), (7, .ptr (.loc 0 1) 0), (13, .ptr (.loc 5 1) 0), (15, .ptr (.loc 8 2) 0), (34, .ptr (.loc 25 5) 0), (35, .int .i64 y828.2), (36, .ptr (.loc 26 5) 0), (37, .int .i64 y829.2), (66, .sl 26 .ro (([(⟨a0.Channels, a0.Capacity, a0.Written, a0.Read, a0.Data⟩ : Ring), y330.1] : List Ring).map pv26)), (67, .int .i64 (([(⟨a0.Channels, a0.Capacity, a0.Written, a0.Read, a0.Data⟩ : Ring), y330.1] : List Ring).length : Int)), (68, .int .i64 v431)], [], [((.loc 0 1), [.int .i64 a1.Channels, .sl 21 .ro (a1.Data.map (PV.int .i32))]), ((.loc 5 1), [.sl 5 .ro (v672.map (PV.int .u8))]), ((.loc 8 2), [.int .i64 x634.Channels, .int .i64 x634.Capacity, .int .i64 x634.Written, .int .i64 x634.Read, .sl 21 .ro (x634.Data.map (PV.int .i32))]), ((.loc 25 5), [.int .i64 y828.1.Channels, .int .i64 y828.1.Capacity, .int .i64 y828.1.Written, .int .i64 y828.1.Read, .sl 21 .ro (y828.1.Data.map (PV.int .i32))]), ((.loc 26 5), [.int .i64 y829.1.Channels, .int .i64 y829.1.Capacity, .int .i64 y829.1.Written, .int .i64 y829.1.Read, .sl 21 .ro (y829.1.Data.map (PV.int .i32))])]⟩]
                          [(3, .int .i64 a3), (4, .int .i64 a4), (5, .int .i64 a5), (7, .ptr (.loc 0 1) 0), (13, .ptr (.loc 5 1) 0), (15, .ptr (.loc 8 2) 0), (34, .ptr (.loc 25 5) 0), (35, .int .i64 y828.2), (36, .ptr (.loc 26 5) 0), (37, .int .i64 y829.2), (66, .sl 26 .ro (([(⟨a0.Channels, a0.Capacity, a0.Written, a0.Read, a0.Data⟩ : Ring), y330.1] : List Ring).map pv26)), (67, .int .i64 (([(⟨a0.Channels, a0.Capacity, a0.Written, a0.Read, a0.Data⟩ : Ring), y330.1] : List Ring).length : Int)), (68, .int .i64 v431)]
                          (.cons [35] [] (fun _ _ h => .move (h _)) rfl rfl <|
                          .cons [37] [] (fun _ _ h => .move (h _)) rfl rfl <|
                          .cons [169, 170] [] (fun _ _ h => .valB hc841 (h _)) rfl rfl <|
                          .cons [171] [] (fun _ _ h => .move (h _)) rfl rfl <|
                          .cons [34, 172] [] (fun _ _ h => .val (h _)) rfl rfl <|
                          .cons [36, 172] [] (fun _ _ h => .val (h _)) rfl rfl <|
                          .cons [173, 174, 172] [] (fun _ _ h => .cP (g23 hy842) (h _)) rfl rfl <|
                          .cons [175, 172] [] (fun _ _ h => .valB hc843 (h _)) rfl rfl <|
                          .cons [172, 176] [] (fun _ _ h => .brF (h _)) rfl rfl <|
                          .cons [177] [] (fun _ _ h => .move (h _)) rfl rfl <|
                          .cons [15, 178] [] (fun _ _ h => .val (h _)) rfl rfl <|
                          .cons [179, 178] [] (fun _ _ h => .cP (g31 hy844) (h _)) rfl rfl <|
                          .cons [15, 178] [] (fun _ _ h => .val (h _)) rfl rfl <|
                          .cons [181, 178] [] (fun _ _ h => .cP (g32 hy845) (h _)) rfl rfl <|
                          .cons [180, 182, 178] [] (fun _ _ h => .valB hc846 (h _)) rfl rfl <|
                          .cons [178, 183] [] (fun _ _ h => .brF (h _)) rfl rfl <|
                          .cons [184] [] (fun _ _ h => .move (h _)) rfl rfl <|
                          .cons [185] [] (fun _ _ h => .skip (h _)) rfl rfl <|
                          .cons [185] [] (fun _ _ h => .skip (h _)) rfl rfl <|
                          .cons [185] [] (fun _ _ h => .skip (h _)) rfl rfl <|
                          .cons [185] [] (fun _ _ h => .skip (h _)) rfl rfl <|
                          .cons [185] [] (fun _ _ h => .skip (h _)) rfl rfl <|
                          .cons [185, 190] [] (fun _ _ h => .brT (h _)) rfl rfl <|
                          .nil)
                          (.nil)
                          (by kernel_rfl) rfl (.cons rfl (.cons rfl (.cons rfl (.cons rfl (.cons rfl (.cons rfl (.cons rfl (.cons rfl (.cons rfl (.cons rfl (.cons rfl (.cons rfl (.cons rfl (.nil)))))))))))))) (.nil) (.cons rfl (.cons rfl (.cons rfl (.cons rfl (.cons rfl (.nil)))))) ?_
                        exact ⟨_, (.inl ⟨rfl, h⟩), (imp_of (.cons rfl (.cons rfl (.cons rfl (.cons rfl (.cons rfl (.cons rfl (.cons rfl (.cons rfl (.cons rfl (.nil)))))))))) (.cons rfl (.cons rfl (.nil))))⟩
                      · replace h := (if_neg (nt hc846)).symm.trans h
                        obtain ⟨y847, hy847, h⟩ := bindE h
                        obtain ⟨y848, hy848, h⟩ := bindE h
                        refine .draw [] [[], [], [], [], [], [], [], [], [], [], [], [], [], [], [], [], [], [], [], [], [], [], []] [[], [], [], [], [], [], [], [], [], [], [], [], [], [], [], [], [], [], [], [], [], [], []] [[]]
                          [(0, 0), (1, 0), (2, 0), (3, 0), (4, 0), (5, 0), (6, 0), (7, 0), (8, 0), (9, 0), (10, 0), (11, 0), (12, 0), (13, 0), (14, 0), (15, 0), (16, 0), (17, 0), (18, 0), (19, 0), (20, 0), (21, 0), (22, 0)] [] 0
                          [⟨[(169, .int .i64 y828.2), (170, .int .i64 y829.2), (171, .bool false), (172, .bool false), (173, .agg [.int .i64 y828.1.Channels, .int .i64 y828.1.Capacity, .int .i64 y828.1.Written, .int .i64 y828.1.Read, .sl 21 .ro (y828.1.Data.map (PV.int .i32))]), (174, .agg [.int .i64 y829.1.Channels, .int .i64 y829.1.Capacity, .int .i64 y829.1.Written, .int .i64 y829.1.Read, .sl 21 .ro (y829.1.Data.map (PV.int .i32))]), (175, .bool y842), (176, .bool false), (177, .bool false), (178, .bool false), (179, .agg [.int .i64 x634.Channels, .int .i64 x634.Capacity, .int .i64 x634.Written, .int .i64 x634.Read, .sl 21 .ro (x634.Data.map (PV.int .i32))]), (180, .bool y844), (181, .agg [.int .i64 x634.Channels, .int .i64 x634.Capacity, .int .i64 x634.Written, .int .i64 x634.Read, .sl 21 .ro (x634.Data.map (PV.int .i32))]), (182, .bool y845), (183, .bool false), (184, .bool false), (185, .bool false), (186, .agg [.int .i64 x634.Channels, .int .i64 x634.Capacity, .int .i64 x634.Written, .int .i64 x634.Read, .sl 21 .ro (x634.Data.map (PV.int .i32))]), (187, .int .i64 y847), (188, .agg [.int .i64 x634.Channels, .int .i64 x634.Capacity, .int .i64 x634.Written, .int .i64 x634.Read, .sl 21 .ro (x634.Data.map (PV.int .i32))]), (189, .int .i64 y848), (190, .bool (y847 != y848)), (191, .bool (y847 != y848)), (3, .int .i64 a3), (4, .int .i64 a4), (5, .int .i64 a5), (7, .ptr (.loc 0 1) 0), (13, .ptr (.loc 5 1) 0), (15, .ptr (.loc 8 2) 0), (34, .ptr (.loc 25 5) 0), (35, .int .i64 y828.2), (36, .ptr (.loc 26 5) 0), (37, .int .i64 y829.2), (66, .sl 26 .ro (([(⟨a0.Channels, a0.Capacity, a0.Written, a0.Read, a0.Data⟩ : Ring), y330.1] : List Ring).map pv26)), (67, .int .i64 (([(⟨a0.Channels, a0.Capacity, a0.Written, a0.Read, a0.Data⟩ : Ring), y330.1] : List Ring).length : Int)), (68, .int .i64 v431)], [], [((.loc 0 1), [.int .i64 a1.Channels, .sl 21 .ro (a1.Data.map (PV.int .i32))]), ((.loc 5 1), [.sl 5 .ro (v672.map (PV.int .u8))]), ((.loc 8 2), [.int .i64 x634.Channels, .int .i64 x634.Capacity, .int .i64 x634.Written, .int .i64 x634.Read, .sl 21 .ro (x634.Data.map (PV.int .i32))]), ((.loc 25 5), [.int .i64 y828.1.Channels, .int .i64 y828.1.Capacity, .int .i64 y828.1.Written, .int .i64 y828.1.Read, .sl 21 .ro (y828.1.Data.map (PV.int .i32))]), ((.loc 26 5), [.int .i64 y829.1.Channels, .int .i64 y829.1.Capacity, .int .i64 y829.1.Written, .int .i64 y829.1.Read, .sl 21 .ro (y829.1.Data.map (PV.int .i32))])]⟩]
                          [(3, .int .i64 a3), (4, .int .i64 a4), (5, .int .i64 a5), (7, .ptr (.loc 0 1) 0), (13, .ptr (.loc 5 1) 0), (15, .ptr (.loc 8 2) 0), (34, .ptr (.loc 25 5) 0), (35, .int .i64 y828.2), (36, .ptr (.loc 26 5) 0), (37, .int .i64 y829.2), (66, .sl 26 .ro (([(⟨a0.Channels, a0.Capacity, a0.Written, a0.Read, a0.Data⟩ : Ring), y330.1] : List Ring).map pv26)), (67, .int .i64 (([(⟨a0.Channels, a0.Capacity, a0.Written, a0.Read, a0.Data⟩ : Ring), y330.1] : List Ring).length : Int)), (68, .int .i64 v431)]
                          (.cons [35] [] (fun _ _ h => .move (h _)) rfl rfl <|
                          .cons [37] [] (fun _ _ h => .move (h _)) rfl rfl <|
                          .cons [169, 170] [] (fun _ _ h => .valB hc841 (h _)) rfl rfl <|
                          .cons [171] [] (fun _ _ h => .move (h _)) rfl rfl <|
                          .cons [34, 172] [] (fun _ _ h => .val (h _)) rfl rfl <|
                          .cons [36, 172] [] (fun _ _ h => .val (h _)) rfl rfl <|
                          .cons [173, 174, 172] [] (fun _ _ h => .cP (g23 hy842) (h _)) rfl rfl <|
                          .cons [175, 172] [] (fun _ _ h => .valB hc843 (h _)) rfl rfl <|
                          .cons [172, 176] [] (fun _ _ h => .brF (h _)) rfl rfl <|
                          .cons [177] [] (fun _ _ h => .move (h _)) rfl rfl <|
                          .cons [15, 178] [] (fun _ _ h => .val (h _)) rfl rfl <|
                          .cons [179, 178] [] (fun _ _ h => .cP (g31 hy844) (h _)) rfl rfl <|
                          .cons [15, 178] [] (fun _ _ h => .val (h _)) rfl rfl <|
                          .cons [181, 178] [] (fun _ _ h => .cP (g32 hy845) (h _)) rfl rfl <|
                          .cons [180, 182, 178] [] (fun _ _ h => .valB hc846 (h _)) rfl rfl <|
                          .cons [178, 183] [] (fun _ _ h => .brF (h _)) rfl rfl <|
                          .cons [184] [] (fun _ _ h => .move (h _)) rfl rfl <|
                          .cons [15, 185] [] (fun _ _ h => .val (h _)) rfl rfl <|
                          .cons [186, 185] [] (fun _ _ h => .cP (g18 hy847) (h _)) rfl rfl <|
                          .cons [15, 185] [] (fun _ _ h => .val (h _)) rfl rfl <|
                          .cons [188, 185] [] (fun _ _ h => .cP (g33 hy848) (h _)) rfl rfl <|
                          .cons [187, 189, 185] [] (fun _ _ h => .val (h _)) rfl rfl <|
                          .cons [185, 190] [] (fun _ _ h => .brF (h _)) rfl rfl <|
                          .nil)
                          (.nil)
                          (by kernel_rfl) rfl (.cons rfl (.cons rfl (.cons rfl (.cons rfl (.cons rfl (.cons rfl (.cons rfl (.cons rfl (.cons rfl (.cons rfl (.cons rfl (.cons rfl (.cons rfl (.nil)))))))))))))) (.nil) (.cons rfl (.cons rfl (.cons rfl (.cons rfl (.cons rfl (.nil)))))) ?_
                        exact ⟨_, (.inr (⟨_, rfl, h⟩)), (imp_of (.cons rfl (.cons rfl (.cons rfl (.cons rfl (.cons rfl (.cons rfl (.cons rfl (.cons rfl (.cons rfl (.nil)))))))))) (.cons rfl (.cons rfl (.nil))))⟩
                · rintro T (⟨rfl, h⟩ | ⟨v839, rfl, h⟩)
                  · subst hj838
                    refine .condT ?_
                    refine .seq ?_
                    refine .region ?_
                    refine .assign ?_
                    refine .nil ?_
                    cases h
                    exact .ret (fin_gen0 none)
                  · subst hj840
                    refine .cond (fun hc849 => ?_) (fun hc849 => ?_)
                    · replace h := (if_pos hc849).symm.trans h
                      refine .seq ?_
                      refine .region ?_
                      refine .assign ?_
                      refine .nil ?_
                      cases h
                      exact .ret (fin_gen0 none)
                    · replace h := (if_neg (nt hc849)).symm.trans h
                      refine .skip ?_
                      exact ⟨_, ⟨_, rfl, h⟩, (imp_of (.cons rfl (.cons rfl (.cons rfl (.cons rfl (.cons rfl (.cons rfl (.cons rfl (.cons rfl (.nil))))))))) (.cons rfl (.cons rfl (.nil))))⟩
          · rintro T ⟨v632, rfl, h⟩
            subst hj633
            refine .region ?_
            refine .val ?_
            refine .move ?_
            refine .nil ?_
            exact ⟨m533, _, Nat.lt_succ_self m533, ⟨_, _, rfl, h⟩, (imp_of (.cons rfl (.cons rfl (.cons rfl (.cons rfl (.cons rfl (.cons rfl (.cons rfl (.cons rfl (.nil))))))))) (.cons rfl (.cons rfl (.nil))))⟩
        · replace h := (if_neg (nt hc535)).symm.trans h
          refine .exit (.hit ?_)
          exact ⟨_, ⟨rfl, h⟩, (imp_of (.cons rfl (.cons rfl (.nil))) (.nil))⟩
      · rintro T ⟨rfl, h⟩
        subst hj329
        refine .seq ?_
        refine .region ?_
        refine .move ?_
        refine .move ?_
        obtain ⟨y850, hy850, h⟩ := bindE h
        refine .cP (g15 hy850) ?_
        refine .move ?_
        refine .val ?_
        refine .val ?_
        refine .allocL (cs := [.int .i64 0, .int .i64 0, .int .i64 0, .int .i64 0, .sl 21 .full []]) ?_
        refine .wrL (cs := [.int .i64 y850.1.Channels, .int .i64 y850.1.Capacity, .int .i64 y850.1.Written, .int .i64 y850.1.Read, .sl 21 .ro (y850.1.Data.map (PV.int .i32))]) ?_
        refine .assign ?_
        refine .nil ?_
        refine .seq ?_
        refine .region ?_
        refine .move ?_
        refine .move ?_
        obtain ⟨y851, hy851, h⟩ := bindE h
        refine .cP (g34 hy851) ?_
        refine .move ?_
        refine .val ?_
        refine .val ?_
        refine .allocL (cs := [.int .i64 0, .int .i64 0, .int .i64 0, .int .i64 0, .sl 21 .full []]) ?_
        refine .wrL (cs := [.int .i64 y851.1.Channels, .int .i64 y851.1.Capacity, .int .i64 y851.1.Written, .int .i64 y851.1.Read, .sl 21 .ro (y851.1.Data.map (PV.int .i32))]) ?_
        refine .assign ?_
        refine .nil ?_
        refine .seq ?_
        refine .region ?_
        refine .move ?_
        refine .move ?_
        refine .val ?_
        refine .move ?_
        refine .caseG (fun hc854 => ?_) (fun hc854 => ?_)
        · replace h := (if_pos hc854).symm.trans h
          refine .val (v := .agg [.int .i64 y850.1.Channels, .int .i64 y850.1.Capacity, .int .i64 y850.1.Written, .int .i64 y850.1.Read, .sl 21 .ro (y850.1.Data.map (PV.int .i32))]) ?_
          refine .val (v := .agg [.int .i64 y851.1.Channels, .int .i64 y851.1.Capacity, .int .i64 y851.1.Written, .int .i64 y851.1.Read, .sl 21 .ro (y851.1.Data.map (PV.int .i32))]) ?_
          obtain ⟨y855, hy855, h⟩ := bindE h
          refine .cP (g23 hy855) ?_
          refine .brT ?_
          refine .assign ?_
          refine .nil ?_
          cases h
          exact .ret (fin_gen0 none)
        · replace h := (if_neg (nt hc854)).symm.trans h
          refine .skip ?_
          refine .skip ?_
          refine .skip ?_
          refine .brF ?_
          refine .assign ?_
          refine .nil ?_
          cases h
          exact .ret (fin_gen0 none)

/- soundservice/soundservicelaw17.RingClears -/
def f6_l1 (n : Nat) (y8 : (Block × Int × Ring × Int)) (j24 : Unit → Option Bool) : Nat → Int → Option Bool
  | 0, _ => none
  | m33 + 1, v28 =>
    if decide (v28 < (y8.1.Data.length : Int)) then (
    (lAt y8.1.Data v28).bind fun x38 =>
    if (x38 != (0 : Int)) then (
    some false)
    else (
    f6_l1 n y8 j24 m33 (w64 (v28 + (1 : Int)))))
    else (
    j24 ())
def f6 (n : Nat) (a0 : (List Int)) (a1 : Int) : Option Bool :=
  (f14 n ).bind fun y3 =>
  if !y3 then (
  some false)
  else (
  (f20 n a0).bind fun y5 =>
  (f19 n (⟨y5.l⟩ : Dice)).bind fun y6 =>
  (f29 n (⟨y6.1.Channels, y6.1.Capacity, y6.1.Written, y6.1.Read, y6.1.Data⟩ : Ring)).bind fun y7 =>
  (f17 n (⟨y7.1.Channels, y7.1.Capacity, y7.1.Written, y7.1.Read, y7.1.Data⟩ : Ring) (w64 (Int.tmod a1 (40 : Int)))).bind fun y8 =>
  (f21 n (3 : Int) y6.1.Channels (0 : Int) (iMin y6.1.Capacity (w64 (Int.tmod a1 (9 : Int))))).bind fun y9 =>
  (f16 n (⟨y7.1.Channels, y7.1.Capacity, y7.1.Written, y7.1.Read, y7.1.Data⟩ : Ring) (⟨y9.Channels, y9.Data⟩ : Block)).bind fun y10 =>
  (f35 n (⟨y9.Channels, y9.Data⟩ : Block)).bind fun y11 =>
  (f17 n (⟨y10.1.Channels, y10.1.Capacity, y10.1.Written, y10.1.Read, y10.1.Data⟩ : Ring) y11).bind fun y12 =>
  joinK (fun (_ : Unit) =>
  if (y7.2 == (0 : Int)) then (
  if (y8.2.2.2 == (0 : Int)) then (
  if (y10.2.2 == (0 : Int)) then (
  if (y12.2.2.2 == (0 : Int)) then (
  if (y8.2.1 == (w64 (Int.tmod a1 (40 : Int)))) then (
  (f23 n (⟨y7.1.Channels, y7.1.Capacity, y7.1.Written, y7.1.Read, y7.1.Data⟩ : Ring) (⟨y8.2.2.1.Channels, y8.2.2.1.Capacity, y8.2.2.1.Written, y8.2.2.1.Read, y8.2.2.1.Data⟩ : Ring)).bind fun y59 =>
  if y59 then (
  if (y7.1.Written == y6.1.Written) then (
  if (y7.1.Read == y6.1.Written) then (
  (f18 n (⟨y7.1.Channels, y7.1.Capacity, y7.1.Written, y7.1.Read, y7.1.Data⟩ : Ring)).bind fun y63 =>
  if (y63 == (0 : Int)) then (
  if (y10.2.1 == (0 : Int)) then (
  if (y12.2.1 == (0 : Int)) then (
  (f24 n (⟨y12.1.Channels, y12.1.Data⟩ : Block) (⟨y9.Channels, y9.Data⟩ : Block)).bind fun y67 =>
  some y67)
  else (
  some false))
  else (
  some false))
  else (
  some false))
  else (
  some false))
  else (
  some false))
  else (
  some false))
  else (
  some false))
  else (
  some false))
  else (
  some false))
  else (
  some false))
  else (
  some false)) fun j24 =>
  f6_l1 n y8 j24 n 0)
set_option maxHeartbeats 4000000 in
set_option maxRecDepth 100000 in
theorem g6 {n : Nat} {a0 : (List Int)} {a1 : Int} {r : Bool} (h : f6 n a0 a1 = some r) :
    Ab.Can Try.prog 6 [.sl 5 .ro (a0.map (PV.int .u8)), .int .u8 a1] H0 (.bool r) H0 := by
  refine can_of tabOK mix Try.call6 Try.func6 rfl (by kernel_rfl) (by show _ ≤ 135; simp) fun _ => ?_
  rw [f6] at h
  refine .seq ?_
  refine .region ?_
  refine .assign ?_
  refine .nil ?_
  refine .seq ?_
  refine .seq ?_
  refine .region ?_
  obtain ⟨y3, hy3, h⟩ := bindE h
  refine .cP (g14 hy3) ?_
  refine .val ?_
  refine .nil ?_
  refine .cond (fun hc4 => ?_) (fun hc4 => ?_)
  · replace h := (if_pos hc4).symm.trans h
    refine .seq ?_
    refine .region ?_
    refine .assign ?_
    refine .nil ?_
    cases h
    exact .ret (fin_gen0 none)
  · replace h := (if_neg (nt hc4)).symm.trans h
    refine .skip ?_
    refine .seq ?_
    refine .region ?_
    refine .move ?_
    obtain ⟨y5, hy5, h⟩ := bindE h
    refine .cB (.loc 3 1) (g20 hy5) ?_
    obtain ⟨y6, hy6, h⟩ := bindE h
    refine .cH (.loc 3 1) (g19 hy6) ?_
    refine .allocL (cs := [.int .i64 0, .int .i64 0, .int .i64 0, .int .i64 0, .sl 21 .full []]) ?_
    refine .wrL (cs := [.int .i64 y6.1.Channels, .int .i64 y6.1.Capacity, .int .i64 y6.1.Written, .int .i64 y6.1.Read, .sl 21 .ro (y6.1.Data.map (PV.int .i32))]) ?_
    refine .nil ?_
    refine .seq ?_
    refine .region ?_
    refine .val (v := .agg [.int .i64 y6.1.Channels, .int .i64 y6.1.Capacity, .int .i64 y6.1.Written, .int .i64 y6.1.Read, .sl 21 .ro (y6.1.Data.map (PV.int .i32))]) ?_
    obtain ⟨y7, hy7, h⟩ := bindE h
    refine .cP (g29 hy7) ?_
    refine .move ?_
    refine .val ?_
    refine .val ?_
    refine .allocL (cs := [.int .i64 0, .int .i64 0, .int .i64 0, .int .i64 0, .sl 21 .full []]) ?_
    refine .wrL (cs := [.int .i64 y7.1.Channels, .int .i64 y7.1.Capacity, .int .i64 y7.1.Written, .int .i64 y7.1.Read, .sl 21 .ro (y7.1.Data.map (PV.int .i32))]) ?_
    refine .assign ?_
    refine .nil ?_
    refine .seq ?_
    refine .region ?_
    refine .val (v := .agg [.int .i64 y7.1.Channels, .int .i64 y7.1.Capacity, .int .i64 y7.1.Written, .int .i64 y7.1.Read, .sl 21 .ro (y7.1.Data.map (PV.int .i32))]) ?_
    refine .move ?_
    refine .val ?_ (hc := by decide)
    refine .val ?_
    obtain ⟨y8, hy8, h⟩ := bindE h
    refine .cP (g17 hy8) ?_
    refine .move ?_
    refine .val ?_
    refine .val ?_
    refine .val ?_
    refine .val ?_
    refine .allocL (cs := [.int .i64 0, .sl 21 .full []]) ?_
    refine .allocL (cs := [.int .i64 0, .int .i64 0, .int .i64 0, .int .i64 0, .sl 21 .full []]) ?_
    refine .wrL (cs := [.int .i64 y8.1.Channels, .sl 21 .ro (y8.1.Data.map (PV.int .i32))]) ?_
    refine .assign ?_
    refine .wrL (cs := [.int .i64 y8.2.2.1.Channels, .int .i64 y8.2.2.1.Capacity, .int .i64 y8.2.2.1.Written, .int .i64 y8.2.2.1.Read, .sl 21 .ro (y8.2.2.1.Data.map (PV.int .i32))]) ?_
    refine .assign ?_
    refine .nil ?_
    refine .imp (T := St.of [(1, .int .u8 a1), (5, .ptr (.loc 3 3) 0), (6, .ptr (.loc 4 5) 0), (7, .int .i64 y7.2), (8, .ptr (.loc 5 10) 0), (9, .int .i64 y8.2.1), (10, .ptr (.loc 5 11) 0), (11, .int .i64 y8.2.2.2)] [((.loc 3 3), [.int .i64 y6.1.Channels, .int .i64 y6.1.Capacity, .int .i64 y6.1.Written, .int .i64 y6.1.Read, .sl 21 .ro (y6.1.Data.map (PV.int .i32))]), ((.loc 4 5), [.int .i64 y7.1.Channels, .int .i64 y7.1.Capacity, .int .i64 y7.1.Written, .int .i64 y7.1.Read, .sl 21 .ro (y7.1.Data.map (PV.int .i32))]), ((.loc 5 10), [.int .i64 y8.1.Channels, .sl 21 .ro (y8.1.Data.map (PV.int .i32))]), ((.loc 5 11), [.int .i64 y8.2.2.1.Channels, .int .i64 y8.2.2.1.Capacity, .int .i64 y8.2.2.1.Written, .int .i64 y8.2.2.1.Read, .sl 21 .ro (y8.2.2.1.Data.map (PV.int .i32))])]) (imp_of (.cons rfl (.cons rfl (.cons rfl (.cons rfl (.cons rfl (.cons rfl (.cons rfl (.cons rfl (.nil))))))))) (.cons rfl (.cons rfl (.cons rfl (.cons rfl (.nil)))))) ?_
    refine .seq ?_
    refine .region ?_
    refine .val ?_
    refine .val ?_
    refine .val ?_
    refine .val ?_
    refine .move ?_
    refine .val ?_ (hc := by decide)
    refine .val ?_
    refine .minL ?_
    obtain ⟨y9, hy9, h⟩ := bindE h
    refine .cP (g21 hy9) ?_
    refine .allocL (cs := [.int .i64 0, .sl 21 .full []]) ?_
    refine .wrL (cs := [.int .i64 y9.Channels, .sl 21 .ro (y9.Data.map (PV.int .i32))]) ?_
    refine .nil ?_
    refine .seq ?_
    refine .region ?_
    refine .val (v := .agg [.int .i64 y7.1.Channels, .int .i64 y7.1.Capacity, .int .i64 y7.1.Written, .int .i64 y7.1.Read, .sl 21 .ro (y7.1.Data.map (PV.int .i32))]) ?_
    refine .val (v := .agg [.int .i64 y9.Channels, .sl 21 .ro (y9.Data.map (PV.int .i32))]) ?_
    obtain ⟨y10, hy10, h⟩ := bindE h
    refine .cP (g16 hy10) ?_
    refine .move ?_
    refine .val ?_
    refine .val ?_
    refine .val ?_
    refine .allocL (cs := [.int .i64 0, .int .i64 0, .int .i64 0, .int .i64 0, .sl 21 .full []]) ?_
    refine .wrL (cs := [.int .i64 y10.1.Channels, .int .i64 y10.1.Capacity, .int .i64 y10.1.Written, .int .i64 y10.1.Read, .sl 21 .ro (y10.1.Data.map (PV.int .i32))]) ?_
    refine .assign ?_
    refine .assign ?_
    refine .nil ?_
    refine .seq ?_
    obtain ⟨y11, hy11, h⟩ := bindE h
    obtain ⟨y12, hy12, h⟩ := bindE h
    refine .draw [9, 10, 11, 13] [[], [], [], [], [], [], [], [], [], [], [], [9, 10], [9, 10, 11], [9, 10, 11], [9, 10, 11, 13]] [[11, 13], [11, 13], [11, 13], [11, 13], [11, 13], [11, 13], [13], [13], [], [11, 13], [11, 13], [13], [13], [], []] [[], [9], [10], [9, 10], [9, 10, 11], [9, 10, 11, 13]]
      [(0, 0), (0, 1), (0, 2), (0, 3), (1, 0), (1, 1), (1, 2), (1, 3), (2, 0), (2, 1), (2, 2), (2, 3), (3, 0), (3, 1), (3, 2), (3, 3), (4, 0), (4, 1), (4, 2), (4, 3), (5, 0), (5, 1), (5, 2), (5, 3), (6, 0), (6, 1), (6, 2), (6, 3), (6, 4), (7, 0), (7, 1), (7, 2), (7, 3), (7, 4), (8, 0), (8, 1), (8, 2), (8, 3), (8, 4), (8, 5), (12, 4), (14, 5)] [(0, 9, 1), (0, 10, 2), (1, 10, 3), (2, 9, 3), (3, 11, 4), (4, 13, 5)] 5
      [⟨[(59, .agg [.int .i64 y10.1.Channels, .int .i64 y10.1.Capacity, .int .i64 y10.1.Written, .int .i64 y10.1.Read, .sl 21 .ro (y10.1.Data.map (PV.int .i32))]), (60, .agg [.int .i64 y9.Channels, .sl 21 .ro (y9.Data.map (PV.int .i32))]), (61, .int .i64 y11), (62, .tup [.agg [.int .i64 y12.1.Channels, .sl 21 .ro (y12.1.Data.map (PV.int .i32))], .int .i64 y12.2.1, .agg [.int .i64 y12.2.2.1.Channels, .int .i64 y12.2.2.1.Capacity, .int .i64 y12.2.2.1.Written, .int .i64 y12.2.2.1.Read, .sl 21 .ro (y12.2.2.1.Data.map (PV.int .i32))], .int .i64 y12.2.2.2]), (58, .tup [.agg [.int .i64 y12.1.Channels, .sl 21 .ro (y12.1.Data.map (PV.int .i32))], .int .i64 y12.2.1, .agg [.int .i64 y12.2.2.1.Channels, .int .i64 y12.2.2.1.Capacity, .int .i64 y12.2.2.1.Written, .int .i64 y12.2.2.1.Read, .sl 21 .ro (y12.2.2.1.Data.map (PV.int .i32))], .int .i64 y12.2.2.2]), (63, .agg [.int .i64 y12.1.Channels, .sl 21 .ro (y12.1.Data.map (PV.int .i32))]), (64, .int .i64 y12.2.1), (65, .agg [.int .i64 y12.2.2.1.Channels, .int .i64 y12.2.2.1.Capacity, .int .i64 y12.2.2.1.Written, .int .i64 y12.2.2.1.Read, .sl 21 .ro (y12.2.2.1.Data.map (PV.int .i32))]), (66, .int .i64 y12.2.2.2), (1, .int .u8 a1), (5, .ptr (.loc 3 3) 0), (6, .ptr (.loc 4 5) 0), (7, .int .i64 y7.2), (8, .ptr (.loc 5 10) 0), (9, .int .i64 y8.2.1), (10, .ptr (.loc 5 11) 0), (11, .int .i64 y8.2.2.2), (12, .ptr (.loc 6 9) 0), (13, .ptr (.loc 7 7) 0), (14, .int .i64 y10.2.1), (15, .int .i64 y10.2.2)], [], [((.loc 3 3), [.int .i64 y6.1.Channels, .int .i64 y6.1.Capacity, .int .i64 y6.1.Written, .int .i64 y6.1.Read, .sl 21 .ro (y6.1.Data.map (PV.int .i32))]), ((.loc 4 5), [.int .i64 y7.1.Channels, .int .i64 y7.1.Capacity, .int .i64 y7.1.Written, .int .i64 y7.1.Read, .sl 21 .ro (y7.1.Data.map (PV.int .i32))]), ((.loc 5 10), [.int .i64 y8.1.Channels, .sl 21 .ro (y8.1.Data.map (PV.int .i32))]), ((.loc 5 11), [.int .i64 y8.2.2.1.Channels, .int .i64 y8.2.2.1.Capacity, .int .i64 y8.2.2.1.Written, .int .i64 y8.2.2.1.Read, .sl 21 .ro (y8.2.2.1.Data.map (PV.int .i32))]), ((.loc 6 9), [.int .i64 y9.Channels, .sl 21 .ro (y9.Data.map (PV.int .i32))]), ((.loc 7 7), [.int .i64 y10.1.Channels, .int .i64 y10.1.Capacity, .int .i64 y10.1.Written, .int .i64 y10.1.Read, .sl 21 .ro (y10.1.Data.map (PV.int .i32))])]⟩,
      ⟨[(59, .agg [.int .i64 y10.1.Channels, .int .i64 y10.1.Capacity, .int .i64 y10.1.Written, .int .i64 y10.1.Read, .sl 21 .ro (y10.1.Data.map (PV.int .i32))]), (60, .agg [.int .i64 y9.Channels, .sl 21 .ro (y9.Data.map (PV.int .i32))]), (61, .int .i64 y11), (62, .tup [.agg [.int .i64 y12.1.Channels, .sl 21 .ro (y12.1.Data.map (PV.int .i32))], .int .i64 y12.2.1, .agg [.int .i64 y12.2.2.1.Channels, .int .i64 y12.2.2.1.Capacity, .int .i64 y12.2.2.1.Written, .int .i64 y12.2.2.1.Read, .sl 21 .ro (y12.2.2.1.Data.map (PV.int .i32))], .int .i64 y12.2.2.2]), (58, .tup [.agg [.int .i64 y12.1.Channels, .sl 21 .ro (y12.1.Data.map (PV.int .i32))], .int .i64 y12.2.1, .agg [.int .i64 y12.2.2.1.Channels, .int .i64 y12.2.2.1.Capacity, .int .i64 y12.2.2.1.Written, .int .i64 y12.2.2.1.Read, .sl 21 .ro (y12.2.2.1.Data.map (PV.int .i32))], .int .i64 y12.2.2.2]), (63, .agg [.int .i64 y12.1.Channels, .sl 21 .ro (y12.1.Data.map (PV.int .i32))]), (64, .int .i64 y12.2.1), (65, .agg [.int .i64 y12.2.2.1.Channels, .int .i64 y12.2.2.1.Capacity, .int .i64 y12.2.2.1.Written, .int .i64 y12.2.2.1.Read, .sl 21 .ro (y12.2.2.1.Data.map (PV.int .i32))]), (66, .int .i64 y12.2.2.2), (16, .ptr (.loc 8 9) 0), (1, .int .u8 a1), (5, .ptr (.loc 3 3) 0), (6, .ptr (.loc 4 5) 0), (7, .int .i64 y7.2), (8, .ptr (.loc 5 10) 0), (9, .int .i64 y8.2.1), (10, .ptr (.loc 5 11) 0), (11, .int .i64 y8.2.2.2), (12, .ptr (.loc 6 9) 0), (13, .ptr (.loc 7 7) 0), (14, .int .i64 y10.2.1), (15, .int .i64 y10.2.2)], [], [((.loc 3 3), [.int .i64 y6.1.Channels, .int .i64 y6.1.Capacity, .int .i64 y6.1.Written, .int .i64 y6.1.Read, .sl 21 .ro (y6.1.Data.map (PV.int .i32))]), ((.loc 4 5), [.int .i64 y7.1.Channels, .int .i64 y7.1.Capacity, .int .i64 y7.1.Written, .int .i64 y7.1.Read, .sl 21 .ro (y7.1.Data.map (PV.int .i32))]), ((.loc 5 10), [.int .i64 y8.1.Channels, .sl 21 .ro (y8.1.Data.map (PV.int .i32))]), ((.loc 5 11), [.int .i64 y8.2.2.1.Channels, .int .i64 y8.2.2.1.Capacity, .int .i64 y8.2.2.1.Written, .int .i64 y8.2.2.1.Read, .sl 21 .ro (y8.2.2.1.Data.map (PV.int .i32))]), ((.loc 6 9), [.int .i64 y9.Channels, .sl 21 .ro (y9.Data.map (PV.int .i32))]), ((.loc 7 7), [.int .i64 y10.1.Channels, .int .i64 y10.1.Capacity, .int .i64 y10.1.Written, .int .i64 y10.1.Read, .sl 21 .ro (y10.1.Data.map (PV.int .i32))]), ((.loc 8 9), [.int .i64 0, .sl 21 .full []])]⟩,
      ⟨[(59, .agg [.int .i64 y10.1.Channels, .int .i64 y10.1.Capacity, .int .i64 y10.1.Written, .int .i64 y10.1.Read, .sl 21 .ro (y10.1.Data.map (PV.int .i32))]), (60, .agg [.int .i64 y9.Channels, .sl 21 .ro (y9.Data.map (PV.int .i32))]), (61, .int .i64 y11), (62, .tup [.agg [.int .i64 y12.1.Channels, .sl 21 .ro (y12.1.Data.map (PV.int .i32))], .int .i64 y12.2.1, .agg [.int .i64 y12.2.2.1.Channels, .int .i64 y12.2.2.1.Capacity, .int .i64 y12.2.2.1.Written, .int .i64 y12.2.2.1.Read, .sl 21 .ro (y12.2.2.1.Data.map (PV.int .i32))], .int .i64 y12.2.2.2]), (58, .tup [.agg [.int .i64 y12.1.Channels, .sl 21 .ro (y12.1.Data.map (PV.int .i32))], .int .i64 y12.2.1, .agg [.int .i64 y12.2.2.1.Channels, .int .i64 y12.2.2.1.Capacity, .int .i64 y12.2.2.1.Written, .int .i64 y12.2.2.1.Read, .sl 21 .ro (y12.2.2.1.Data.map (PV.int .i32))], .int .i64 y12.2.2.2]), (63, .agg [.int .i64 y12.1.Channels, .sl 21 .ro (y12.1.Data.map (PV.int .i32))]), (64, .int .i64 y12.2.1), (65, .agg [.int .i64 y12.2.2.1.Channels, .int .i64 y12.2.2.1.Capacity, .int .i64 y12.2.2.1.Written, .int .i64 y12.2.2.1.Read, .sl 21 .ro (y12.2.2.1.Data.map (PV.int .i32))]), (66, .int .i64 y12.2.2.2), (18, .ptr (.loc 8 10) 0), (1, .int .u8 a1), (5, .ptr (.loc 3 3) 0), (6, .ptr (.loc 4 5) 0), (7, .int .i64 y7.2), (8, .ptr (.loc 5 10) 0), (9, .int .i64 y8.2.1), (10, .ptr (.loc 5 11) 0), (11, .int .i64 y8.2.2.2), (12, .ptr (.loc 6 9) 0), (13, .ptr (.loc 7 7) 0), (14, .int .i64 y10.2.1), (15, .int .i64 y10.2.2)], [], [((.loc 3 3), [.int .i64 y6.1.Channels, .int .i64 y6.1.Capacity, .int .i64 y6.1.Written, .int .i64 y6.1.Read, .sl 21 .ro (y6.1.Data.map (PV.int .i32))]), ((.loc 4 5), [.int .i64 y7.1.Channels, .int .i64 y7.1.Capacity, .int .i64 y7.1.Written, .int .i64 y7.1.Read, .sl 21 .ro (y7.1.Data.map (PV.int .i32))]), ((.loc 5 10), [.int .i64 y8.1.Channels, .sl 21 .ro (y8.1.Data.map (PV.int .i32))]), ((.loc 5 11), [.int .i64 y8.2.2.1.Channels, .int .i64 y8.2.2.1.Capacity, .int .i64 y8.2.2.1.Written, .int .i64 y8.2.2.1.Read, .sl 21 .ro (y8.2.2.1.Data.map (PV.int .i32))]), ((.loc 6 9), [.int .i64 y9.Channels, .sl 21 .ro (y9.Data.map (PV.int .i32))]), ((.loc 7 7), [.int .i64 y10.1.Channels, .int .i64 y10.1.Capacity, .int .i64 y10.1.Written, .int .i64 y10.1.Read, .sl 21 .ro (y10.1.Data.map (PV.int .i32))]), ((.loc 8 10), [.int .i64 0, .int .i64 0, .int .i64 0, .int .i64 0, .sl 21 .full []])]⟩,
      ⟨[(59, .agg [.int .i64 y10.1.Channels, .int .i64 y10.1.Capacity, .int .i64 y10.1.Written, .int .i64 y10.1.Read, .sl 21 .ro (y10.1.Data.map (PV.int .i32))]), (60, .agg [.int .i64 y9.Channels, .sl 21 .ro (y9.Data.map (PV.int .i32))]), (61, .int .i64 y11), (62, .tup [.agg [.int .i64 y12.1.Channels, .sl 21 .ro (y12.1.Data.map (PV.int .i32))], .int .i64 y12.2.1, .agg [.int .i64 y12.2.2.1.Channels, .int .i64 y12.2.2.1.Capacity, .int .i64 y12.2.2.1.Written, .int .i64 y12.2.2.1.Read, .sl 21 .ro (y12.2.2.1.Data.map (PV.int .i32))], .int .i64 y12.2.2.2]), (58, .tup [.agg [.int .i64 y12.1.Channels, .sl 21 .ro (y12.1.Data.map (PV.int .i32))], .int .i64 y12.2.1, .agg [.int .i64 y12.2.2.1.Channels, .int .i64 y12.2.2.1.Capacity, .int .i64 y12.2.2.1.Written, .int .i64 y12.2.2.1.Read, .sl 21 .ro (y12.2.2.1.Data.map (PV.int .i32))], .int .i64 y12.2.2.2]), (63, .agg [.int .i64 y12.1.Channels, .sl 21 .ro (y12.1.Data.map (PV.int .i32))]), (64, .int .i64 y12.2.1), (65, .agg [.int .i64 y12.2.2.1.Channels, .int .i64 y12.2.2.1.Capacity, .int .i64 y12.2.2.1.Written, .int .i64 y12.2.2.1.Read, .sl 21 .ro (y12.2.2.1.Data.map (PV.int .i32))]), (66, .int .i64 y12.2.2.2), (16, .ptr (.loc 8 9) 0), (18, .ptr (.loc 8 10) 0), (1, .int .u8 a1), (5, .ptr (.loc 3 3) 0), (6, .ptr (.loc 4 5) 0), (7, .int .i64 y7.2), (8, .ptr (.loc 5 10) 0), (9, .int .i64 y8.2.1), (10, .ptr (.loc 5 11) 0), (11, .int .i64 y8.2.2.2), (12, .ptr (.loc 6 9) 0), (13, .ptr (.loc 7 7) 0), (14, .int .i64 y10.2.1), (15, .int .i64 y10.2.2)], [], [((.loc 3 3), [.int .i64 y6.1.Channels, .int .i64 y6.1.Capacity, .int .i64 y6.1.Written, .int .i64 y6.1.Read, .sl 21 .ro (y6.1.Data.map (PV.int .i32))]), ((.loc 4 5), [.int .i64 y7.1.Channels, .int .i64 y7.1.Capacity, .int .i64 y7.1.Written, .int .i64 y7.1.Read, .sl 21 .ro (y7.1.Data.map (PV.int .i32))]), ((.loc 5 10), [.int .i64 y8.1.Channels, .sl 21 .ro (y8.1.Data.map (PV.int .i32))]), ((.loc 5 11), [.int .i64 y8.2.2.1.Channels, .int .i64 y8.2.2.1.Capacity, .int .i64 y8.2.2.1.Written, .int .i64 y8.2.2.1.Read, .sl 21 .ro (y8.2.2.1.Data.map (PV.int .i32))]), ((.loc 6 9), [.int .i64 y9.Channels, .sl 21 .ro (y9.Data.map (PV.int .i32))]), ((.loc 7 7), [.int .i64 y10.1.Channels, .int .i64 y10.1.Capacity, .int .i64 y10.1.Written, .int .i64 y10.1.Read, .sl 21 .ro (y10.1.Data.map (PV.int .i32))]), ((.loc 8 9), [.int .i64 0, .sl 21 .full []]), ((.loc 8 10), [.int .i64 0, .int .i64 0, .int .i64 0, .int .i64 0, .sl 21 .full []])]⟩,
      ⟨[(59, .agg [.int .i64 y10.1.Channels, .int .i64 y10.1.Capacity, .int .i64 y10.1.Written, .int .i64 y10.1.Read, .sl 21 .ro (y10.1.Data.map (PV.int .i32))]), (60, .agg [.int .i64 y9.Channels, .sl 21 .ro (y9.Data.map (PV.int .i32))]), (61, .int .i64 y11), (62, .tup [.agg [.int .i64 y12.1.Channels, .sl 21 .ro (y12.1.Data.map (PV.int .i32))], .int .i64 y12.2.1, .agg [.int .i64 y12.2.2.1.Channels, .int .i64 y12.2.2.1.Capacity, .int .i64 y12.2.2.1.Written, .int .i64 y12.2.2.1.Read, .sl 21 .ro (y12.2.2.1.Data.map (PV.int .i32))], .int .i64 y12.2.2.2]), (58, .tup [.agg [.int .i64 y12.1.Channels, .sl 21 .ro (y12.1.Data.map (PV.int .i32))], .int .i64 y12.2.1, .agg [.int .i64 y12.2.2.1.Channels, .int .i64 y12.2.2.1.Capacity, .int .i64 y12.2.2.1.Written, .int .i64 y12.2.2.1.Read, .sl 21 .ro (y12.2.2.1.Data.map (PV.int .i32))], .int .i64 y12.2.2.2]), (63, .agg [.int .i64 y12.1.Channels, .sl 21 .ro (y12.1.Data.map (PV.int .i32))]), (64, .int .i64 y12.2.1), (65, .agg [.int .i64 y12.2.2.1.Channels, .int .i64 y12.2.2.1.Capacity, .int .i64 y12.2.2.1.Written, .int .i64 y12.2.2.1.Read, .sl 21 .ro (y12.2.2.1.Data.map (PV.int .i32))]), (66, .int .i64 y12.2.2.2), (16, .ptr (.loc 8 9) 0), (18, .ptr (.loc 8 10) 0), (17, .int .i64 y12.2.1), (1, .int .u8 a1), (5, .ptr (.loc 3 3) 0), (6, .ptr (.loc 4 5) 0), (7, .int .i64 y7.2), (8, .ptr (.loc 5 10) 0), (9, .int .i64 y8.2.1), (10, .ptr (.loc 5 11) 0), (11, .int .i64 y8.2.2.2), (12, .ptr (.loc 6 9) 0), (13, .ptr (.loc 7 7) 0), (14, .int .i64 y10.2.1), (15, .int .i64 y10.2.2)], [], [((.loc 3 3), [.int .i64 y6.1.Channels, .int .i64 y6.1.Capacity, .int .i64 y6.1.Written, .int .i64 y6.1.Read, .sl 21 .ro (y6.1.Data.map (PV.int .i32))]), ((.loc 4 5), [.int .i64 y7.1.Channels, .int .i64 y7.1.Capacity, .int .i64 y7.1.Written, .int .i64 y7.1.Read, .sl 21 .ro (y7.1.Data.map (PV.int .i32))]), ((.loc 5 10), [.int .i64 y8.1.Channels, .sl 21 .ro (y8.1.Data.map (PV.int .i32))]), ((.loc 5 11), [.int .i64 y8.2.2.1.Channels, .int .i64 y8.2.2.1.Capacity, .int .i64 y8.2.2.1.Written, .int .i64 y8.2.2.1.Read, .sl 21 .ro (y8.2.2.1.Data.map (PV.int .i32))]), ((.loc 6 9), [.int .i64 y9.Channels, .sl 21 .ro (y9.Data.map (PV.int .i32))]), ((.loc 7 7), [.int .i64 y10.1.Channels, .int .i64 y10.1.Capacity, .int .i64 y10.1.Written, .int .i64 y10.1.Read, .sl 21 .ro (y10.1.Data.map (PV.int .i32))]), ((.loc 8 9), [.int .i64 y12.1.Channels, .sl 21 .ro (y12.1.Data.map (PV.int .i32))]), ((.loc 8 10), [.int .i64 0, .int .i64 0, .int .i64 0, .int .i64 0, .sl 21 .full []])]⟩,
      ⟨[(59, .agg [.int .i64 y10.1.Channels, .int .i64 y10.1.Capacity, .int .i64 y10.1.Written, .int .i64 y10.1.Read, .sl 21 .ro (y10.1.Data.map (PV.int .i32))]), (60, .agg [.int .i64 y9.Channels, .sl 21 .ro (y9.Data.map (PV.int .i32))]), (61, .int .i64 y11), (62, .tup [.agg [.int .i64 y12.1.Channels, .sl 21 .ro (y12.1.Data.map (PV.int .i32))], .int .i64 y12.2.1, .agg [.int .i64 y12.2.2.1.Channels, .int .i64 y12.2.2.1.Capacity, .int .i64 y12.2.2.1.Written, .int .i64 y12.2.2.1.Read, .sl 21 .ro (y12.2.2.1.Data.map (PV.int .i32))], .int .i64 y12.2.2.2]), (58, .tup [.agg [.int .i64 y12.1.Channels, .sl 21 .ro (y12.1.Data.map (PV.int .i32))], .int .i64 y12.2.1, .agg [.int .i64 y12.2.2.1.Channels, .int .i64 y12.2.2.1.Capacity, .int .i64 y12.2.2.1.Written, .int .i64 y12.2.2.1.Read, .sl 21 .ro (y12.2.2.1.Data.map (PV.int .i32))], .int .i64 y12.2.2.2]), (63, .agg [.int .i64 y12.1.Channels, .sl 21 .ro (y12.1.Data.map (PV.int .i32))]), (64, .int .i64 y12.2.1), (65, .agg [.int .i64 y12.2.2.1.Channels, .int .i64 y12.2.2.1.Capacity, .int .i64 y12.2.2.1.Written, .int .i64 y12.2.2.1.Read, .sl 21 .ro (y12.2.2.1.Data.map (PV.int .i32))]), (66, .int .i64 y12.2.2.2), (16, .ptr (.loc 8 9) 0), (18, .ptr (.loc 8 10) 0), (17, .int .i64 y12.2.1), (19, .int .i64 y12.2.2.2), (1, .int .u8 a1), (5, .ptr (.loc 3 3) 0), (6, .ptr (.loc 4 5) 0), (7, .int .i64 y7.2), (8, .ptr (.loc 5 10) 0), (9, .int .i64 y8.2.1), (10, .ptr (.loc 5 11) 0), (11, .int .i64 y8.2.2.2), (12, .ptr (.loc 6 9) 0), (13, .ptr (.loc 7 7) 0), (14, .int .i64 y10.2.1), (15, .int .i64 y10.2.2)], [], [((.loc 3 3), [.int .i64 y6.1.Channels, .int .i64 y6.1.Capacity, .int .i64 y6.1.Written, .int .i64 y6.1.Read, .sl 21 .ro (y6.1.Data.map (PV.int .i32))]), ((.loc 4 5), [.int .i64 y7.1.Channels, .int .i64 y7.1.Capacity, .int .i64 y7.1.Written, .int .i64 y7.1.Read, .sl 21 .ro (y7.1.Data.map (PV.int .i32))]), ((.loc 5 10), [.int .i64 y8.1.Channels, .sl 21 .ro (y8.1.Data.map (PV.int .i32))]), ((.loc 5 11), [.int .i64 y8.2.2.1.Channels, .int .i64 y8.2.2.1.Capacity, .int .i64 y8.2.2.1.Written, .int .i64 y8.2.2.1.Read, .sl 21 .ro (y8.2.2.1.Data.map (PV.int .i32))]), ((.loc 6 9), [.int .i64 y9.Channels, .sl 21 .ro (y9.Data.map (PV.int .i32))]), ((.loc 7 7), [.int .i64 y10.1.Channels, .int .i64 y10.1.Capacity, .int .i64 y10.1.Written, .int .i64 y10.1.Read, .sl 21 .ro (y10.1.Data.map (PV.int .i32))]), ((.loc 8 9), [.int .i64 y12.1.Channels, .sl 21 .ro (y12.1.Data.map (PV.int .i32))]), ((.loc 8 10), [.int .i64 y12.2.2.1.Channels, .int .i64 y12.2.2.1.Capacity, .int .i64 y12.2.2.1.Written, .int .i64 y12.2.2.1.Read, .sl 21 .ro (y12.2.2.1.Data.map (PV.int .i32))])]⟩]
      [(1, .int .u8 a1), (5, .ptr (.loc 3 3) 0), (6, .ptr (.loc 4 5) 0), (7, .int .i64 y7.2), (8, .ptr (.loc 5 10) 0), (9, .int .i64 y8.2.1), (10, .ptr (.loc 5 11) 0), (11, .int .i64 y8.2.2.2), (12, .ptr (.loc 6 9) 0), (13, .ptr (.loc 7 7) 0), (14, .int .i64 y10.2.1), (15, .int .i64 y10.2.2)]
      (.cons [13] [] (fun _ _ h => .val (h _)) rfl rfl <|
      .cons [13] [] (fun _ _ h => .val (h _)) rfl rfl <|
      .cons [13] [] (fun _ _ h => .val (h _)) rfl rfl <|
      .cons [13] [] (fun _ _ h => .val (h _)) rfl rfl <|
      .cons [12] [] (fun _ _ h => .val (h _)) rfl rfl <|
      .cons [12] [] (fun _ _ h => .val (h _)) rfl rfl <|
      .cons [12] [] (fun _ _ h => .val (h _)) rfl rfl <|
      .cons [12] [] (fun _ _ h => .val (h _)) rfl rfl <|
      .cons [60] [] (fun _ _ h => .cP (g35 hy11) (h _)) rfl rfl <|
      .cons [60] [] (fun _ _ h => .cP (g35 hy11) (h _)) rfl rfl <|
      .cons [60] [] (fun _ _ h => .cP (g35 hy11) (h _)) rfl rfl <|
      .cons [60] [] (fun _ _ h => .cP (g35 hy11) (h _)) rfl rfl <|
      .cons [59, 61] [] (fun _ _ h => .cP (g17 hy12) (h _)) rfl rfl <|
      .cons [59, 61] [] (fun _ _ h => .cP (g17 hy12) (h _)) rfl rfl <|
      .cons [59, 61] [] (fun _ _ h => .cP (g17 hy12) (h _)) rfl rfl <|
      .cons [59, 61] [] (fun _ _ h => .cP (g17 hy12) (h _)) rfl rfl <|
      .cons [62] [] (fun _ _ h => .move (h _)) rfl rfl <|
      .cons [62] [] (fun _ _ h => .move (h _)) rfl rfl <|
      .cons [62] [] (fun _ _ h => .move (h _)) rfl rfl <|
      .cons [62] [] (fun _ _ h => .move (h _)) rfl rfl <|
      .cons [58] [] (fun _ _ h => .val (h _)) rfl rfl <|
      .cons [58] [] (fun _ _ h => .val (h _)) rfl rfl <|
      .cons [58] [] (fun _ _ h => .val (h _)) rfl rfl <|
      .cons [58] [] (fun _ _ h => .val (h _)) rfl rfl <|
      .cons [58] [] (fun _ _ h => .val (h _)) rfl rfl <|
      .cons [58] [] (fun _ _ h => .val (h _)) rfl rfl <|
      .cons [58] [] (fun _ _ h => .val (h _)) rfl rfl <|
      .cons [58] [] (fun _ _ h => .val (h _)) rfl rfl <|
      .cons [58] [] (fun _ _ h => .val (h _)) rfl rfl <|
      .cons [58] [] (fun _ _ h => .val (h _)) rfl rfl <|
      .cons [58] [] (fun _ _ h => .val (h _)) rfl rfl <|
      .cons [58] [] (fun _ _ h => .val (h _)) rfl rfl <|
      .cons [58] [] (fun _ _ h => .val (h _)) rfl rfl <|
      .cons [58] [] (fun _ _ h => .val (h _)) rfl rfl <|
      .cons [58] [] (fun _ _ h => .val (h _)) rfl rfl <|
      .cons [58] [] (fun _ _ h => .val (h _)) rfl rfl <|
      .cons [58] [] (fun _ _ h => .val (h _)) rfl rfl <|
      .cons [58] [] (fun _ _ h => .val (h _)) rfl rfl <|
      .cons [58] [] (fun _ _ h => .val (h _)) rfl rfl <|
      .cons [58] [] (fun _ _ h => .val (h _)) rfl rfl <|
      .cons [64] [] (fun _ _ h => .assign (h _)) rfl rfl <|
      .cons [66] [] (fun _ _ h => .assign (h _)) rfl rfl <|
      .nil)
      (.cons (PV.sub (oneSub (.loc 8 9) .kill)) [] [] (fun _ _ h => .allocL (cs := [.int .i64 0, .sl 21 .full []]) (h _ _ (.cons rfl (.cons rfl (.cons rfl (.cons rfl (.cons rfl (.cons rfl (.cons rfl (.nil)))))))))) rfl (.old rfl (.old rfl (.old rfl (.old rfl (.old rfl (.old rfl (.old rfl (.old rfl (.old rfl (.new rfl (.old rfl (.old rfl (.old rfl (.old rfl (.old rfl (.old rfl (.old rfl (.old rfl (.old rfl (.old rfl (.old rfl (.old rfl (.nil))))))))))))))))))))))) rfl rfl <|
      .cons (PV.sub (oneSub (.loc 8 10) .kill)) [] [] (fun _ _ h => .allocL (cs := [.int .i64 0, .int .i64 0, .int .i64 0, .int .i64 0, .sl 21 .full []]) (h _ _ (.cons rfl (.cons rfl (.cons rfl (.cons rfl (.cons rfl (.cons rfl (.cons rfl (.nil)))))))))) rfl (.old rfl (.old rfl (.old rfl (.old rfl (.old rfl (.old rfl (.old rfl (.old rfl (.old rfl (.new rfl (.old rfl (.old rfl (.old rfl (.old rfl (.old rfl (.old rfl (.old rfl (.old rfl (.old rfl (.old rfl (.old rfl (.old rfl (.nil))))))))))))))))))))))) rfl rfl <|
      .cons (PV.sub (oneSub (.loc 8 10) .kill)) [] [] (fun _ _ h => .allocL (cs := [.int .i64 0, .int .i64 0, .int .i64 0, .int .i64 0, .sl 21 .full []]) (h _ _ (.cons rfl (.cons rfl (.cons rfl (.cons rfl (.cons rfl (.cons rfl (.cons rfl (.cons rfl (.nil))))))))))) rfl (.old rfl (.old rfl (.old rfl (.old rfl (.old rfl (.old rfl (.old rfl (.old rfl (.old rfl (.old rfl (.new rfl (.old rfl (.old rfl (.old rfl (.old rfl (.old rfl (.old rfl (.old rfl (.old rfl (.old rfl (.old rfl (.old rfl (.old rfl (.nil)))))))))))))))))))))))) rfl rfl <|
      .cons (PV.sub (oneSub (.loc 8 9) .kill)) [] [] (fun _ _ h => .allocL (cs := [.int .i64 0, .sl 21 .full []]) (h _ _ (.cons rfl (.cons rfl (.cons rfl (.cons rfl (.cons rfl (.cons rfl (.cons rfl (.cons rfl (.nil))))))))))) rfl (.old rfl (.old rfl (.old rfl (.old rfl (.old rfl (.old rfl (.old rfl (.old rfl (.old rfl (.new rfl (.old rfl (.old rfl (.old rfl (.old rfl (.old rfl (.old rfl (.old rfl (.old rfl (.old rfl (.old rfl (.old rfl (.old rfl (.old rfl (.nil)))))))))))))))))))))))) rfl rfl <|
      .cons (fun x => x) [16, 63] [] (fun _ _ h => .wrL (cs := [.int .i64 y12.1.Channels, .sl 21 .ro (y12.1.Data.map (PV.int .i32))]) (h _ _ (.cons rfl (.cons rfl (.cons rfl (.cons rfl (.cons rfl (.cons rfl (.cons rfl (.cons rfl (.nil))))))))))) rfl (.old rfl (.old rfl (.old rfl (.old rfl (.old rfl (.old rfl (.old rfl (.old rfl (.old rfl (.old rfl (.old rfl (.new rfl (.old rfl (.old rfl (.old rfl (.old rfl (.old rfl (.old rfl (.old rfl (.old rfl (.old rfl (.old rfl (.old rfl (.old rfl (.nil))))))))))))))))))))))))) rfl rfl <|
      .cons (fun x => x) [18, 65] [] (fun _ _ h => .wrL (cs := [.int .i64 y12.2.2.1.Channels, .int .i64 y12.2.2.1.Capacity, .int .i64 y12.2.2.1.Written, .int .i64 y12.2.2.1.Read, .sl 21 .ro (y12.2.2.1.Data.map (PV.int .i32))]) (h _ _ (.cons rfl (.cons rfl (.cons rfl (.cons rfl (.cons rfl (.cons rfl (.cons rfl (.cons rfl (.nil))))))))))) rfl (.old rfl (.old rfl (.old rfl (.old rfl (.old rfl (.old rfl (.old rfl (.old rfl (.old rfl (.old rfl (.old rfl (.old rfl (.new rfl (.old rfl (.old rfl (.old rfl (.old rfl (.old rfl (.old rfl (.old rfl (.old rfl (.old rfl (.old rfl (.old rfl (.old rfl (.nil)))))))))))))))))))))))))) rfl rfl <|
      .nil)
      (by kernel_rfl) rfl (.cons rfl (.cons rfl (.cons rfl (.cons rfl (.cons rfl (.cons rfl (.cons rfl (.cons rfl (.cons rfl (.cons rfl (.cons rfl (.cons rfl (.nil))))))))))))) (.nil) (.cons rfl (.cons rfl (.cons rfl (.cons rfl (.cons rfl (.cons rfl (.nil))))))) ?_
    refine .imp (T := St.of [(1, .int .u8 a1), (5, .ptr (.loc 3 3) 0), (6, .ptr (.loc 4 5) 0), (7, .int .i64 y7.2), (8, .ptr (.loc 5 10) 0), (9, .int .i64 y8.2.1), (10, .ptr (.loc 5 11) 0), (11, .int .i64 y8.2.2.2), (12, .ptr (.loc 6 9) 0), (14, .int .i64 y10.2.1), (15, .int .i64 y10.2.2), (16, .ptr (.loc 8 9) 0), (17, .int .i64 y12.2.1), (19, .int .i64 y12.2.2.2)] [((.loc 3 3), [.int .i64 y6.1.Channels, .int .i64 y6.1.Capacity, .int .i64 y6.1.Written, .int .i64 y6.1.Read, .sl 21 .ro (y6.1.Data.map (PV.int .i32))]), ((.loc 4 5), [.int .i64 y7.1.Channels, .int .i64 y7.1.Capacity, .int .i64 y7.1.Written, .int .i64 y7.1.Read, .sl 21 .ro (y7.1.Data.map (PV.int .i32))]), ((.loc 5 10), [.int .i64 y8.1.Channels, .sl 21 .ro (y8.1.Data.map (PV.int .i32))]), ((.loc 5 11), [.int .i64 y8.2.2.1.Channels, .int .i64 y8.2.2.1.Capacity, .int .i64 y8.2.2.1.Written, .int .i64 y8.2.2.1.Read, .sl 21 .ro (y8.2.2.1.Data.map (PV.int .i32))]), ((.loc 6 9), [.int .i64 y9.Channels, .sl 21 .ro (y9.Data.map (PV.int .i32))]), ((.loc 8 9), [.int .i64 y12.1.Channels, .sl 21 .ro (y12.1.Data.map (PV.int .i32))])]) (imp_of (.cons rfl (.cons rfl (.cons rfl (.cons rfl (.cons rfl (.cons rfl (.cons rfl (.cons rfl (.cons rfl (.cons rfl (.cons rfl (.cons rfl (.cons rfl (.cons rfl (.nil))))))))))))))) (.cons rfl (.cons rfl (.cons rfl (.cons rfl (.cons rfl (.cons rfl (.nil)))))))) ?_
    obtain ⟨j24, hj24, h⟩ := joinE h
    refine .cutI (fun T => (T = St.of [(1, .int .u8 a1), (5, .ptr (.loc 3 3) 0), (6, .ptr (.loc 4 5) 0), (7, .int .i64 y7.2), (9, .int .i64 y8.2.1), (10, .ptr (.loc 5 11) 0), (11, .int .i64 y8.2.2.2), (12, .ptr (.loc 6 9) 0), (14, .int .i64 y10.2.1), (15, .int .i64 y10.2.2), (16, .ptr (.loc 8 9) 0), (17, .int .i64 y12.2.1), (19, .int .i64 y12.2.2.2)] [((.loc 3 3), [.int .i64 y6.1.Channels, .int .i64 y6.1.Capacity, .int .i64 y6.1.Written, .int .i64 y6.1.Read, .sl 21 .ro (y6.1.Data.map (PV.int .i32))]), ((.loc 4 5), [.int .i64 y7.1.Channels, .int .i64 y7.1.Capacity, .int .i64 y7.1.Written, .int .i64 y7.1.Read, .sl 21 .ro (y7.1.Data.map (PV.int .i32))]), ((.loc 5 11), [.int .i64 y8.2.2.1.Channels, .int .i64 y8.2.2.1.Capacity, .int .i64 y8.2.2.1.Written, .int .i64 y8.2.2.1.Read, .sl 21 .ro (y8.2.2.1.Data.map (PV.int .i32))]), ((.loc 6 9), [.int .i64 y9.Channels, .sl 21 .ro (y9.Data.map (PV.int .i32))]), ((.loc 8 9), [.int .i64 y12.1.Channels, .sl 21 .ro (y12.1.Data.map (PV.int .i32))])] ∧ j24 () = some r)) ?_ ?_
    · refine .seq ?_
      refine .region ?_
      refine .val ?_
      refine .val ?_
      refine .lenL (f := (PV.int .i32)) ?_
      refine .move ?_
      refine .nil ?_
      refine .block ?_
      refine .loopI (fun m T => ∃ (v28 : Int), T = St.of [(1, .int .u8 a1), (5, .ptr (.loc 3 3) 0), (6, .ptr (.loc 4 5) 0), (7, .int .i64 y7.2), (9, .int .i64 y8.2.1), (10, .ptr (.loc 5 11) 0), (11, .int .i64 y8.2.2.2), (12, .ptr (.loc 6 9) 0), (14, .int .i64 y10.2.1), (15, .int .i64 y10.2.2), (16, .ptr (.loc 8 9) 0), (17, .int .i64 y12.2.1), (19, .int .i64 y12.2.2.2), (68, .sl 21 .ro (y8.1.Data.map (PV.int .i32))), (69, .int .i64 (y8.1.Data.length : Int)), (70, .int .i64 v28)] [((.loc 3 3), [.int .i64 y6.1.Channels, .int .i64 y6.1.Capacity, .int .i64 y6.1.Written, .int .i64 y6.1.Read, .sl 21 .ro (y6.1.Data.map (PV.int .i32))]), ((.loc 4 5), [.int .i64 y7.1.Channels, .int .i64 y7.1.Capacity, .int .i64 y7.1.Written, .int .i64 y7.1.Read, .sl 21 .ro (y7.1.Data.map (PV.int .i32))]), ((.loc 5 11), [.int .i64 y8.2.2.1.Channels, .int .i64 y8.2.2.1.Capacity, .int .i64 y8.2.2.1.Written, .int .i64 y8.2.2.1.Read, .sl 21 .ro (y8.2.2.1.Data.map (PV.int .i32))]), ((.loc 6 9), [.int .i64 y9.Channels, .sl 21 .ro (y9.Data.map (PV.int .i32))]), ((.loc 8 9), [.int .i64 y12.1.Channels, .sl 21 .ro (y12.1.Data.map (PV.int .i32))])] ∧ f6_l1 n y8 j24 m v28 = some r) _ _ ⟨_, rfl, h⟩ (imp_of (.cons rfl (.cons rfl (.cons rfl (.cons rfl (.cons rfl (.cons rfl (.cons rfl (.cons rfl (.cons rfl (.cons rfl (.cons rfl (.cons rfl (.cons rfl (.cons rfl (.cons rfl (.cons rfl (.nil))))))))))))))))) (.cons rfl (.cons rfl (.cons rfl (.cons rfl (.cons rfl (.nil))))))) ?_
      rintro m33 T ⟨v28, rfl, h⟩
      obtain _ | m33 := m33
      · rw [f6_l1] at h; cases h
      rw [f6_l1] at h
      refine .seq ?_
      refine .region ?_
      refine .val ?_
      refine .nil ?_
      refine .seq ?_
      refine .cond (fun hc35 => ?_) (fun hc35 => ?_)
      · replace h := (if_pos hc35).symm.trans h
        refine .skip ?_
        refine .seq ?_
        refine .block ?_
        refine .seq ?_
        refine .region ?_
        obtain ⟨x38, hx38, h⟩ := bindE h
        refine .idxL (f := (PV.int .i32)) hx38 ?_
        refine .ldL hx38 (y := .int .i32 x38) ?_
        refine .assign ?_
        refine .nil ?_
        refine .seq ?_
        refine .region ?_
        refine .move ?_
        refine .val ?_
        refine .nil ?_
        refine .cond (fun hc39 => ?_) (fun hc39 => ?_)
        · replace h := (if_pos hc39).symm.trans h
          refine .seq ?_
          refine .region ?_
          refine .assign ?_
          refine .nil ?_
          cases h
          exact .ret (fin_gen0 none)
        · replace h := (if_neg (nt hc39)).symm.trans h
          refine .skip ?_
          refine .region ?_
          refine .val ?_
          refine .move ?_
          refine .nil ?_
          exact ⟨m33, _, Nat.lt_succ_self m33, ⟨_, rfl, h⟩, (imp_of (.cons rfl (.cons rfl (.cons rfl (.cons rfl (.cons rfl (.cons rfl (.cons rfl (.cons rfl (.cons rfl (.cons rfl (.cons rfl (.cons rfl (.cons rfl (.cons rfl (.cons rfl (.cons rfl (.nil))))))))))))))))) (.cons rfl (.cons rfl (.cons rfl (.cons rfl (.cons rfl (.nil)))))))⟩
      · replace h := (if_neg (nt hc35)).symm.trans h
        refine .exit (.hit ?_)
        exact ⟨_, ⟨rfl, h⟩, (imp_of (.cons rfl (.cons rfl (.cons rfl (.cons rfl (.cons rfl (.cons rfl (.cons rfl (.cons rfl (.cons rfl (.cons rfl (.cons rfl (.cons rfl (.cons rfl (.nil)))))))))))))) (.cons rfl (.cons rfl (.cons rfl (.cons rfl (.cons rfl (.nil)))))))⟩
    · rintro T ⟨rfl, h⟩
      subst hj24
      refine .seq ?_
      refine .region ?_
      refine .move ?_
      refine .val ?_
      refine .move ?_
      refine .caseG (fun hc54 => ?_) (fun hc54 => ?_)
      · replace h := (if_pos hc54).symm.trans h
        refine .move ?_
        refine .val ?_
        refine .brT ?_
        refine .move ?_
        refine .caseG (fun hc55 => ?_) (fun hc55 => ?_)
        · replace h := (if_pos hc55).symm.trans h
          refine .move ?_
          refine .val ?_
          refine .brT ?_
          refine .move ?_
          refine .caseG (fun hc56 => ?_) (fun hc56 => ?_)
          · replace h := (if_pos hc56).symm.trans h
            refine .move ?_
            refine .val ?_
            refine .brT ?_
            refine .move ?_
            refine .caseG (fun hc57 => ?_) (fun hc57 => ?_)
            · replace h := (if_pos hc57).symm.trans h
              refine .move ?_
              refine .move ?_
              refine .val ?_ (hc := by decide)
              refine .val ?_
              refine .val ?_
              refine .brT ?_
              refine .move ?_
              refine .caseG (fun hc58 => ?_) (fun hc58 => ?_)
              · replace h := (if_pos hc58).symm.trans h
                refine .val (v := .agg [.int .i64 y7.1.Channels, .int .i64 y7.1.Capacity, .int .i64 y7.1.Written, .int .i64 y7.1.Read, .sl 21 .ro (y7.1.Data.map (PV.int .i32))]) ?_
                refine .val (v := .agg [.int .i64 y8.2.2.1.Channels, .int .i64 y8.2.2.1.Capacity, .int .i64 y8.2.2.1.Written, .int .i64 y8.2.2.1.Read, .sl 21 .ro (y8.2.2.1.Data.map (PV.int .i32))]) ?_
                obtain ⟨y59, hy59, h⟩ := bindE h
                refine .cP (g23 hy59) ?_
                refine .brT ?_
                refine .move ?_
                refine .caseG (fun hc60 => ?_) (fun hc60 => ?_)
                · replace h := (if_pos hc60).symm.trans h
                  refine .val ?_
                  refine .val ?_
                  refine .val ?_
                  refine .val ?_
                  refine .val ?_
                  refine .brT ?_
                  refine .move ?_
                  refine .caseG (fun hc61 => ?_) (fun hc61 => ?_)
                  · replace h := (if_pos hc61).symm.trans h
                    refine .val ?_
                    refine .val ?_
                    refine .val ?_
                    refine .val ?_
                    refine .val ?_
                    refine .brT ?_
                    refine .move ?_
                    refine .caseG (fun hc62 => ?_) (fun hc62 => ?_)
                    · replace h := (if_pos hc62).symm.trans h
                      refine .val (v := .agg [.int .i64 y7.1.Channels, .int .i64 y7.1.Capacity, .int .i64 y7.1.Written, .int .i64 y7.1.Read, .sl 21 .ro (y7.1.Data.map (PV.int .i32))]) ?_
                      obtain ⟨y63, hy63, h⟩ := bindE h
                      refine .cP (g18 hy63) ?_
                      refine .val ?_
                      refine .brT ?_
                      refine .move ?_
                      refine .caseG (fun hc64 => ?_) (fun hc64 => ?_)
                      · replace h := (if_pos hc64).symm.trans h
                        refine .move ?_
                        refine .val ?_
                        refine .brT ?_
                        refine .move ?_
                        refine .caseG (fun hc65 => ?_) (fun hc65 => ?_)
                        · replace h := (if_pos hc65).symm.trans h
                          refine .move ?_
                          refine .val ?_
                          refine .brT ?_
                          refine .move ?_
                          refine .caseG (fun hc66 => ?_) (fun hc66 => ?_)
                          · replace h := (if_pos hc66).symm.trans h
                            refine .val (v := .agg [.int .i64 y12.1.Channels, .sl 21 .ro (y12.1.Data.map (PV.int .i32))]) ?_
                            refine .val (v := .agg [.int .i64 y9.Channels, .sl 21 .ro (y9.Data.map (PV.int .i32))]) ?_
                            obtain ⟨y67, hy67, h⟩ := bindE h
                            refine .cP (g24 hy67) ?_
                            refine .brT ?_
                            refine .assign ?_
                            refine .nil ?_
                            cases h
                            exact .ret (fin_gen0 none)
                          · replace h := (if_neg (nt hc66)).symm.trans h
                            refine .skip ?_
                            refine .skip ?_
                            refine .skip ?_
                            refine .brF ?_
                            refine .assign ?_
                            refine .nil ?_
                            cases h
                            exact .ret (fin_gen0 none)
                        · replace h := (if_neg (nt hc65)).symm.trans h
                          refine .skip ?_
                          refine .skip ?_
                          refine .brF ?_
                          refine .move ?_
                          refine .skip ?_
                          refine .skip ?_
                          refine .skip ?_
                          refine .brF ?_
                          refine .assign ?_
                          refine .nil ?_
                          cases h
                          exact .ret (fin_gen0 none)
                      · replace h := (if_neg (nt hc64)).symm.trans h
                        refine .skip ?_
                        refine .skip ?_
                        refine .brF ?_
                        refine .move ?_
                        refine .skip ?_
                        refine .skip ?_
                        refine .brF ?_
                        refine .move ?_
                        refine .skip ?_
                        refine .skip ?_
                        refine .skip ?_
                        refine .brF ?_
                        refine .assign ?_
                        refine .nil ?_
                        cases h
                        exact .ret (fin_gen0 none)
                    · replace h := (if_neg (nt hc62)).symm.trans h
                      refine .skip ?_
                      refine .skip ?_
                      refine .skip ?_
                      refine .brF ?_
                      refine .move ?_
                      refine .skip ?_
                      refine .skip ?_
                      refine .brF ?_
                      refine .move ?_
                      refine .skip ?_
                      refine .skip ?_
                      refine .brF ?_
                      refine .move ?_
                      refine .skip ?_
                      refine .skip ?_
                      refine .skip ?_
                      refine .brF ?_
                      refine .assign ?_
                      refine .nil ?_
                      cases h
                      exact .ret (fin_gen0 none)
                  · replace h := (if_neg (nt hc61)).symm.trans h
                    refine .skip ?_
                    refine .skip ?_
                    refine .skip ?_
                    refine .skip ?_
                    refine .skip ?_
                    refine .brF ?_
                    refine .move ?_
                    refine .skip ?_
                    refine .skip ?_
                    refine .skip ?_
                    refine .brF ?_
                    refine .move ?_
                    refine .skip ?_
                    refine .skip ?_
                    refine .brF ?_
                    refine .move ?_
                    refine .skip ?_
                    refine .skip ?_
                    refine .brF ?_
                    refine .move ?_
                    refine .skip ?_
                    refine .skip ?_
                    refine .skip ?_
                    refine .brF ?_
                    refine .assign ?_
                    refine .nil ?_
                    cases h
                    exact .ret (fin_gen0 none)
                · replace h := (if_neg (nt hc60)).symm.trans h
                  refine .skip ?_
                  refine .skip ?_
                  refine .skip ?_
                  refine .skip ?_
                  refine .skip ?_
                  refine .brF ?_
                  refine .move ?_
                  refine .skip ?_
                  refine .skip ?_
                  refine .skip ?_
                  refine .skip ?_
                  refine .skip ?_
                  refine .brF ?_
                  refine .move ?_
                  refine .skip ?_
                  refine .skip ?_
                  refine .skip ?_
                  refine .brF ?_
                  refine .move ?_
                  refine .skip ?_
                  refine .skip ?_
                  refine .brF ?_
                  refine .move ?_
                  refine .skip ?_
                  refine .skip ?_
                  refine .brF ?_
                  refine .move ?_
                  refine .skip ?_
                  refine .skip ?_
                  refine .skip ?_
                  refine .brF ?_
                  refine .assign ?_
                  refine .nil ?_
                  cases h
                  exact .ret (fin_gen0 none)
              · replace h := (if_neg (nt hc58)).symm.trans h
                refine .skip ?_
                refine .skip ?_
                refine .skip ?_
                refine .brF ?_
                refine .move ?_
                refine .skip ?_
                refine .skip ?_
                refine .skip ?_
                refine .skip ?_
                refine .skip ?_
                refine .brF ?_
                refine .move ?_
                refine .skip ?_
                refine .skip ?_
                refine .skip ?_
                refine .skip ?_
                refine .skip ?_
                refine .brF ?_
                refine .move ?_
                refine .skip ?_
                refine .skip ?_
                refine .skip ?_
                refine .brF ?_
                refine .move ?_
                refine .skip ?_
                refine .skip ?_
                refine .brF ?_
                refine .move ?_
                refine .skip ?_
                refine .skip ?_
                refine .brF ?_
                refine .move ?_
                refine .skip ?_
                refine .skip ?_
                refine .skip ?_
                refine .brF ?_
                refine .assign ?_
                refine .nil ?_
                cases h
                exact .ret (fin_gen0 none)
            · replace h := (if_neg (nt hc57)).symm.trans h
              refine .skip ?_
              refine .skip ?_
              refine .skip ?_
              refine .skip ?_
              refine .skip ?_
              refine .brF ?_
              refine .move ?_
              refine .skip ?_
              refine .skip ?_
              refine .skip ?_
              refine .brF ?_
              refine .move ?_
              refine .skip ?_
              refine .skip ?_
              refine .skip ?_
              refine .skip ?_
              refine .skip ?_
              refine .brF ?_
              refine .move ?_
              refine .skip ?_
              refine .skip ?_
              refine .skip ?_
              refine .skip ?_
              refine .skip ?_
              refine .brF ?_
              refine .move ?_
              refine .skip ?_
              refine .skip ?_
              refine .skip ?_
              refine .brF ?_
              refine .move ?_
              refine .skip ?_
              refine .skip ?_
              refine .brF ?_
              refine .move ?_
              refine .skip ?_
              refine .skip ?_
              refine .brF ?_
              refine .move ?_
              refine .skip ?_
              refine .skip ?_
              refine .skip ?_
              refine .brF ?_
              refine .assign ?_
              refine .nil ?_
              cases h
              exact .ret (fin_gen0 none)
          · replace h := (if_neg (nt hc56)).symm.trans h
            refine .skip ?_
            refine .skip ?_
            refine .brF ?_
            refine .move ?_
            refine .skip ?_
            refine .skip ?_
            refine .skip ?_
            refine .skip ?_
            refine .skip ?_
            refine .brF ?_
            refine .move ?_
            refine .skip ?_
            refine .skip ?_
            refine .skip ?_
            refine .brF ?_
            refine .move ?_
            refine .skip ?_
            refine .skip ?_
            refine .skip ?_
            refine .skip ?_
            refine .skip ?_
            refine .brF ?_
            refine .move ?_
            refine .skip ?_
            refine .skip ?_
            refine .skip ?_
            refine .skip ?_
            refine .skip ?_
            refine .brF ?_
            refine .move ?_
            refine .skip ?_
            refine .skip ?_
            refine .skip ?_
            refine .brF ?_
            refine .move ?_
            refine .skip ?_
            refine .skip ?_
            refine .brF ?_
            refine .move ?_
            refine .skip ?_
            refine .skip ?_
            refine .brF ?_
            refine .move ?_
            refine .skip ?_
            refine .skip ?_
            refine .skip ?_
            refine .brF ?_
            refine .assign ?_
            refine .nil ?_
            cases h
            exact .ret (fin_gen0 none)
        · replace h := (if_neg (nt hc55)).symm.trans h
          refine .skip ?_
          refine .skip ?_
          refine .brF ?_
          refine .move ?_
          refine .skip ?_
          refine .skip ?_
          refine .brF ?_
          refine .move ?_
          refine .skip ?_
          refine .skip ?_
          refine .skip ?_
          refine .skip ?_
          refine .skip ?_
          refine .brF ?_
          refine .move ?_
          refine .skip ?_
          refine .skip ?_
          refine .skip ?_
          refine .brF ?_
          refine .move ?_
          refine .skip ?_
          refine .skip ?_
          refine .skip ?_
          refine .skip ?_
          refine .skip ?_
          refine .brF ?_
          refine .move ?_
          refine .skip ?_
          refine .skip ?_
          refine .skip ?_
          refine .skip ?_
          refine .skip ?_
          refine .brF ?_
          refine .move ?_
          refine .skip ?_
          refine .skip ?_
          refine .skip ?_
          refine .brF ?_
          refine .move ?_
          refine .skip ?_
          refine .skip ?_
          refine .brF ?_
          refine .move ?_
          refine .skip ?_
          refine .skip ?_
          refine .brF ?_
          refine .move ?_
          refine .skip ?_
          refine .skip ?_
          refine .skip ?_
          refine .brF ?_
          refine .assign ?_
          refine .nil ?_
          cases h
          exact .ret (fin_gen0 none)
      · replace h := (if_neg (nt hc54)).symm.trans h
        refine .skip ?_
        refine .skip ?_
        refine .brF ?_
        refine .move ?_
        refine .skip ?_
        refine .skip ?_
        refine .brF ?_
        refine .move ?_
        refine .skip ?_
        refine .skip ?_
        refine .brF ?_
        refine .move ?_
        refine .skip ?_
        refine .skip ?_
        refine .skip ?_
        refine .skip ?_
        refine .skip ?_
        refine .brF ?_
        refine .move ?_
        refine .skip ?_
        refine .skip ?_
        refine .skip ?_
        refine .brF ?_
        refine .move ?_
        refine .skip ?_
        refine .skip ?_
        refine .skip ?_
        refine .skip ?_
        refine .skip ?_
        refine .brF ?_
        refine .move ?_
        refine .skip ?_
        refine .skip ?_
        refine .skip ?_
        refine .skip ?_
        refine .skip ?_
        refine .brF ?_
        refine .move ?_
        refine .skip ?_
        refine .skip ?_
        refine .skip ?_
        refine .brF ?_
        refine .move ?_
        refine .skip ?_
        refine .skip ?_
        refine .brF ?_
        refine .move ?_
        refine .skip ?_
        refine .skip ?_
        refine .brF ?_
        refine .move ?_
        refine .skip ?_
        refine .skip ?_
        refine .skip ?_
        refine .brF ?_
        refine .assign ?_
        refine .nil ?_
        cases h
        exact .ret (fin_gen0 none)
end Go.Proofs.Ytacdknbakjbpiaa
