/-
  Plain functions of slices, soundservicemill, and that the code does what they say.
-/
import Derived.Test.YtcahjpkmldmjdaaGb
namespace Go.Proofs.Ytcahjpkmldmjdaa
open Go Ab
/- slices.Clone[[]byte,byte] -/
def f87 (_n : Nat) (a0 : (List Int)) : Option (List Int) :=
  (lApp ([] : List Int) a0).bind fun x6 =>
  some x6
set_option maxHeartbeats 4000000 in
set_option maxRecDepth 100000 in
theorem g87 {n : Nat} {a0 : (List Int)} {r : (List Int)} (h : f87 n a0 = some r) :
    Ab.Can Try.prog 87 [.sl 5 .ro (a0.map (PV.int .u8))] H0 (.sl 5 (.own (.rrow 0)) (r.map (PV.int .u8))) H0 := by
  refine can_of tabOK mix Try.call87 Try.func87 rfl (by kernel_rfl) (by show _ ≤ 8; simp) fun _ => ?_
  rw [f87] at h
  refine .seq ?_
  refine .region ?_
  refine .assign ?_
  refine .nil ?_
  refine .seq ?_
  refine .seq ?_
  refine .region ?_
  refine .move ?_
  refine .nd rfl rfl fun b3 hb4 => ?_
  rcases bool_em b3 with hc | hc
  · have h0 := hb4 hc
    rw [List.map_eq_nil_iff] at h0
    subst h0
    subst hc
    replace h : some ([] : List Int) = some r := Eq.trans (by simp [lApp]) h
    refine .nil ?_
    refine .condT ?_
    refine .seq ?_
    refine .region ?_
    refine .assign ?_
    refine .nil ?_
    cases h
    refine .imp (Imp.slot 2 (v := .sl 5 (.own (.row 0 0)) (([] : List Int).map (PV.int .u8))) (.own _ (.row 0 0)) rfl) ?_
    exact .ret (fin_gen0 (some (.row 0 0)))
  · subst hc
    refine .nil ?_
    refine .condF ?_
    refine .skip ?_
    refine .seq ?_
    refine .region ?_
    refine .litE (.row 8005 0) ?_
    refine .move ?_
    obtain ⟨x6, hx6, h⟩ := bindE h
    refine .appL (f := (PV.int .u8)) hx6 ?_
    refine .assign ?_
    refine .nil ?_
    cases h
    exact .ret (fin_gen0 (some (.row 3 2)))
theorem g87r {n : Nat} {a0 : (List Int)} {r : (List Int)} (h : f87 n a0 = some r) :
    Ab.Can Try.prog 87 [.sl 5 .ro (a0.map (PV.int .u8))] H0 (.sl 5 .ro (r.map (PV.int .u8))) H0 := Can.frzR (hq := []) (g87 h)

/- slices.Grow[[]byte,byte] -/
def f101 (_n : Nat) (a1 : Int) : Option (List Int) :=
  if decide (a1 < (0 : Int)) then (
  none)
  else (
  joinK (fun (v6 : (List Int)) =>
  some v6) fun j8 =>
  if decide ((w64 (a1 - (w64 ((0 : Int) - (0 : Int))))) > (0 : Int)) then (
  (lZero (w64 (a1 - (w64 ((0 : Int) - (0 : Int))))) (0 : Int)).bind fun x10 =>
  (lPart x10 0 (0 : Int)).bind fun x11 =>
  j8 x11)
  else (
  j8 ([] : List Int)))
set_option maxHeartbeats 4000000 in
set_option maxRecDepth 100000 in
theorem g101 {n : Nat} {a1 : Int} {r : (List Int)} (h : f101 n a1 = some r) :
    Ab.Can Try.prog 101 [.sl 5 .full [], .int .i64 a1] H0 (.sl 5 (.own (.rrow 0)) (r.map (PV.int .u8))) H0 := by
  refine can_of tabOK mix Try.call101 Try.func101 rfl (by kernel_rfl) (by show _ ≤ 27; simp) fun _ => ?_
  rw [f101] at h
  refine .seq ?_
  refine .region ?_
  refine .assign ?_
  refine .nil ?_
  refine .seq ?_
  refine .seq ?_
  refine .region ?_
  refine .move ?_
  refine .val ?_
  refine .nil ?_
  refine .cond (fun hc2 => ?_) (fun hc2 => ?_)
  · replace h := (if_pos hc2).symm.trans h
    refine .region ?_
    cases h
  · replace h := (if_neg (nt hc2)).symm.trans h
    refine .skip ?_
    obtain ⟨j8, hj8, h⟩ := joinE h
    refine .cutI (fun T => (∃ (v6 : (List Int)), T = St.of [(0, .sl 5 (.own (.row 9007 0)) (v6.map (PV.int .u8)))] [] ∧ j8 v6 = some r)) ?_ ?_
    · refine .seq ?_
      refine .region ?_
      refine .move ?_
      refine .move ?_
      refine .capN ?_
      refine .move ?_
      refine .val ?_
      refine .val ?_
      refine .val ?_
      refine .assign ?_
      refine .nil ?_
      refine .seq ?_
      refine .region ?_
      refine .move ?_
      refine .val ?_
      refine .nil ?_
      refine .cond (fun hc9 => ?_) (fun hc9 => ?_)
      · replace h := (if_pos hc9).symm.trans h
        refine .region ?_
        refine .move ?_
        refine .move ?_
        refine .capN ?_
        refine .sliceN ?_
        refine .move ?_
        obtain ⟨x10, hx10, h⟩ := bindE h
        refine .appZ (f := (PV.int .u8)) hx10 ?_
        refine .move ?_
        refine .val ?_
        obtain ⟨x11, hx11, h⟩ := bindE h
        refine .preO (f := (PV.int .u8)) hx11 ?_
        refine .assign ?_
        refine .nil ?_
        exact ⟨_, ⟨_, rfl, h⟩, (Imp.trans (Imp.swap (.row 5 5) (.row 9007 0) rfl rfl rfl) (imp_of (.cons rfl (.nil)) (.nil)))⟩
      · replace h := (if_neg (nt hc9)).symm.trans h
        refine .skip ?_
        exact ⟨_, ⟨_, rfl, h⟩, (imp_of (.wk (.own _ _) rfl (.nil)) (.nil))⟩
    · rintro T ⟨v6, rfl, h⟩
      subst hj8
      refine .seq ?_
      refine .region ?_
      refine .move ?_
      refine .assign ?_
      refine .nil ?_
      cases h
      exact .ret (fin_gen0 (some (.row 9007 0)))
theorem g101r {n : Nat} {a1 : Int} {r : (List Int)} (h : f101 n a1 = some r) :
    Ab.Can Try.prog 101 [.sl 5 .full [], .int .i64 a1] H0 (.sl 5 .ro (r.map (PV.int .u8))) H0 := Can.frzR (hq := []) (g101 h)

/- slices.Concat[[]byte,byte] -/
def f83_l1 (n : Nat) (a0 : (List (List Int))) (j15 : Int → Option (List Int)) : Nat → Int → Int → Option (List Int)
  | 0, _, _ => none
  | m26 + 1, v19, v20 =>
    if decide (v20 < (a0.length : Int)) then (
    (lAt a0 v20).bind fun x31 =>
    if decide ((w64 (v19 + (x31.length : Int))) < (0 : Int)) then (
    none)
    else (
    f83_l1 n a0 j15 m26 (w64 (v19 + (x31.length : Int))) (w64 (v20 + (1 : Int)))))
    else (
    j15 v19)
def f83_l2 (n : Nat) (a0 : (List (List Int))) (j51 : (List Int) → Option (List Int)) : Nat → (List Int) → Int → Option (List Int)
  | 0, _, _ => none
  | m64 + 1, v55, v57 =>
    if decide (v57 < (a0.length : Int)) then (
    (lAt a0 v57).bind fun x69 =>
    (lApp v55 x69).bind fun x70 =>
    f83_l2 n a0 j51 m64 x70 (w64 (v57 + (1 : Int))))
    else (
    j51 v55)
def f83 (n : Nat) (a0 : (List (List Int))) : Option (List Int) :=
  joinK (fun (v14 : Int) =>
  (f101 n v14).bind fun y33 =>
  joinK (fun (v49 : (List Int)) =>
  some v49) fun j51 =>
  f83_l2 n a0 j51 n y33 0) fun j15 =>
  f83_l1 n a0 j15 n 0 0
set_option maxHeartbeats 4000000 in
set_option maxRecDepth 100000 in
theorem g83 {n : Nat} {a0 : (List (List Int))} {r : (List Int)} (h : f83 n a0 = some r) :
    Ab.Can Try.prog 83 [.sl 22 .ro (a0.map pv22)] H0 (.sl 5 (.own (.rrow 0)) (r.map (PV.int .u8))) H0 := by
  refine can_of tabOK mix Try.call83 Try.func83 rfl (by kernel_rfl) (by show _ ≤ 36; simp) fun _ => ?_
  rw [f83] at h
  refine .seq ?_
  refine .region ?_
  refine .assign ?_
  refine .nil ?_
  refine .seq ?_
  refine .region ?_
  refine .assign ?_
  refine .nil ?_
  obtain ⟨j15, hj15, h⟩ := joinE h
  refine .cutI (fun T => (∃ (v14 : Int), T = St.of [(0, .sl 22 .ro (a0.map pv22)), (3, .int .i64 v14)] [] ∧ j15 v14 = some r)) ?_ ?_
  · refine .seq ?_
    refine .region ?_
    refine .move ?_
    refine .lenL (f := pv22) ?_
    refine .move ?_
    refine .nil ?_
    refine .block ?_
    refine .loopI (fun m T => ∃ (v19 : Int) (v20 : Int), T = St.of [(0, .sl 22 .ro (a0.map pv22)), (3, .int .i64 v19), (9, .sl 22 .ro (a0.map pv22)), (10, .int .i64 (a0.length : Int)), (11, .int .i64 v20)] [] ∧ f83_l1 n a0 j15 m v19 v20 = some r) _ _ ⟨_, _, rfl, h⟩ (imp_of (.cons rfl (.cons rfl (.cons rfl (.cons rfl (.cons rfl (.nil)))))) (.nil)) ?_
    rintro m26 T ⟨v19, v20, rfl, h⟩
    obtain _ | m26 := m26
    · rw [f83_l1] at h; cases h
    rw [f83_l1] at h
    refine .seq ?_
    refine .region ?_
    refine .val ?_
    refine .nil ?_
    refine .seq ?_
    refine .cond (fun hc28 => ?_) (fun hc28 => ?_)
    · replace h := (if_pos hc28).symm.trans h
      refine .skip ?_
      refine .seq ?_
      refine .block ?_
      refine .seq ?_
      refine .region ?_
      obtain ⟨x31, hx31, h⟩ := bindE h
      refine .idxL (f := pv22) hx31 ?_
      refine .ldL hx31 (y := .sl 5 .ro (x31.map (PV.int .u8))) ?_
      refine .assign ?_
      refine .nil ?_
      refine .seq ?_
      refine .region ?_
      refine .move ?_
      refine .move ?_
      refine .lenL (f := (PV.int .u8)) ?_
      refine .val ?_
      refine .assign ?_
      refine .nil ?_
      refine .seq ?_
      refine .region ?_
      refine .move ?_
      refine .val ?_
      refine .nil ?_
      refine .cond (fun hc32 => ?_) (fun hc32 => ?_)
      · replace h := (if_pos hc32).symm.trans h
        refine .region ?_
        cases h
      · replace h := (if_neg (nt hc32)).symm.trans h
        refine .skip ?_
        refine .region ?_
        refine .val ?_
        refine .move ?_
        refine .nil ?_
        exact ⟨m26, _, Nat.lt_succ_self m26, ⟨_, _, rfl, h⟩, (imp_of (.cons rfl (.cons rfl (.cons rfl (.cons rfl (.cons rfl (.nil)))))) (.nil))⟩
    · replace h := (if_neg (nt hc28)).symm.trans h
      refine .exit (.hit ?_)
      exact ⟨_, ⟨_, rfl, h⟩, (imp_of (.cons rfl (.cons rfl (.nil))) (.nil))⟩
  · rintro T ⟨v14, rfl, h⟩
    subst hj15
    refine .seq ?_
    refine .region ?_
    refine .move ?_
    obtain ⟨y33, hy33, h⟩ := bindE h
    refine .cO0 (.row 9 1) (g101 hy33) (u := .sl 5 (.own (.row 9 1)) (y33.map (PV.int .u8))) ?_
    refine .assign ?_
    refine .nil ?_
    obtain ⟨j51, hj51, h⟩ := joinE h
    refine .cutI (fun T => (∃ (v49 : (List Int)), T = St.of [(6, .sl 5 (.own (.row 9050 0)) (v49.map (PV.int .u8)))] [] ∧ j51 v49 = some r)) ?_ ?_
    · refine .seq ?_
      refine .region ?_
      refine .move ?_
      refine .lenL (f := pv22) ?_
      refine .move ?_
      refine .nil ?_
      refine .block ?_
      refine .loopI (fun m T => ∃ (v55 : (List Int)) (v57 : Int), T = St.of [(6, .sl 5 (.own (.row 9056 0)) (v55.map (PV.int .u8))), (25, .sl 22 .ro (a0.map pv22)), (26, .int .i64 (a0.length : Int)), (27, .int .i64 v57)] [] ∧ f83_l2 n a0 j51 m v55 v57 = some r) _ _ ⟨_, _, rfl, h⟩ (Imp.trans (Imp.swap (.row 9 1) (.row 9056 0) rfl rfl rfl) (imp_of (.cons rfl (.cons rfl (.cons rfl (.cons rfl (.nil))))) (.nil))) ?_
      rintro m64 T ⟨v55, v57, rfl, h⟩
      obtain _ | m64 := m64
      · rw [f83_l2] at h; cases h
      rw [f83_l2] at h
      refine .seq ?_
      refine .region ?_
      refine .val ?_
      refine .nil ?_
      refine .seq ?_
      refine .cond (fun hc66 => ?_) (fun hc66 => ?_)
      · replace h := (if_pos hc66).symm.trans h
        refine .skip ?_
        refine .seq ?_
        refine .block ?_
        refine .seq ?_
        refine .region ?_
        obtain ⟨x69, hx69, h⟩ := bindE h
        refine .idxL (f := pv22) hx69 ?_
        refine .ldL hx69 (y := .sl 5 .ro (x69.map (PV.int .u8))) ?_
        refine .assign ?_
        refine .nil ?_
        refine .region ?_
        refine .move ?_
        refine .move ?_
        obtain ⟨x70, hx70, h⟩ := bindE h
        refine .appL (f := (PV.int .u8)) hx70 ?_
        refine .assign ?_
        refine .nil ?_
        refine .region ?_
        refine .val ?_
        refine .move ?_
        refine .nil ?_
        exact ⟨m64, _, Nat.lt_succ_self m64, ⟨_, _, rfl, h⟩, (Imp.trans (Imp.swap (.row 13 2) (.row 9056 0) rfl rfl rfl) (imp_of (.cons rfl (.cons rfl (.cons rfl (.cons rfl (.nil))))) (.nil)))⟩
      · replace h := (if_neg (nt hc66)).symm.trans h
        refine .exit (.hit ?_)
        exact ⟨_, ⟨_, rfl, h⟩, (Imp.trans (Imp.swap (.row 9056 0) (.row 9050 0) rfl rfl rfl) (imp_of (.cons rfl (.nil)) (.nil)))⟩
    · rintro T ⟨v49, rfl, h⟩
      subst hj51
      refine .seq ?_
      refine .region ?_
      refine .move ?_
      refine .assign ?_
      refine .nil ?_
      cases h
      exact .ret (fin_gen0 (some (.row 9050 0)))
theorem g83r {n : Nat} {a0 : (List (List Int))} {r : (List Int)} (h : f83 n a0 = some r) :
    Ab.Can Try.prog 83 [.sl 22 .ro (a0.map pv22)] H0 (.sl 5 .ro (r.map (PV.int .u8))) H0 := Can.frzR (hq := []) (g83 h)

/- soundservice/soundservicemill.New -/
def f80 (_n : Nat) (a0 : (List Int)) : Option Deck :=
  some (⟨a0, 0⟩ : Deck)
set_option maxHeartbeats 4000000 in
set_option maxRecDepth 100000 in
theorem g80 {n : Nat} {a0 : (List Int)} {r : Deck} (h : f80 n a0 = some r) :
    Ab.Can Try.prog 80 [.sl 3 .ro (a0.map (PV.int .i64))] H0 (.ptr (.ret 0) 0) (lookH [(.ret 0, [.sl 3 .ro (r.L.map (PV.int .i64)), .int .i64 r.At])]) := by
  refine can_of tabOK mix Try.call80 Try.func80 rfl (by kernel_rfl) (by show _ ≤ 6; simp) fun _ => ?_
  rw [f80] at h
  refine .seq ?_
  refine .region ?_
  refine .assign ?_
  refine .nil ?_
  refine .seq ?_
  refine .region ?_
  refine .move ?_
  refine .buildL (cs := [.sl 3 .ro (a0.map (PV.int .i64)), .int .i64 0]) ?_
  refine .boxL (cs := [.sl 3 .ro (a0.map (PV.int .i64)), .int .i64 0]) ?_
  refine .assign ?_
  refine .nil ?_
  cases h
  exact .ret (fin_gen (some (.loc 1 2)) (.ret .nil))

/- (*soundservice/soundservicemill.Deck).Left -/
def f100 (_n : Nat) (a0 : Deck) : Option (Bool × Deck) :=
  some (decide (a0.At < (a0.L.length : Int)), (⟨a0.L, a0.At⟩ : Deck))
set_option maxHeartbeats 4000000 in
set_option maxRecDepth 100000 in
theorem g100 {n : Nat} {a0 : Deck} {r : (Bool × Deck)} (h : f100 n a0 = some r) :
    Ab.Can Try.prog 100 [.ptr (.par 0) 0] (lookH [(.par 0, [.sl 3 .ro (a0.L.map (PV.int .i64)), .int .i64 a0.At])]) (.bool r.1) (lookH [(.par 0, [.sl 3 .ro (r.2.L.map (PV.int .i64)), .int .i64 r.2.At])]) := by
  refine can_of tabOK mix Try.call100 Try.func100 rfl (by kernel_rfl) (by show _ ≤ 13; simp) fun _ => ?_
  rw [f100] at h
  refine .seq ?_
  refine .region ?_
  refine .assign ?_
  refine .nil ?_
  refine .seq ?_
  refine .draw [] [[], [], [], [], [], [], [], [], [], [], []] [[], [], [], [], [], [], [], [], [], [], []] [[]]
    [(0, 0), (1, 0), (2, 0), (3, 0), (4, 0), (5, 0), (6, 0), (7, 0), (8, 0), (9, 0), (10, 0)] [] 0
    [⟨[(3, .ptr (.par 0) 0), (4, .ptr (.par 0) 0), (5, .ptr (.par 0) 1), (6, .int .i64 a0.At), (7, .ptr (.par 0) 0), (8, .ptr (.par 0) 0), (9, .ptr (.par 0) 0), (10, .sl 3 .ro (a0.L.map (PV.int .i64))), (11, .int .i64 (a0.L.length : Int)), (12, .bool (decide (a0.At < (a0.L.length : Int)))), (2, .bool (decide (a0.At < (a0.L.length : Int)))), (0, .ptr (.par 0) 0)], [], [((.par 0), [.sl 3 .ro (a0.L.map (PV.int .i64)), .int .i64 a0.At])]⟩]
    [(0, .ptr (.par 0) 0)]
    (.cons [0] [] (fun _ _ h => .move (h _)) rfl rfl <|
    .cons [3] [] (fun _ _ h => .val (h _)) rfl rfl <|
    .cons [4] [] (fun _ _ h => .val (h _)) rfl rfl <|
    .cons [5] [] (fun _ _ h => .val (h _)) rfl rfl <|
    .cons [0] [] (fun _ _ h => .move (h _)) rfl rfl <|
    .cons [7] [] (fun _ _ h => .val (h _)) rfl rfl <|
    .cons [8] [] (fun _ _ h => .val (h _)) rfl rfl <|
    .cons [9] [] (fun _ _ h => .val (h _)) rfl rfl <|
    .cons [10] [] (fun _ _ h => .lenL (f := (PV.int .i64)) (h _)) rfl rfl <|
    .cons [6, 11] [] (fun _ _ h => .val (h _)) rfl rfl <|
    .cons [12] [] (fun _ _ h => .assign (h _)) rfl rfl <|
    .nil)
    (.nil)
    (by kernel_rfl) rfl (.cons rfl (.nil)) (.nil) (.cons rfl (.nil)) ?_
  cases h
  exact .ret (fin_gen none (.par .nil))

/- soundservice/soundservicemill.Mod -/
def f45 (_n : Nat) (a0 : Int) (a1 : Int) : Option Int :=
  (iRem a0 a1).bind fun x1 =>
  joinK (fun (v3 : Int) =>
  some v3) fun j4 =>
  if decide (x1 < (0 : Int)) then (
  j4 (w64 (x1 + a1)))
  else (
  j4 x1)
set_option maxHeartbeats 4000000 in
set_option maxRecDepth 100000 in
theorem g45 {n : Nat} {a0 : Int} {a1 : Int} {r : Int} (h : f45 n a0 a1 = some r) :
    Ab.Can Try.prog 45 [.int .i64 a0, .int .i64 a1] H0 (.int .i64 r) H0 := by
  refine can_of tabOK mix Try.call45 Try.func45 rfl (by kernel_rfl) (by show _ ≤ 15; simp) fun _ => ?_
  rw [f45] at h
  refine .seq ?_
  refine .region ?_
  refine .assign ?_
  refine .nil ?_
  refine .seq ?_
  refine .region ?_
  refine .move ?_
  refine .move ?_
  obtain ⟨x1, hx1, h⟩ := bindE h
  refine .remL hx1 ?_
  refine .assign ?_
  refine .nil ?_
  obtain ⟨j4, hj4, h⟩ := joinE h
  refine .cutI (fun T => (∃ (v3 : Int), T = St.of [(5, .int .i64 v3)] [] ∧ j4 v3 = some r)) ?_ ?_
  · refine .seq ?_
    refine .region ?_
    refine .move ?_
    refine .val ?_
    refine .nil ?_
    refine .cond (fun hc5 => ?_) (fun hc5 => ?_)
    · replace h := (if_pos hc5).symm.trans h
      refine .region ?_
      refine .move ?_
      refine .move ?_
      refine .val ?_
      refine .assign ?_
      refine .nil ?_
      exact ⟨_, ⟨_, rfl, h⟩, (imp_of (.cons rfl (.nil)) (.nil))⟩
    · replace h := (if_neg (nt hc5)).symm.trans h
      refine .skip ?_
      exact ⟨_, ⟨_, rfl, h⟩, (imp_of (.cons rfl (.nil)) (.nil))⟩
  · rintro T ⟨v3, rfl, h⟩
    subst hj4
    refine .seq ?_
    refine .region ?_
    refine .move ?_
    refine .assign ?_
    refine .nil ?_
    cases h
    exact .ret (fin_gen0 none)

/- (*soundservice/soundservicemill.Deck).Next -/
def f81 (n : Nat) (a0 : Deck) (a1 : Int) : Option (Int × Deck) :=
  (f100 n (⟨a0.L, a0.At⟩ : Deck)).bind fun y3 =>
  if !y3.1 then (
  some (0, (⟨y3.2.L, y3.2.At⟩ : Deck)))
  else (
  (lAt y3.2.L (w64 ((w64 (y3.2.At + (1 : Int))) - (1 : Int)))).bind fun x5 =>
  (f45 n x5 a1).bind fun y6 =>
  some (y6, (⟨y3.2.L, w64 (y3.2.At + (1 : Int))⟩ : Deck)))
set_option maxHeartbeats 4000000 in
set_option maxRecDepth 100000 in
theorem g81 {n : Nat} {a0 : Deck} {a1 : Int} {r : (Int × Deck)} (h : f81 n a0 a1 = some r) :
    Ab.Can Try.prog 81 [.ptr (.par 0) 0, .int .i64 a1] (lookH [(.par 0, [.sl 3 .ro (a0.L.map (PV.int .i64)), .int .i64 a0.At])]) (.int .i64 r.1) (lookH [(.par 0, [.sl 3 .ro (r.2.L.map (PV.int .i64)), .int .i64 r.2.At])]) := by
  refine can_of tabOK mix Try.call81 Try.func81 rfl (by kernel_rfl) (by show _ ≤ 28; simp) fun _ => ?_
  rw [f81] at h
  refine .seq ?_
  refine .region ?_
  refine .assign ?_
  refine .nil ?_
  refine .seq ?_
  refine .seq ?_
  refine .region ?_
  refine .move ?_
  obtain ⟨y3, hy3, h⟩ := bindE h
  refine .cH (.par 0) (g100 hy3) ?_
  refine .val ?_
  refine .nil ?_
  refine .cond (fun hc4 => ?_) (fun hc4 => ?_)
  · replace h := (if_pos hc4).symm.trans h
    refine .seq ?_
    refine .region ?_
    refine .assign ?_
    refine .nil ?_
    cases h
    exact .ret (fin_gen none (.par .nil))
  · replace h := (if_neg (nt hc4)).symm.trans h
    refine .skip ?_
    refine .seq ?_
    refine .region ?_
    refine .move ?_
    refine .val ?_
    refine .val ?_
    refine .val ?_
    refine .val ?_
    refine .val ?_
    refine .val ?_
    refine .wrL (cs := [.sl 3 .ro (y3.2.L.map (PV.int .i64)), .int .i64 (w64 (y3.2.At + (1 : Int)))]) ?_
    refine .nil ?_
    refine .seq ?_
    obtain ⟨x5, hx5, h⟩ := bindE h
    obtain ⟨y6, hy6, h⟩ := bindE h
    refine .draw [] [[], [], [], [], [], [], [], [], [], [], [], [], [], []] [[], [], [], [], [], [], [], [], [], [], [], [], [], []] [[]]
      [(0, 0), (1, 0), (2, 0), (3, 0), (4, 0), (5, 0), (6, 0), (7, 0), (8, 0), (9, 0), (10, 0), (11, 0), (12, 0), (13, 0)] [] 0
      [⟨[(15, .ptr (.par 0) 0), (16, .ptr (.par 0) 0), (17, .ptr (.par 0) 0), (18, .sl 3 .ro (y3.2.L.map (PV.int .i64))), (19, .ptr (.par 0) 0), (20, .ptr (.par 0) 0), (21, .ptr (.par 0) 1), (22, .int .i64 (w64 (y3.2.At + (1 : Int)))), (23, .int .i64 (w64 ((w64 (y3.2.At + (1 : Int))) - (1 : Int)))), (24, .ep 3 .ro (y3.2.L.map (PV.int .i64)) (w64 ((w64 (y3.2.At + (1 : Int))) - (1 : Int)) : Int).toNat 0), (25, .int .i64 x5), (26, .int .i64 a1), (27, .int .i64 y6), (4, .int .i64 y6), (0, .ptr (.par 0) 0), (1, .int .i64 a1)], [], [((.par 0), [.sl 3 .ro (y3.2.L.map (PV.int .i64)), .int .i64 (w64 (y3.2.At + (1 : Int)))])]⟩]
      [(0, .ptr (.par 0) 0), (1, .int .i64 a1)]
      (.cons [0] [] (fun _ _ h => .move (h _)) rfl rfl <|
      .cons [15] [] (fun _ _ h => .val (h _)) rfl rfl <|
      .cons [16] [] (fun _ _ h => .val (h _)) rfl rfl <|
      .cons [17] [] (fun _ _ h => .val (h _)) rfl rfl <|
      .cons [0] [] (fun _ _ h => .move (h _)) rfl rfl <|
      .cons [19] [] (fun _ _ h => .val (h _)) rfl rfl <|
      .cons [20] [] (fun _ _ h => .val (h _)) rfl rfl <|
      .cons [21] [] (fun _ _ h => .val (h _)) rfl rfl <|
      .cons [22] [] (fun _ _ h => .val (h _)) rfl rfl <|
      .cons [18, 23] [] (fun _ _ h => .idxL (f := (PV.int .i64)) hx5 (h _)) rfl rfl <|
      .cons [24] [] (fun _ _ h => .ldL hx5 (h _)) rfl rfl <|
      .cons [1] [] (fun _ _ h => .move (h _)) rfl rfl <|
      .cons [25, 26] [] (fun _ _ h => .cP (g45 hy6) (h _)) rfl rfl <|
      .cons [27] [] (fun _ _ h => .assign (h _)) rfl rfl <|
      .nil)
      (.nil)
      (by kernel_rfl) rfl (.cons rfl (.cons rfl (.nil))) (.nil) (.cons rfl (.nil)) ?_
    cases h
    exact .ret (fin_gen none (.par .nil))
end Go.Proofs.Ytcahjpkmldmjdaa
