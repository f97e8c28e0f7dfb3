/-
  Plain functions of sample, slices, soundservicekeep, soundservicemade, soundserviceref04, soundserviceref17, and that the code does what they say.
-/
import Derived.Test.YtacdknbakjbpiaaTy
namespace Go.Proofs.Ytacdknbakjbpiaa
open Go Ab
/- soundservice/sample.is -/
def f104 (_n : Nat) (a0 : Int) : Option Bool :=
  if decide (a0 ≥ (-8388608 : Int)) then (
  some (decide (a0 ≤ (8388607 : Int))))
  else (
  some false)
set_option maxHeartbeats 4000000 in
set_option maxRecDepth 100000 in
theorem g104 {n : Nat} {a0 : Int} {r : Bool} (h : f104 n a0 = some r) :
    Ab.Can Try.prog 104 [.int .i32 a0] H0 (.bool r) H0 := by
  refine can_of tabOK mix Try.call104 Try.func104 rfl (by kernel_rfl) (by show _ ≤ 9; simp) fun _ => ?_
  rw [f104] at h
  refine .seq ?_
  refine .region ?_
  refine .assign ?_
  refine .nil ?_
  refine .seq ?_
  refine .region ?_
  refine .move ?_
  refine .val ?_
  refine .move ?_
  refine .caseG (fun hc2 => ?_) (fun hc2 => ?_)
  · replace h := (if_pos hc2).symm.trans h
    refine .move ?_
    refine .val ?_
    refine .brT ?_
    refine .assign ?_
    refine .nil ?_
    cases h
    exact .ret (fin_gen0 none)
  · replace h := (if_neg (nt hc2)).symm.trans h
    refine .skip ?_
    refine .skip ?_
    refine .brF ?_
    refine .assign ?_
    refine .nil ?_
    cases h
    exact .ret (fin_gen0 none)

/- soundservice/sample.Valid -/
def f70_l1 (n : Nat) (a0 : Block) (j38 : Unit → Option Bool) : Nat → Int → Option Bool
  | 0, _ => none
  | m49 + 1, v43 =>
    if decide (v43 < (a0.Data.length : Int)) then (
    (lAt a0.Data v43).bind fun x55 =>
    (f104 n x55).bind fun y56 =>
    if !y56 then (
    some false)
    else (
    f70_l1 n a0 j38 m49 (w64 (v43 + (1 : Int)))))
    else (
    j38 ())
def f70 (n : Nat) (a0 : Block) : Option Bool :=
  joinK (fun (_ : Unit) =>
  some false) fun j15 =>
  joinK (fun (v16 : Bool) =>
  if v16 then (
  some false)
  else (
  joinK (fun (_ : Unit) =>
  some true) fun j38 =>
  f70_l1 n a0 j38 n 0)) fun j17 =>
  if decide (a0.Channels < (1 : Int)) then (
  j15 ())
  else (
  if decide (a0.Channels > (8 : Int)) then (
  j15 ())
  else (
  (iRem (a0.Data.length : Int) a0.Channels).bind fun x20 =>
  if (x20 != (0 : Int)) then (
  j15 ())
  else (
  (iDiv .i64 (a0.Data.length : Int) a0.Channels).bind fun x22 =>
  j17 (decide (x22 > (65536 : Int))))))
set_option maxHeartbeats 4000000 in
set_option maxRecDepth 100000 in
theorem g70 {n : Nat} {a0 : Block} {r : Bool} (h : f70 n a0 = some r) :
    Ab.Can Try.prog 70 [.agg [.int .i64 a0.Channels, .sl 21 .ro (a0.Data.map (PV.int .i32))]] H0 (.bool r) H0 := by
  refine can_of tabOK mix Try.call70 Try.func70 rfl (by kernel_rfl) (by show _ ≤ 42; simp) fun _ => ?_
  rw [f70] at h
  refine .seq ?_
  refine .region ?_
  refine .boxL (cs := [.int .i64 a0.Channels, .sl 21 .ro (a0.Data.map (PV.int .i32))]) ?_
  refine .assign ?_
  refine .nil ?_
  refine .seq ?_
  obtain ⟨j15, hj15, h⟩ := joinE h
  obtain ⟨j17, hj17, h⟩ := joinE h
  refine .cutI (fun T => (T = St.of [(1, .ptr (.loc 0 0) 0), (30, .bool true)] [((.loc 0 0), [.int .i64 a0.Channels, .sl 21 .ro (a0.Data.map (PV.int .i32))])] ∧ j15 () = some r) ∨ (∃ (v16 : Bool), T = St.of [(1, .ptr (.loc 0 0) 0), (30, .bool v16)] [((.loc 0 0), [.int .i64 a0.Channels, .sl 21 .ro (a0.Data.map (PV.int .i32))])] ∧ j17 v16 = some r)) ?_ ?_
  · refine .region ?_
    refine .val ?_
    refine .val ?_
    refine .val ?_
    refine .move ?_
    refine .caseG (fun hc18 => ?_) (fun hc18 => ?_)
    · replace h := (if_pos hc18).symm.trans h
      refine .skip ?_
      refine .skip ?_
      refine .skip ?_
      refine .brT ?_
      refine .move ?_
      refine .skip ?_
      refine .skip ?_
      refine .skip ?_
      refine .skip ?_
      refine .skip ?_
      refine .skip ?_
      refine .skip ?_
      refine .brT ?_
      refine .move ?_
      refine .skip ?_
      refine .skip ?_
      refine .skip ?_
      refine .skip ?_
      refine .skip ?_
      refine .skip ?_
      refine .skip ?_
      refine .brT ?_
      refine .nil ?_
      exact ⟨_, (.inl ⟨rfl, h⟩), (imp_of (.cons rfl (.cons rfl (.nil))) (.cons rfl (.nil)))⟩
    · replace h := (if_neg (nt hc18)).symm.trans h
      refine .val ?_
      refine .val ?_
      refine .val ?_
      refine .brF ?_
      refine .move ?_
      refine .caseG (fun hc19 => ?_) (fun hc19 => ?_)
      · replace h := (if_pos hc19).symm.trans h
        refine .skip ?_
        refine .skip ?_
        refine .skip ?_
        refine .skip ?_
        refine .skip ?_
        refine .skip ?_
        refine .skip ?_
        refine .brT ?_
        refine .move ?_
        refine .skip ?_
        refine .skip ?_
        refine .skip ?_
        refine .skip ?_
        refine .skip ?_
        refine .skip ?_
        refine .skip ?_
        refine .brT ?_
        refine .nil ?_
        exact ⟨_, (.inl ⟨rfl, h⟩), (imp_of (.cons rfl (.cons rfl (.nil))) (.cons rfl (.nil)))⟩
      · replace h := (if_neg (nt hc19)).symm.trans h
        refine .val ?_
        refine .val ?_
        refine .lenL (f := (PV.int .i32)) ?_
        refine .val ?_
        refine .val ?_
        obtain ⟨x20, hx20, h⟩ := bindE h
        refine .remL hx20 ?_
        refine .val ?_
        refine .brF ?_
        refine .move ?_
        refine .caseG (fun hc21 => ?_) (fun hc21 => ?_)
        · replace h := (if_pos hc21).symm.trans h
          refine .skip ?_
          refine .skip ?_
          refine .skip ?_
          refine .skip ?_
          refine .skip ?_
          refine .skip ?_
          refine .skip ?_
          refine .brT ?_
          refine .nil ?_
          exact ⟨_, (.inl ⟨rfl, h⟩), (imp_of (.cons rfl (.cons rfl (.nil))) (.cons rfl (.nil)))⟩
        · replace h := (if_neg (nt hc21)).symm.trans h
          refine .val ?_
          refine .val ?_
          refine .lenL (f := (PV.int .i32)) ?_
          refine .val ?_
          refine .val ?_
          obtain ⟨x22, hx22, h⟩ := bindE h
          refine .divL hx22 ?_
          refine .val ?_
          refine .brF ?_
          refine .nil ?_
          exact ⟨_, (.inr (⟨_, rfl, h⟩)), (imp_of (.cons rfl (.cons rfl (.nil))) (.cons rfl (.nil)))⟩
  · rintro T (⟨rfl, h⟩ | ⟨v16, rfl, h⟩)
    · subst hj15
      refine .condT ?_
      refine .seq ?_
      refine .region ?_
      refine .assign ?_
      refine .nil ?_
      cases h
      exact .ret (fin_gen0 none)
    · subst hj17
      refine .cond (fun hc23 => ?_) (fun hc23 => ?_)
      · replace h := (if_pos hc23).symm.trans h
        refine .seq ?_
        refine .region ?_
        refine .assign ?_
        refine .nil ?_
        cases h
        exact .ret (fin_gen0 none)
      · replace h := (if_neg (nt hc23)).symm.trans h
        refine .skip ?_
        obtain ⟨j38, hj38, h⟩ := joinE h
        refine .cutI (fun T => (T = St.of [] [] ∧ j38 () = some r)) ?_ ?_
        · refine .seq ?_
          refine .region ?_
          refine .val ?_
          refine .val ?_
          refine .lenL (f := (PV.int .i32)) ?_
          refine .move ?_
          refine .nil ?_
          refine .block ?_
          refine .loopI (fun m T => ∃ (v43 : Int), T = St.of [(32, .sl 21 .ro (a0.Data.map (PV.int .i32))), (33, .int .i64 (a0.Data.length : Int)), (34, .int .i64 v43)] [] ∧ f70_l1 n a0 j38 m v43 = some r) _ _ ⟨_, rfl, h⟩ (imp_of (.cons rfl (.cons rfl (.cons rfl (.nil)))) (.nil)) ?_
          rintro m49 T ⟨v43, rfl, h⟩
          obtain _ | m49 := m49
          · rw [f70_l1] at h; cases h
          rw [f70_l1] at h
          refine .seq ?_
          refine .region ?_
          refine .val ?_
          refine .nil ?_
          refine .seq ?_
          refine .cond (fun hc51 => ?_) (fun hc51 => ?_)
          · replace h := (if_pos hc51).symm.trans h
            refine .skip ?_
            refine .seq ?_
            refine .block ?_
            refine .seq ?_
            refine .region ?_
            obtain ⟨x55, hx55, h⟩ := bindE h
            refine .idxL (f := (PV.int .i32)) hx55 ?_
            refine .ldL hx55 (y := .int .i32 x55) ?_
            refine .assign ?_
            refine .nil ?_
            refine .seq ?_
            refine .region ?_
            refine .move ?_
            obtain ⟨y56, hy56, h⟩ := bindE h
            refine .cP (g104 hy56) ?_
            refine .val ?_
            refine .nil ?_
            refine .cond (fun hc57 => ?_) (fun hc57 => ?_)
            · replace h := (if_pos hc57).symm.trans h
              refine .seq ?_
              refine .region ?_
              refine .assign ?_
              refine .nil ?_
              cases h
              exact .ret (fin_gen0 none)
            · replace h := (if_neg (nt hc57)).symm.trans h
              refine .skip ?_
              refine .region ?_
              refine .val ?_
              refine .move ?_
              refine .nil ?_
              exact ⟨m49, _, Nat.lt_succ_self m49, ⟨_, rfl, h⟩, (imp_of (.cons rfl (.cons rfl (.cons rfl (.nil)))) (.nil))⟩
          · replace h := (if_neg (nt hc51)).symm.trans h
            refine .exit (.hit ?_)
            exact ⟨_, ⟨rfl, h⟩, (imp_of (.nil) (.nil))⟩
        · rintro T ⟨rfl, h⟩
          subst hj38
          refine .seq ?_
          refine .region ?_
          refine .assign ?_
          refine .nil ?_
          cases h
          exact .ret (fin_gen0 none)

/- slices.Grow[[]int32,int32] -/
def f105 (_n : Nat) (a1 : Int) : Option (List Int) :=
  if decide (a1 < (0 : Int)) then (
  none)
  else (
  joinK (fun (v6 : (List Int)) =>
  some v6) fun j8 =>
  if decide ((w64 (a1 - (w64 ((0 : Int) - (0 : Int))))) > (0 : Int)) then (
  (lZero (w64 (a1 - (w64 ((0 : Int) - (0 : Int))))) (0 : Int)).bind fun x10 =>
  (lPart x10 0 (0 : Int)).bind fun x11 =>
  j8 x11)
  else (
  j8 ([] : List Int)))
set_option maxHeartbeats 4000000 in
set_option maxRecDepth 100000 in
theorem g105 {n : Nat} {a1 : Int} {r : (List Int)} (h : f105 n a1 = some r) :
    Ab.Can Try.prog 105 [.sl 21 .full [], .int .i64 a1] H0 (.sl 21 (.own (.rrow 0)) (r.map (PV.int .i32))) H0 := by
  refine can_of tabOK mix Try.call105 Try.func105 rfl (by kernel_rfl) (by show _ ≤ 27; simp) fun _ => ?_
  rw [f105] at h
  refine .seq ?_
  refine .region ?_
  refine .assign ?_
  refine .nil ?_
  refine .seq ?_
  refine .seq ?_
  refine .region ?_
  refine .move ?_
  refine .val ?_
  refine .nil ?_
  refine .cond (fun hc2 => ?_) (fun hc2 => ?_)
  · replace h := (if_pos hc2).symm.trans h
    refine .region ?_
    cases h
  · replace h := (if_neg (nt hc2)).symm.trans h
    refine .skip ?_
    obtain ⟨j8, hj8, h⟩ := joinE h
    refine .cutI (fun T => (∃ (v6 : (List Int)), T = St.of [(0, .sl 21 (.own (.row 9007 0)) (v6.map (PV.int .i32)))] [] ∧ j8 v6 = some r)) ?_ ?_
    · refine .seq ?_
      refine .region ?_
      refine .move ?_
      refine .move ?_
      refine .capN ?_
      refine .move ?_
      refine .val ?_
      refine .val ?_
      refine .val ?_
      refine .assign ?_
      refine .nil ?_
      refine .seq ?_
      refine .region ?_
      refine .move ?_
      refine .val ?_
      refine .nil ?_
      refine .cond (fun hc9 => ?_) (fun hc9 => ?_)
      · replace h := (if_pos hc9).symm.trans h
        refine .region ?_
        refine .move ?_
        refine .move ?_
        refine .capN ?_
        refine .sliceN ?_
        refine .move ?_
        obtain ⟨x10, hx10, h⟩ := bindE h
        refine .appZ (f := (PV.int .i32)) hx10 ?_
        refine .move ?_
        refine .val ?_
        obtain ⟨x11, hx11, h⟩ := bindE h
        refine .preO (f := (PV.int .i32)) hx11 ?_
        refine .assign ?_
        refine .nil ?_
        exact ⟨_, ⟨_, rfl, h⟩, (Imp.trans (Imp.swap (.row 5 5) (.row 9007 0) rfl rfl rfl) (imp_of (.cons rfl (.nil)) (.nil)))⟩
      · replace h := (if_neg (nt hc9)).symm.trans h
        refine .skip ?_
        exact ⟨_, ⟨_, rfl, h⟩, (imp_of (.wk (.own _ _) rfl (.nil)) (.nil))⟩
    · rintro T ⟨v6, rfl, h⟩
      subst hj8
      refine .seq ?_
      refine .region ?_
      refine .move ?_
      refine .assign ?_
      refine .nil ?_
      cases h
      exact .ret (fin_gen0 (some (.row 9007 0)))
theorem g105r {n : Nat} {a1 : Int} {r : (List Int)} (h : f105 n a1 = some r) :
    Ab.Can Try.prog 105 [.sl 21 .full [], .int .i64 a1] H0 (.sl 21 .ro (r.map (PV.int .i32))) H0 := Can.frzR (hq := []) (g105 h)

/- slices.Concat[[]int32,int32] -/
def f71_l1 (n : Nat) (a0 : (List (List Int))) (j15 : Int → Option (List Int)) : Nat → Int → Int → Option (List Int)
  | 0, _, _ => none
  | m26 + 1, v19, v20 =>
    if decide (v20 < (a0.length : Int)) then (
    (lAt a0 v20).bind fun x31 =>
    if decide ((w64 (v19 + (x31.length : Int))) < (0 : Int)) then (
    none)
    else (
    f71_l1 n a0 j15 m26 (w64 (v19 + (x31.length : Int))) (w64 (v20 + (1 : Int)))))
    else (
    j15 v19)
def f71_l2 (n : Nat) (a0 : (List (List Int))) (j51 : (List Int) → Option (List Int)) : Nat → (List Int) → Int → Option (List Int)
  | 0, _, _ => none
  | m64 + 1, v55, v57 =>
    if decide (v57 < (a0.length : Int)) then (
    (lAt a0 v57).bind fun x69 =>
    (lApp v55 x69).bind fun x70 =>
    f71_l2 n a0 j51 m64 x70 (w64 (v57 + (1 : Int))))
    else (
    j51 v55)
def f71 (n : Nat) (a0 : (List (List Int))) : Option (List Int) :=
  joinK (fun (v14 : Int) =>
  (f105 n v14).bind fun y33 =>
  joinK (fun (v49 : (List Int)) =>
  some v49) fun j51 =>
  f71_l2 n a0 j51 n y33 0) fun j15 =>
  f71_l1 n a0 j15 n 0 0
set_option maxHeartbeats 4000000 in
set_option maxRecDepth 100000 in
theorem g71 {n : Nat} {a0 : (List (List Int))} {r : (List Int)} (h : f71 n a0 = some r) :
    Ab.Can Try.prog 71 [.sl 24 .ro (a0.map pv24)] H0 (.sl 21 (.own (.rrow 0)) (r.map (PV.int .i32))) H0 := by
  refine can_of tabOK mix Try.call71 Try.func71 rfl (by kernel_rfl) (by show _ ≤ 36; simp) fun _ => ?_
  rw [f71] at h
  refine .seq ?_
  refine .region ?_
  refine .assign ?_
  refine .nil ?_
  refine .seq ?_
  refine .region ?_
  refine .assign ?_
  refine .nil ?_
  obtain ⟨j15, hj15, h⟩ := joinE h
  refine .cutI (fun T => (∃ (v14 : Int), T = St.of [(0, .sl 24 .ro (a0.map pv24)), (3, .int .i64 v14)] [] ∧ j15 v14 = some r)) ?_ ?_
  · refine .seq ?_
    refine .region ?_
    refine .move ?_
    refine .lenL (f := pv24) ?_
    refine .move ?_
    refine .nil ?_
    refine .block ?_
    refine .loopI (fun m T => ∃ (v19 : Int) (v20 : Int), T = St.of [(0, .sl 24 .ro (a0.map pv24)), (3, .int .i64 v19), (9, .sl 24 .ro (a0.map pv24)), (10, .int .i64 (a0.length : Int)), (11, .int .i64 v20)] [] ∧ f71_l1 n a0 j15 m v19 v20 = some r) _ _ ⟨_, _, rfl, h⟩ (imp_of (.cons rfl (.cons rfl (.cons rfl (.cons rfl (.cons rfl (.nil)))))) (.nil)) ?_
    rintro m26 T ⟨v19, v20, rfl, h⟩
    obtain _ | m26 := m26
    · rw [f71_l1] at h; cases h
    rw [f71_l1] at h
    refine .seq ?_
    refine .region ?_
    refine .val ?_
    refine .nil ?_
    refine .seq ?_
    refine .cond (fun hc28 => ?_) (fun hc28 => ?_)
    · replace h := (if_pos hc28).symm.trans h
      refine .skip ?_
      refine .seq ?_
      refine .block ?_
      refine .seq ?_
      refine .region ?_
      obtain ⟨x31, hx31, h⟩ := bindE h
      refine .idxL (f := pv24) hx31 ?_
      refine .ldL hx31 (y := .sl 21 .ro (x31.map (PV.int .i32))) ?_
      refine .assign ?_
      refine .nil ?_
      refine .seq ?_
      refine .region ?_
      refine .move ?_
      refine .move ?_
      refine .lenL (f := (PV.int .i32)) ?_
      refine .val ?_
      refine .assign ?_
      refine .nil ?_
      refine .seq ?_
      refine .region ?_
      refine .move ?_
      refine .val ?_
      refine .nil ?_
      refine .cond (fun hc32 => ?_) (fun hc32 => ?_)
      · replace h := (if_pos hc32).symm.trans h
        refine .region ?_
        cases h
      · replace h := (if_neg (nt hc32)).symm.trans h
        refine .skip ?_
        refine .region ?_
        refine .val ?_
        refine .move ?_
        refine .nil ?_
        exact ⟨m26, _, Nat.lt_succ_self m26, ⟨_, _, rfl, h⟩, (imp_of (.cons rfl (.cons rfl (.cons rfl (.cons rfl (.cons rfl (.nil)))))) (.nil))⟩
    · replace h := (if_neg (nt hc28)).symm.trans h
      refine .exit (.hit ?_)
      exact ⟨_, ⟨_, rfl, h⟩, (imp_of (.cons rfl (.cons rfl (.nil))) (.nil))⟩
  · rintro T ⟨v14, rfl, h⟩
    subst hj15
    refine .seq ?_
    refine .region ?_
    refine .move ?_
    obtain ⟨y33, hy33, h⟩ := bindE h
    refine .cO0 (.row 9 1) (g105 hy33) (u := .sl 21 (.own (.row 9 1)) (y33.map (PV.int .i32))) ?_
    refine .assign ?_
    refine .nil ?_
    obtain ⟨j51, hj51, h⟩ := joinE h
    refine .cutI (fun T => (∃ (v49 : (List Int)), T = St.of [(6, .sl 21 (.own (.row 9050 0)) (v49.map (PV.int .i32)))] [] ∧ j51 v49 = some r)) ?_ ?_
    · refine .seq ?_
      refine .region ?_
      refine .move ?_
      refine .lenL (f := pv24) ?_
      refine .move ?_
      refine .nil ?_
      refine .block ?_
      refine .loopI (fun m T => ∃ (v55 : (List Int)) (v57 : Int), T = St.of [(6, .sl 21 (.own (.row 9056 0)) (v55.map (PV.int .i32))), (25, .sl 24 .ro (a0.map pv24)), (26, .int .i64 (a0.length : Int)), (27, .int .i64 v57)] [] ∧ f71_l2 n a0 j51 m v55 v57 = some r) _ _ ⟨_, _, rfl, h⟩ (Imp.trans (Imp.swap (.row 9 1) (.row 9056 0) rfl rfl rfl) (imp_of (.cons rfl (.cons rfl (.cons rfl (.cons rfl (.nil))))) (.nil))) ?_
      rintro m64 T ⟨v55, v57, rfl, h⟩
      obtain _ | m64 := m64
      · rw [f71_l2] at h; cases h
      rw [f71_l2] at h
      refine .seq ?_
      refine .region ?_
      refine .val ?_
      refine .nil ?_
      refine .seq ?_
      refine .cond (fun hc66 => ?_) (fun hc66 => ?_)
      · replace h := (if_pos hc66).symm.trans h
        refine .skip ?_
        refine .seq ?_
        refine .block ?_
        refine .seq ?_
        refine .region ?_
        obtain ⟨x69, hx69, h⟩ := bindE h
        refine .idxL (f := pv24) hx69 ?_
        refine .ldL hx69 (y := .sl 21 .ro (x69.map (PV.int .i32))) ?_
        refine .assign ?_
        refine .nil ?_
        refine .region ?_
        refine .move ?_
        refine .move ?_
        obtain ⟨x70, hx70, h⟩ := bindE h
        refine .appL (f := (PV.int .i32)) hx70 ?_
        refine .assign ?_
        refine .nil ?_
        refine .region ?_
        refine .val ?_
        refine .move ?_
        refine .nil ?_
        exact ⟨m64, _, Nat.lt_succ_self m64, ⟨_, _, rfl, h⟩, (Imp.trans (Imp.swap (.row 13 2) (.row 9056 0) rfl rfl rfl) (imp_of (.cons rfl (.cons rfl (.cons rfl (.cons rfl (.nil))))) (.nil)))⟩
      · replace h := (if_neg (nt hc66)).symm.trans h
        refine .exit (.hit ?_)
        exact ⟨_, ⟨_, rfl, h⟩, (Imp.trans (Imp.swap (.row 9056 0) (.row 9050 0) rfl rfl rfl) (imp_of (.cons rfl (.nil)) (.nil)))⟩
    · rintro T ⟨v49, rfl, h⟩
      subst hj51
      refine .seq ?_
      refine .region ?_
      refine .move ?_
      refine .assign ?_
      refine .nil ?_
      cases h
      exact .ret (fin_gen0 (some (.row 9050 0)))
theorem g71r {n : Nat} {a0 : (List (List Int))} {r : (List Int)} (h : f71 n a0 = some r) :
    Ab.Can Try.prog 71 [.sl 24 .ro (a0.map pv24)] H0 (.sl 21 .ro (r.map (PV.int .i32))) H0 := Can.frzR (hq := []) (g71 h)

/- slices.Clone[[]int32,int32] -/
def f72 (_n : Nat) (a0 : (List Int)) : Option (List Int) :=
  (lApp ([] : List Int) a0).bind fun x6 =>
  some x6
set_option maxHeartbeats 4000000 in
set_option maxRecDepth 100000 in
theorem g72 {n : Nat} {a0 : (List Int)} {r : (List Int)} (h : f72 n a0 = some r) :
    Ab.Can Try.prog 72 [.sl 21 .ro (a0.map (PV.int .i32))] H0 (.sl 21 (.own (.rrow 0)) (r.map (PV.int .i32))) H0 := by
  refine can_of tabOK mix Try.call72 Try.func72 rfl (by kernel_rfl) (by show _ ≤ 8; simp) fun _ => ?_
  rw [f72] at h
  refine .seq ?_
  refine .region ?_
  refine .assign ?_
  refine .nil ?_
  refine .seq ?_
  refine .seq ?_
  refine .region ?_
  refine .move ?_
  refine .nd rfl rfl fun b3 hb4 => ?_
  rcases bool_em b3 with hc | hc
  · have h0 := hb4 hc
    rw [List.map_eq_nil_iff] at h0
    subst h0
    subst hc
    replace h : some ([] : List Int) = some r := Eq.trans (by simp [lApp]) h
    refine .nil ?_
    refine .condT ?_
    refine .seq ?_
    refine .region ?_
    refine .assign ?_
    refine .nil ?_
    cases h
    refine .imp (Imp.slot 2 (v := .sl 21 (.own (.row 0 0)) (([] : List Int).map (PV.int .i32))) (.own _ (.row 0 0)) rfl) ?_
    exact .ret (fin_gen0 (some (.row 0 0)))
  · subst hc
    refine .nil ?_
    refine .condF ?_
    refine .skip ?_
    refine .seq ?_
    refine .region ?_
    refine .litE (.row 8005 0) ?_
    refine .move ?_
    obtain ⟨x6, hx6, h⟩ := bindE h
    refine .appL (f := (PV.int .i32)) hx6 ?_
    refine .assign ?_
    refine .nil ?_
    cases h
    exact .ret (fin_gen0 (some (.row 3 2)))
theorem g72r {n : Nat} {a0 : (List Int)} {r : (List Int)} (h : f72 n a0 = some r) :
    Ab.Can Try.prog 72 [.sl 21 .ro (a0.map (PV.int .i32))] H0 (.sl 21 .ro (r.map (PV.int .i32))) H0 := Can.frzR (hq := []) (g72 h)

/- soundservice/soundservicemade.New -/
def f20 (_n : Nat) (a0 : (List Int)) : Option Dice :=
  (lPart a0 (0 : Int) (iMin (a0.length : Int) (300 : Int))).bind fun x1 =>
  some (⟨x1⟩ : Dice)
set_option maxHeartbeats 4000000 in
set_option maxRecDepth 100000 in
theorem g20 {n : Nat} {a0 : (List Int)} {r : Dice} (h : f20 n a0 = some r) :
    Ab.Can Try.prog 20 [.sl 5 .ro (a0.map (PV.int .u8))] H0 (.ptr (.ret 0) 0) (lookH [(.ret 0, [.sl 5 .ro (r.l.map (PV.int .u8))])]) := by
  refine can_of tabOK mix Try.call20 Try.func20 rfl (by kernel_rfl) (by show _ ≤ 10; simp) fun _ => ?_
  rw [f20] at h
  refine .seq ?_
  refine .region ?_
  refine .assign ?_
  refine .nil ?_
  refine .seq ?_
  refine .region ?_
  refine .move ?_
  refine .move ?_
  refine .lenL (f := (PV.int .u8)) ?_
  refine .minL ?_
  obtain ⟨x1, hx1, h⟩ := bindE h
  refine .partL (f := (PV.int .u8)) hx1 ?_
  refine .buildL (cs := [.sl 5 .ro (x1.map (PV.int .u8))]) ?_
  refine .boxL (cs := [.sl 5 .ro (x1.map (PV.int .u8))]) ?_
  refine .assign ?_
  refine .nil ?_
  cases h
  exact .ret (fin_gen (some (.loc 1 6)) (.ret .nil))

/- (*soundservice/soundservicemade.Dice).Next -/
def f26 (_n : Nat) (a0 : Dice) (a1 : Int) : Option (Int × Dice) :=
  joinK (fun (_ : Unit) =>
  some (0, (⟨a0.l⟩ : Dice))) fun j6 =>
  joinK (fun (_ : Unit) =>
  if decide (a1 ≤ (1 : Int)) then (
  some (0, (⟨a0.l⟩ : Dice)))
  else (
  (lAt a0.l (0 : Int)).bind fun x10 =>
  (lPart a0.l (1 : Int) (a0.l.length : Int)).bind fun x11 =>
  (iRem (w64 (x10)) a1).bind fun x12 =>
  some (x12, (⟨x11⟩ : Dice)))) fun j7 =>
  if ((a0.l.length : Int) == (0 : Int)) then (
  j6 ())
  else (
  j7 ())
set_option maxHeartbeats 4000000 in
set_option maxRecDepth 100000 in
theorem g26 {n : Nat} {a0 : Dice} {a1 : Int} {r : (Int × Dice)} (h : f26 n a0 a1 = some r) :
    Ab.Can Try.prog 26 [.ptr (.par 0) 0, .int .i64 a1] (lookH [(.par 0, [.sl 5 .ro (a0.l.map (PV.int .u8))])]) (.int .i64 r.1) (lookH [(.par 0, [.sl 5 .ro (r.2.l.map (PV.int .u8))])]) := by
  refine can_of tabOK mix Try.call26 Try.func26 rfl (by kernel_rfl) (by show _ ≤ 34; simp) fun _ => ?_
  rw [f26] at h
  refine .seq ?_
  refine .region ?_
  refine .assign ?_
  refine .nil ?_
  refine .seq ?_
  obtain ⟨j6, hj6, h⟩ := joinE h
  obtain ⟨j7, hj7, h⟩ := joinE h
  refine .cutI (fun T => (T = St.of [(0, .ptr (.par 0) 0), (1, .int .i64 a1), (15, .bool true)] [((.par 0), [.sl 5 .ro (a0.l.map (PV.int .u8))])] ∧ j6 () = some r) ∨ (T = St.of [(0, .ptr (.par 0) 0), (1, .int .i64 a1), (15, .bool (decide (a1 ≤ (1 : Int))))] [((.par 0), [.sl 5 .ro (a0.l.map (PV.int .u8))])] ∧ j7 () = some r)) ?_ ?_
  · refine .region ?_
    refine .move ?_
    refine .val ?_
    refine .val ?_
    refine .val ?_
    refine .lenL (f := (PV.int .u8)) ?_
    refine .val ?_
    refine .move ?_
    refine .caseG (fun hc8 => ?_) (fun hc8 => ?_)
    · replace h := (if_pos hc8).symm.trans h
      refine .skip ?_
      refine .skip ?_
      refine .brT ?_
      refine .nil ?_
      exact ⟨_, (.inl ⟨rfl, h⟩), (imp_of (.cons rfl (.cons rfl (.cons rfl (.nil)))) (.cons rfl (.nil)))⟩
    · replace h := (if_neg (nt hc8)).symm.trans h
      refine .move ?_
      refine .val ?_
      refine .brF ?_
      refine .nil ?_
      exact ⟨_, (.inr (⟨rfl, h⟩)), (imp_of (.cons rfl (.cons rfl (.cons rfl (.nil)))) (.cons rfl (.nil)))⟩
  · rintro T (⟨rfl, h⟩ | ⟨rfl, h⟩)
    · subst hj6
      refine .condT ?_
      refine .seq ?_
      refine .region ?_
      refine .assign ?_
      refine .nil ?_
      cases h
      exact .ret (fin_gen none (.par .nil))
    · subst hj7
      refine .cond (fun hc9 => ?_) (fun hc9 => ?_)
      · replace h := (if_pos hc9).symm.trans h
        refine .seq ?_
        refine .region ?_
        refine .assign ?_
        refine .nil ?_
        cases h
        exact .ret (fin_gen none (.par .nil))
      · replace h := (if_neg (nt hc9)).symm.trans h
        refine .skip ?_
        refine .seq ?_
        refine .region ?_
        refine .move ?_
        refine .val ?_
        refine .val ?_
        refine .val ?_
        obtain ⟨x10, hx10, h⟩ := bindE h
        refine .idxL (f := (PV.int .u8)) hx10 ?_
        refine .ldL hx10 (y := .int .u8 x10) ?_
        refine .val ?_
        refine .assign ?_
        refine .nil ?_
        refine .seq ?_
        refine .region ?_
        refine .move ?_
        refine .move ?_
        refine .val ?_
        refine .val ?_
        refine .val ?_
        obtain ⟨x11, hx11, h⟩ := bindE h
        refine .partE (f := (PV.int .u8)) hx11 ?_
        refine .val ?_
        refine .val ?_
        refine .wrL (cs := [.sl 5 .ro (x11.map (PV.int .u8))]) ?_
        refine .nil ?_
        refine .seq ?_
        refine .region ?_
        refine .move ?_
        refine .move ?_
        obtain ⟨x12, hx12, h⟩ := bindE h
        refine .remL hx12 ?_
        refine .assign ?_
        refine .nil ?_
        cases h
        exact .ret (fin_gen none (.par .nil))

/- soundservice/soundserviceref17.block -/
def f75 (_n : Nat) (a0 : Ring) : Option Block :=
  some (⟨a0.Channels, a0.Data⟩ : Block)
set_option maxHeartbeats 4000000 in
set_option maxRecDepth 100000 in
theorem g75 {n : Nat} {a0 : Ring} {r : Block} (h : f75 n a0 = some r) :
    Ab.Can Try.prog 75 [.agg [.int .i64 a0.Channels, .int .i64 a0.Capacity, .int .i64 a0.Written, .int .i64 a0.Read, .sl 21 .ro (a0.Data.map (PV.int .i32))]] H0 (.agg [.int .i64 r.Channels, .sl 21 .ro (r.Data.map (PV.int .i32))]) H0 := by
  refine can_of tabOK mix Try.call75 Try.func75 rfl (by kernel_rfl) (by show _ ≤ 8; simp) fun _ => ?_
  rw [f75] at h
  refine .seq ?_
  refine .region ?_
  refine .boxL (cs := [.int .i64 a0.Channels, .int .i64 a0.Capacity, .int .i64 a0.Written, .int .i64 a0.Read, .sl 21 .ro (a0.Data.map (PV.int .i32))]) ?_
  refine .allocL (cs := [.int .i64 0, .sl 21 .full []]) ?_
  refine .nil ?_
  refine .seq ?_
  refine .region ?_
  refine .val ?_
  refine .val ?_
  refine .val ?_
  refine .val ?_
  refine .buildL (cs := [.int .i64 a0.Channels, .sl 21 .ro (a0.Data.map (PV.int .i32))]) ?_
  refine .wrL (cs := [.int .i64 a0.Channels, .sl 21 .ro (a0.Data.map (PV.int .i32))]) ?_
  refine .nil ?_
  cases h
  exact .ret (fin_gen0 none)

/- soundservice/soundserviceref04.sample -/
def f106 (_n : Nat) (a0 : Int) : Option Bool :=
  if decide (a0 ≥ (-8388608 : Int)) then (
  some (decide (a0 ≤ (8388607 : Int))))
  else (
  some false)
set_option maxHeartbeats 4000000 in
set_option maxRecDepth 100000 in
theorem g106 {n : Nat} {a0 : Int} {r : Bool} (h : f106 n a0 = some r) :
    Ab.Can Try.prog 106 [.int .i32 a0] H0 (.bool r) H0 := by
  refine can_of tabOK mix Try.call106 Try.func106 rfl (by kernel_rfl) (by show _ ≤ 9; simp) fun _ => ?_
  rw [f106] at h
  refine .seq ?_
  refine .region ?_
  refine .assign ?_
  refine .nil ?_
  refine .seq ?_
  refine .region ?_
  refine .move ?_
  refine .val ?_
  refine .move ?_
  refine .caseG (fun hc2 => ?_) (fun hc2 => ?_)
  · replace h := (if_pos hc2).symm.trans h
    refine .move ?_
    refine .val ?_
    refine .brT ?_
    refine .assign ?_
    refine .nil ?_
    cases h
    exact .ret (fin_gen0 none)
  · replace h := (if_neg (nt hc2)).symm.trans h
    refine .skip ?_
    refine .skip ?_
    refine .brF ?_
    refine .assign ?_
    refine .nil ?_
    cases h
    exact .ret (fin_gen0 none)

/- soundservice/soundserviceref04.Valid -/
def f74_l1 (n : Nat) (a0 : Block) (j38 : Unit → Option Bool) : Nat → Int → Option Bool
  | 0, _ => none
  | m49 + 1, v43 =>
    if decide (v43 < (a0.Data.length : Int)) then (
    (lAt a0.Data v43).bind fun x55 =>
    (f106 n x55).bind fun y56 =>
    if !y56 then (
    some false)
    else (
    f74_l1 n a0 j38 m49 (w64 (v43 + (1 : Int)))))
    else (
    j38 ())
def f74 (n : Nat) (a0 : Block) : Option Bool :=
  joinK (fun (_ : Unit) =>
  some false) fun j15 =>
  joinK (fun (v16 : Bool) =>
  if v16 then (
  some false)
  else (
  joinK (fun (_ : Unit) =>
  some true) fun j38 =>
  f74_l1 n a0 j38 n 0)) fun j17 =>
  if decide (a0.Channels < (1 : Int)) then (
  j15 ())
  else (
  if decide (a0.Channels > (8 : Int)) then (
  j15 ())
  else (
  (iRem (a0.Data.length : Int) a0.Channels).bind fun x20 =>
  if (x20 != (0 : Int)) then (
  j15 ())
  else (
  (iDiv .i64 (a0.Data.length : Int) a0.Channels).bind fun x22 =>
  j17 (decide (x22 > (65536 : Int))))))
set_option maxHeartbeats 4000000 in
set_option maxRecDepth 100000 in
theorem g74 {n : Nat} {a0 : Block} {r : Bool} (h : f74 n a0 = some r) :
    Ab.Can Try.prog 74 [.agg [.int .i64 a0.Channels, .sl 21 .ro (a0.Data.map (PV.int .i32))]] H0 (.bool r) H0 := by
  refine can_of tabOK mix Try.call74 Try.func74 rfl (by kernel_rfl) (by show _ ≤ 42; simp) fun _ => ?_
  rw [f74] at h
  refine .seq ?_
  refine .region ?_
  refine .boxL (cs := [.int .i64 a0.Channels, .sl 21 .ro (a0.Data.map (PV.int .i32))]) ?_
  refine .assign ?_
  refine .nil ?_
  refine .seq ?_
  obtain ⟨j15, hj15, h⟩ := joinE h
  obtain ⟨j17, hj17, h⟩ := joinE h
  refine .cutI (fun T => (T = St.of [(1, .ptr (.loc 0 0) 0), (30, .bool true)] [((.loc 0 0), [.int .i64 a0.Channels, .sl 21 .ro (a0.Data.map (PV.int .i32))])] ∧ j15 () = some r) ∨ (∃ (v16 : Bool), T = St.of [(1, .ptr (.loc 0 0) 0), (30, .bool v16)] [((.loc 0 0), [.int .i64 a0.Channels, .sl 21 .ro (a0.Data.map (PV.int .i32))])] ∧ j17 v16 = some r)) ?_ ?_
  · refine .region ?_
    refine .val ?_
    refine .val ?_
    refine .val ?_
    refine .move ?_
    refine .caseG (fun hc18 => ?_) (fun hc18 => ?_)
    · replace h := (if_pos hc18).symm.trans h
      refine .skip ?_
      refine .skip ?_
      refine .skip ?_
      refine .brT ?_
      refine .move ?_
      refine .skip ?_
      refine .skip ?_
      refine .skip ?_
      refine .skip ?_
      refine .skip ?_
      refine .skip ?_
      refine .skip ?_
      refine .brT ?_
      refine .move ?_
      refine .skip ?_
      refine .skip ?_
      refine .skip ?_
      refine .skip ?_
      refine .skip ?_
      refine .skip ?_
      refine .skip ?_
      refine .brT ?_
      refine .nil ?_
      exact ⟨_, (.inl ⟨rfl, h⟩), (imp_of (.cons rfl (.cons rfl (.nil))) (.cons rfl (.nil)))⟩
    · replace h := (if_neg (nt hc18)).symm.trans h
      refine .val ?_
      refine .val ?_
      refine .val ?_
      refine .brF ?_
      refine .move ?_
      refine .caseG (fun hc19 => ?_) (fun hc19 => ?_)
      · replace h := (if_pos hc19).symm.trans h
        refine .skip ?_
        refine .skip ?_
        refine .skip ?_
        refine .skip ?_
        refine .skip ?_
        refine .skip ?_
        refine .skip ?_
        refine .brT ?_
        refine .move ?_
        refine .skip ?_
        refine .skip ?_
        refine .skip ?_
        refine .skip ?_
        refine .skip ?_
        refine .skip ?_
        refine .skip ?_
        refine .brT ?_
        refine .nil ?_
        exact ⟨_, (.inl ⟨rfl, h⟩), (imp_of (.cons rfl (.cons rfl (.nil))) (.cons rfl (.nil)))⟩
      · replace h := (if_neg (nt hc19)).symm.trans h
        refine .val ?_
        refine .val ?_
        refine .lenL (f := (PV.int .i32)) ?_
        refine .val ?_
        refine .val ?_
        obtain ⟨x20, hx20, h⟩ := bindE h
        refine .remL hx20 ?_
        refine .val ?_
        refine .brF ?_
        refine .move ?_
        refine .caseG (fun hc21 => ?_) (fun hc21 => ?_)
        · replace h := (if_pos hc21).symm.trans h
          refine .skip ?_
          refine .skip ?_
          refine .skip ?_
          refine .skip ?_
          refine .skip ?_
          refine .skip ?_
          refine .skip ?_
          refine .brT ?_
          refine .nil ?_
          exact ⟨_, (.inl ⟨rfl, h⟩), (imp_of (.cons rfl (.cons rfl (.nil))) (.cons rfl (.nil)))⟩
        · replace h := (if_neg (nt hc21)).symm.trans h
          refine .val ?_
          refine .val ?_
          refine .lenL (f := (PV.int .i32)) ?_
          refine .val ?_
          refine .val ?_
          obtain ⟨x22, hx22, h⟩ := bindE h
          refine .divL hx22 ?_
          refine .val ?_
          refine .brF ?_
          refine .nil ?_
          exact ⟨_, (.inr (⟨_, rfl, h⟩)), (imp_of (.cons rfl (.cons rfl (.nil))) (.cons rfl (.nil)))⟩
  · rintro T (⟨rfl, h⟩ | ⟨v16, rfl, h⟩)
    · subst hj15
      refine .condT ?_
      refine .seq ?_
      refine .region ?_
      refine .assign ?_
      refine .nil ?_
      cases h
      exact .ret (fin_gen0 none)
    · subst hj17
      refine .cond (fun hc23 => ?_) (fun hc23 => ?_)
      · replace h := (if_pos hc23).symm.trans h
        refine .seq ?_
        refine .region ?_
        refine .assign ?_
        refine .nil ?_
        cases h
        exact .ret (fin_gen0 none)
      · replace h := (if_neg (nt hc23)).symm.trans h
        refine .skip ?_
        obtain ⟨j38, hj38, h⟩ := joinE h
        refine .cutI (fun T => (T = St.of [] [] ∧ j38 () = some r)) ?_ ?_
        · refine .seq ?_
          refine .region ?_
          refine .val ?_
          refine .val ?_
          refine .lenL (f := (PV.int .i32)) ?_
          refine .move ?_
          refine .nil ?_
          refine .block ?_
          refine .loopI (fun m T => ∃ (v43 : Int), T = St.of [(32, .sl 21 .ro (a0.Data.map (PV.int .i32))), (33, .int .i64 (a0.Data.length : Int)), (34, .int .i64 v43)] [] ∧ f74_l1 n a0 j38 m v43 = some r) _ _ ⟨_, rfl, h⟩ (imp_of (.cons rfl (.cons rfl (.cons rfl (.nil)))) (.nil)) ?_
          rintro m49 T ⟨v43, rfl, h⟩
          obtain _ | m49 := m49
          · rw [f74_l1] at h; cases h
          rw [f74_l1] at h
          refine .seq ?_
          refine .region ?_
          refine .val ?_
          refine .nil ?_
          refine .seq ?_
          refine .cond (fun hc51 => ?_) (fun hc51 => ?_)
          · replace h := (if_pos hc51).symm.trans h
            refine .skip ?_
            refine .seq ?_
            refine .block ?_
            refine .seq ?_
            refine .region ?_
            obtain ⟨x55, hx55, h⟩ := bindE h
            refine .idxL (f := (PV.int .i32)) hx55 ?_
            refine .ldL hx55 (y := .int .i32 x55) ?_
            refine .assign ?_
            refine .nil ?_
            refine .seq ?_
            refine .region ?_
            refine .move ?_
            obtain ⟨y56, hy56, h⟩ := bindE h
            refine .cP (g106 hy56) ?_
            refine .val ?_
            refine .nil ?_
            refine .cond (fun hc57 => ?_) (fun hc57 => ?_)
            · replace h := (if_pos hc57).symm.trans h
              refine .seq ?_
              refine .region ?_
              refine .assign ?_
              refine .nil ?_
              cases h
              exact .ret (fin_gen0 none)
            · replace h := (if_neg (nt hc57)).symm.trans h
              refine .skip ?_
              refine .region ?_
              refine .val ?_
              refine .move ?_
              refine .nil ?_
              exact ⟨m49, _, Nat.lt_succ_self m49, ⟨_, rfl, h⟩, (imp_of (.cons rfl (.cons rfl (.cons rfl (.nil)))) (.nil))⟩
          · replace h := (if_neg (nt hc51)).symm.trans h
            refine .exit (.hit ?_)
            exact ⟨_, ⟨rfl, h⟩, (imp_of (.nil) (.nil))⟩
        · rintro T ⟨rfl, h⟩
          subst hj38
          refine .seq ?_
          refine .region ?_
          refine .assign ?_
          refine .nil ?_
          cases h
          exact .ret (fin_gen0 none)

/- soundservice/soundservicemade.Wave -/
def f21_l2 (n : Nat) (a0 : Int) (a1 : Int) (v80 : Int) (j117 : (List Int) → Option Block) : Nat → (List Int) → Int → Option Block
  | 0, _, _ => none
  | m128 + 1, v120, v122 =>
    if decide (v122 < a1) then (
    (lApp v120 ([IntKind.wrap .i32 (w64 ((w64 ((Int.tmod (w64 ((w64 ((w64 (v80 * (7919 : Int))) + (w64 (v122 * (104729 : Int))))) + (w64 (a0 * (15485863 : Int))))) (4001 : Int)) - (2000 : Int))) * (1000 : Int)))] : List Int)).bind fun x132 =>
    f21_l2 n a0 a1 v80 j117 m128 x132 (w64 (v122 + (1 : Int))))
    else (
    j117 v120)
def f21_l1 (n : Nat) (a0 : Int) (a1 : Int) (a2 : Int) (a3 : Int) (j59 : (List Int) → Option Block) : Nat → (List Int) → Int → Option Block
  | 0, _, _ => none
  | m100 + 1, v78, v80 =>
    if decide (v80 < (w64 (a2 + a3))) then (
    joinK (fun (v115 : (List Int)) =>
    f21_l1 n a0 a1 a2 a3 j59 m100 v115 (w64 (v80 + (1 : Int)))) fun j117 =>
    f21_l2 n a0 a1 v80 j117 n v78 0)
    else (
    j59 v78)
def f21 (n : Nat) (a0 : Int) (a1 : Int) (a2 : Int) (a3 : Int) : Option Block :=
  joinK (fun (v57 : (List Int)) =>
  some (⟨a1, v57⟩ : Block)) fun j59 =>
  f21_l1 n a0 a1 a2 a3 j59 n ([] : List Int) a2
set_option maxHeartbeats 4000000 in
set_option maxRecDepth 100000 in
theorem g21 {n : Nat} {a0 : Int} {a1 : Int} {a2 : Int} {a3 : Int} {r : Block} (h : f21 n a0 a1 a2 a3 = some r) :
    Ab.Can Try.prog 21 [.int .i64 a0, .int .i64 a1, .int .i64 a2, .int .i64 a3] H0 (.agg [.int .i64 r.Channels, .sl 21 .ro (r.Data.map (PV.int .i32))]) H0 := by
  refine can_of tabOK mix Try.call21 Try.func21 rfl (by kernel_rfl) (by show _ ≤ 47; simp) fun _ => ?_
  rw [f21] at h
  refine .seq ?_
  refine .region ?_
  refine .allocL (cs := [.int .i64 0, .sl 21 .full []]) ?_
  refine .nil ?_
  refine .seq ?_
  refine .region ?_
  refine .move ?_
  refine .buildL (cs := [.int .i64 a1, .sl 21 .full []]) ?_
  refine .allocL (cs := [.int .i64 0, .sl 21 .full []]) ?_
  refine .wrL (cs := [.int .i64 a1, .sl 21 .full []]) ?_
  refine .nil ?_
  obtain ⟨j59, hj59, h⟩ := joinE h
  refine .cutI (fun T => (∃ (v57 : (List Int)), T = St.of [(8, .ptr (.loc 0 0) 0), (9, .ptr (.loc 1 2) 0)] [((.loc 0 0), [.int .i64 0, .sl 21 .full []]), ((.loc 1 2), [.int .i64 a1, .sl 21 (.own (.row 9058 0)) (v57.map (PV.int .i32))])] ∧ j59 v57 = some r)) ?_ ?_
  · refine .seq ?_
    refine .region ?_
    refine .move ?_
    refine .assign ?_
    refine .nil ?_
    refine .block ?_
    refine .loopI (fun m T => ∃ (v78 : (List Int)) (v80 : Int), T = St.of [(0, .int .i64 a0), (1, .int .i64 a1), (2, .int .i64 a2), (3, .int .i64 a3), (8, .ptr (.loc 0 0) 0), (9, .ptr (.loc 1 2) 0), (10, .int .i64 v80)] [((.loc 0 0), [.int .i64 0, .sl 21 .full []]), ((.loc 1 2), [.int .i64 a1, .sl 21 (.own (.row 9079 0)) (v78.map (PV.int .i32))])] ∧ f21_l1 n a0 a1 a2 a3 j59 m v78 v80 = some r) _ _ ⟨_, _, rfl, h⟩ (imp_of (.cons rfl (.cons rfl (.cons rfl (.cons rfl (.cons rfl (.cons rfl (.cons rfl (.nil)))))))) (.cons rfl (.wk (.cons (.refl _) rfl (.cons (.own _ _) rfl (.nil))) rfl (.nil)))) ?_
    rintro m100 T ⟨v78, v80, rfl, h⟩
    obtain _ | m100 := m100
    · rw [f21_l1] at h; cases h
    rw [f21_l1] at h
    refine .seq ?_
    refine .seq ?_
    refine .region ?_
    refine .move ?_
    refine .move ?_
    refine .move ?_
    refine .val ?_
    refine .val ?_
    refine .nil ?_
    refine .cond (fun hc102 => ?_) (fun hc102 => ?_)
    · replace h := (if_pos hc102).symm.trans h
      refine .skip ?_
      obtain ⟨j117, hj117, h⟩ := joinE h
      refine .cutI (fun T => (∃ (v115 : (List Int)), T = St.of [(0, .int .i64 a0), (1, .int .i64 a1), (2, .int .i64 a2), (3, .int .i64 a3), (8, .ptr (.loc 0 0) 0), (9, .ptr (.loc 1 2) 0), (10, .int .i64 v80)] [((.loc 0 0), [.int .i64 0, .sl 21 .full []]), ((.loc 1 2), [.int .i64 a1, .sl 21 (.own (.row 9116 0)) (v115.map (PV.int .i32))])] ∧ j117 v115 = some r)) ?_ ?_
      · refine .block ?_
        refine .seq ?_
        refine .region ?_
        refine .assign ?_
        refine .nil ?_
        refine .block ?_
        refine .loopI (fun m T => ∃ (v120 : (List Int)) (v122 : Int), T = St.of [(0, .int .i64 a0), (1, .int .i64 a1), (2, .int .i64 a2), (3, .int .i64 a3), (8, .ptr (.loc 0 0) 0), (9, .ptr (.loc 1 2) 0), (10, .int .i64 v80), (11, .int .i64 v122)] [((.loc 0 0), [.int .i64 0, .sl 21 .full []]), ((.loc 1 2), [.int .i64 a1, .sl 21 (.own (.row 9121 0)) (v120.map (PV.int .i32))])] ∧ f21_l2 n a0 a1 v80 j117 m v120 v122 = some r) _ _ ⟨_, _, rfl, h⟩ (Imp.trans (Imp.swap (.row 9079 0) (.row 9121 0) rfl rfl rfl) (imp_of (.cons rfl (.cons rfl (.cons rfl (.cons rfl (.cons rfl (.cons rfl (.cons rfl (.cons rfl (.nil))))))))) (.cons rfl (.cons rfl (.nil))))) ?_
        rintro m128 T ⟨v120, v122, rfl, h⟩
        obtain _ | m128 := m128
        · rw [f21_l2] at h; cases h
        rw [f21_l2] at h
        refine .seq ?_
        refine .seq ?_
        refine .region ?_
        refine .move ?_
        refine .move ?_
        refine .val ?_
        refine .nil ?_
        refine .cond (fun hc130 => ?_) (fun hc130 => ?_)
        · replace h := (if_pos hc130).symm.trans h
          refine .skip ?_
          refine .seq ?_
          refine .block ?_
          refine .seq ?_
          refine .region ?_
          refine .move ?_
          refine .val ?_
          refine .move ?_
          refine .val ?_
          refine .val ?_
          refine .move ?_
          refine .val ?_
          refine .val ?_
          refine .val ?_ (hc := by decide)
          refine .val ?_
          refine .assign ?_
          refine .nil ?_
          refine .region ?_
          refine .val ?_
          refine .val ?_
          refine .move ?_
          refine .val ?_
          refine .val ?_
          refine .litR (f := (PV.int .i32)) ([IntKind.wrap .i32 (w64 ((w64 ((Int.tmod (w64 ((w64 ((w64 (v80 * (7919 : Int))) + (w64 (v122 * (104729 : Int))))) + (w64 (a0 * (15485863 : Int))))) (4001 : Int)) - (2000 : Int))) * (1000 : Int)))] : List Int) ?_
          obtain ⟨x132, hx132, h⟩ := bindE h
          refine .appL (f := (PV.int .i32)) hx132 ?_
          refine .val ?_
          refine .wrL (cs := [.int .i64 a1, .sl 21 (.own (.row 9 6)) (x132.map (PV.int .i32))]) ?_
          refine .nil ?_
          refine .region ?_
          refine .move ?_
          refine .val ?_
          refine .assign ?_
          refine .nil ?_
          exact ⟨m128, _, Nat.lt_succ_self m128, ⟨_, _, rfl, h⟩, (Imp.trans (Imp.swap (.row 9 6) (.row 9121 0) rfl rfl rfl) (imp_of (.cons rfl (.cons rfl (.cons rfl (.cons rfl (.cons rfl (.cons rfl (.cons rfl (.cons rfl (.nil))))))))) (.cons rfl (.cons rfl (.nil)))))⟩
        · replace h := (if_neg (nt hc130)).symm.trans h
          refine .exit (.hit ?_)
          exact ⟨_, ⟨_, rfl, h⟩, (Imp.trans (Imp.swap (.row 9121 0) (.row 9116 0) rfl rfl rfl) (imp_of (.cons rfl (.cons rfl (.cons rfl (.cons rfl (.cons rfl (.cons rfl (.cons rfl (.nil)))))))) (.cons rfl (.cons rfl (.nil)))))⟩
      · rintro T ⟨v115, rfl, h⟩
        subst hj117
        refine .region ?_
        refine .move ?_
        refine .val ?_
        refine .assign ?_
        refine .nil ?_
        exact ⟨m100, _, Nat.lt_succ_self m100, ⟨_, _, rfl, h⟩, (Imp.trans (Imp.swap (.row 9116 0) (.row 9079 0) rfl rfl rfl) (imp_of (.cons rfl (.cons rfl (.cons rfl (.cons rfl (.cons rfl (.cons rfl (.cons rfl (.nil)))))))) (.cons rfl (.cons rfl (.nil)))))⟩
    · replace h := (if_neg (nt hc102)).symm.trans h
      refine .exit (.hit ?_)
      exact ⟨_, ⟨_, rfl, h⟩, (Imp.trans (Imp.swap (.row 9079 0) (.row 9058 0) rfl rfl rfl) (imp_of (.cons rfl (.cons rfl (.nil))) (.cons rfl (.cons rfl (.nil)))))⟩
  · rintro T ⟨v57, rfl, h⟩
    subst hj59
    refine .seq ?_
    refine .region ?_
    refine .val (v := .agg [.int .i64 a1, .sl 21 (.own (.row 9058 0)) (v57.map (PV.int .i32))]) ?_
    refine .wrL (cs := [.int .i64 a1, .sl 21 (.own (.row 9058 0)) (v57.map (PV.int .i32))]) ?_
    refine .nil ?_
    cases h
    exact .ret (fin_gen0 none)

/- soundservice/soundserviceref04.Frames -/
def f35 (n : Nat) (a0 : Block) : Option Int :=
  (f74 n (⟨a0.Channels, a0.Data⟩ : Block)).bind fun y3 =>
  if !y3 then (
  some 0)
  else (
  (iDiv .i64 (a0.Data.length : Int) a0.Channels).bind fun x5 =>
  some x5)
set_option maxHeartbeats 4000000 in
set_option maxRecDepth 100000 in
theorem g35 {n : Nat} {a0 : Block} {r : Int} (h : f35 n a0 = some r) :
    Ab.Can Try.prog 35 [.agg [.int .i64 a0.Channels, .sl 21 .ro (a0.Data.map (PV.int .i32))]] H0 (.int .i64 r) H0 := by
  refine can_of tabOK mix Try.call35 Try.func35 rfl (by kernel_rfl) (by show _ ≤ 12; simp) fun _ => ?_
  rw [f35] at h
  refine .seq ?_
  refine .region ?_
  refine .boxL (cs := [.int .i64 a0.Channels, .sl 21 .ro (a0.Data.map (PV.int .i32))]) ?_
  refine .assign ?_
  refine .nil ?_
  refine .seq ?_
  refine .seq ?_
  refine .region ?_
  refine .val (v := .agg [.int .i64 a0.Channels, .sl 21 .ro (a0.Data.map (PV.int .i32))]) ?_
  obtain ⟨y3, hy3, h⟩ := bindE h
  refine .cP (g74 hy3) ?_
  refine .val ?_
  refine .nil ?_
  refine .cond (fun hc4 => ?_) (fun hc4 => ?_)
  · replace h := (if_pos hc4).symm.trans h
    refine .seq ?_
    refine .region ?_
    refine .assign ?_
    refine .nil ?_
    cases h
    exact .ret (fin_gen0 none)
  · replace h := (if_neg (nt hc4)).symm.trans h
    refine .skip ?_
    refine .seq ?_
    refine .region ?_
    refine .val ?_
    refine .val ?_
    refine .lenL (f := (PV.int .i32)) ?_
    refine .val ?_
    refine .val ?_
    obtain ⟨x5, hx5, h⟩ := bindE h
    refine .divL hx5 ?_
    refine .assign ?_
    refine .nil ?_
    cases h
    exact .ret (fin_gen0 none)

/- soundservice/soundserviceref04.Join -/
def f22 (_n : Nat) (a0 : Block) (a1 : Block) : Option Block :=
  (lApp ([] : List Int) a0.Data).bind fun x1 =>
  (lApp x1 a1.Data).bind fun x2 =>
  some (⟨a0.Channels, x2⟩ : Block)
set_option maxHeartbeats 4000000 in
set_option maxRecDepth 100000 in
theorem g22 {n : Nat} {a0 : Block} {a1 : Block} {r : Block} (h : f22 n a0 a1 = some r) :
    Ab.Can Try.prog 22 [.agg [.int .i64 a0.Channels, .sl 21 .ro (a0.Data.map (PV.int .i32))], .agg [.int .i64 a1.Channels, .sl 21 .ro (a1.Data.map (PV.int .i32))]] H0 (.agg [.int .i64 r.Channels, .sl 21 .ro (r.Data.map (PV.int .i32))]) H0 := by
  refine can_of tabOK mix Try.call22 Try.func22 rfl (by kernel_rfl) (by show _ ≤ 14; simp) fun _ => ?_
  rw [f22] at h
  refine .seq ?_
  refine .region ?_
  refine .boxL (cs := [.int .i64 a0.Channels, .sl 21 .ro (a0.Data.map (PV.int .i32))]) ?_
  refine .boxL (cs := [.int .i64 a1.Channels, .sl 21 .ro (a1.Data.map (PV.int .i32))]) ?_
  refine .allocL (cs := [.int .i64 0, .sl 21 .full []]) ?_
  refine .nil ?_
  refine .seq ?_
  obtain ⟨x1, hx1, h⟩ := bindE h
  obtain ⟨x2, hx2, h⟩ := bindE h
  refine .draw [4, 7, 9] [[], [], [], [], [], [], [], [4], [4, 7], [4, 7]] [[9], [9], [4, 7, 9], [4, 7, 9], [7, 9], [7, 9], [7, 9], [9], [9], []] [[], [4], [4, 7], [4, 7, 9]]
    [(0, 0), (0, 1), (0, 2), (1, 0), (1, 1), (1, 2), (2, 0), (3, 0), (5, 0), (5, 1), (6, 0), (6, 1), (8, 2)] [(0, 4, 1), (1, 7, 2), (2, 9, 3)] 3
    [⟨[(5, .ptr (.loc 0 0) 0), (6, .int .i64 a0.Channels), (7, .ptr (.loc 0 0) 1), (8, .sl 21 .ro (a0.Data.map (PV.int .i32))), (10, .ptr (.loc 0 1) 1), (11, .sl 21 .ro (a1.Data.map (PV.int .i32))), (2, .ptr (.loc 0 0) 0), (3, .ptr (.loc 0 1) 0), (4, .ptr (.loc 0 2) 0)], [], [((.loc 0 0), [.int .i64 a0.Channels, .sl 21 .ro (a0.Data.map (PV.int .i32))]), ((.loc 0 1), [.int .i64 a1.Channels, .sl 21 .ro (a1.Data.map (PV.int .i32))]), ((.loc 0 2), [.int .i64 0, .sl 21 .full []])]⟩,
    ⟨[(5, .ptr (.loc 0 0) 0), (6, .int .i64 a0.Channels), (7, .ptr (.loc 0 0) 1), (8, .sl 21 .ro (a0.Data.map (PV.int .i32))), (9, .sl 21 (.own (.row 1 4)) (x1.map (PV.int .i32))), (10, .ptr (.loc 0 1) 1), (11, .sl 21 .ro (a1.Data.map (PV.int .i32))), (2, .ptr (.loc 0 0) 0), (3, .ptr (.loc 0 1) 0), (4, .ptr (.loc 0 2) 0)], [], [((.loc 0 0), [.int .i64 a0.Channels, .sl 21 .ro (a0.Data.map (PV.int .i32))]), ((.loc 0 1), [.int .i64 a1.Channels, .sl 21 .ro (a1.Data.map (PV.int .i32))]), ((.loc 0 2), [.int .i64 0, .sl 21 .full []])]⟩,
    ⟨[(5, .ptr (.loc 0 0) 0), (6, .int .i64 a0.Channels), (7, .ptr (.loc 0 0) 1), (8, .sl 21 .ro (a0.Data.map (PV.int .i32))), (9, .dead), (10, .ptr (.loc 0 1) 1), (11, .sl 21 .ro (a1.Data.map (PV.int .i32))), (12, .sl 21 (.own (.row 1 7)) (x2.map (PV.int .i32))), (13, .agg [.int .i64 a0.Channels, .sl 21 (.own (.row 1 7)) (x2.map (PV.int .i32))]), (2, .ptr (.loc 0 0) 0), (3, .ptr (.loc 0 1) 0), (4, .ptr (.loc 0 2) 0)], [], [((.loc 0 0), [.int .i64 a0.Channels, .sl 21 .ro (a0.Data.map (PV.int .i32))]), ((.loc 0 1), [.int .i64 a1.Channels, .sl 21 .ro (a1.Data.map (PV.int .i32))]), ((.loc 0 2), [.int .i64 0, .sl 21 .full []])]⟩,
    ⟨[(5, .ptr (.loc 0 0) 0), (6, .int .i64 a0.Channels), (7, .ptr (.loc 0 0) 1), (8, .sl 21 .ro (a0.Data.map (PV.int .i32))), (9, .dead), (10, .ptr (.loc 0 1) 1), (11, .sl 21 .ro (a1.Data.map (PV.int .i32))), (12, .sl 21 (.own (.row 1 7)) (x2.map (PV.int .i32))), (13, .agg [.int .i64 a0.Channels, .sl 21 (.own (.row 1 7)) (x2.map (PV.int .i32))]), (2, .ptr (.loc 0 0) 0), (3, .ptr (.loc 0 1) 0), (4, .ptr (.loc 0 2) 0)], [], [((.loc 0 0), [.int .i64 a0.Channels, .sl 21 .ro (a0.Data.map (PV.int .i32))]), ((.loc 0 1), [.int .i64 a1.Channels, .sl 21 .ro (a1.Data.map (PV.int .i32))]), ((.loc 0 2), [.int .i64 a0.Channels, .sl 21 (.own (.row 1 7)) (x2.map (PV.int .i32))])]⟩]
    [(2, .ptr (.loc 0 0) 0), (3, .ptr (.loc 0 1) 0), (4, .ptr (.loc 0 2) 0)]
    (.cons [2] [] (fun _ _ h => .val (h _)) rfl rfl <|
    .cons [2] [] (fun _ _ h => .val (h _)) rfl rfl <|
    .cons [2] [] (fun _ _ h => .val (h _)) rfl rfl <|
    .cons [5] [] (fun _ _ h => .val (h _)) rfl rfl <|
    .cons [5] [] (fun _ _ h => .val (h _)) rfl rfl <|
    .cons [5] [] (fun _ _ h => .val (h _)) rfl rfl <|
    .cons [2] [] (fun _ _ h => .val (h _)) rfl rfl <|
    .cons [7] [] (fun _ _ h => .val (h _)) rfl rfl <|
    .cons [3] [] (fun _ _ h => .val (h _)) rfl rfl <|
    .cons [3] [] (fun _ _ h => .val (h _)) rfl rfl <|
    .cons [10] [] (fun _ _ h => .val (h _)) rfl rfl <|
    .cons [10] [] (fun _ _ h => .val (h _)) rfl rfl <|
    .cons [6, 12] [] (fun _ _ h => .buildL (cs := [.int .i64 a0.Channels, .sl 21 (.own (.row 1 7)) (x2.map (PV.int .i32))]) (h _)) rfl rfl <|
    .nil)
    (.cons (PV.sub (oneSub (.row 1 4) .frz)) [8] [] (fun _ _ h => .appN (f := (PV.int .i32)) hx1 (h _ _ (.cons rfl (.cons rfl (.cons rfl (.nil)))))) rfl (.old rfl (.old rfl (.old rfl (.old rfl (.new rfl (.old rfl (.old rfl (.old rfl (.old rfl (.old rfl (.nil))))))))))) rfl rfl <|
    .cons (PV.sub (twoSub (.row 1 4) .kill (.row 1 7) .frz)) [9, 11] [] (fun _ _ h => .appL (f := (PV.int .i32)) hx2 (h _ _ (.cons rfl (.cons rfl (.cons rfl (.nil)))))) rfl (.old rfl (.old rfl (.old rfl (.old rfl (.old rfl (.old rfl (.old rfl (.new rfl (.new rfl (.old rfl (.old rfl (.old rfl (.nil))))))))))))) rfl rfl <|
    .cons (fun x => x) [4, 13] [] (fun _ _ h => .wrL (cs := [.int .i64 a0.Channels, .sl 21 (.own (.row 1 7)) (x2.map (PV.int .i32))]) (h _ _ (.cons rfl (.cons rfl (.cons rfl (.nil)))))) rfl (.old rfl (.old rfl (.old rfl (.old rfl (.old rfl (.old rfl (.old rfl (.old rfl (.old rfl (.old rfl (.old rfl (.old rfl (.nil))))))))))))) rfl rfl <|
    .nil)
    (by kernel_rfl) rfl (.cons rfl (.cons rfl (.cons rfl (.nil)))) (.nil) (.cons rfl (.cons rfl (.cons rfl (.nil)))) ?_
  cases h
  exact .ret (fin_gen0 none)

/- soundservice/soundserviceref04.SameData -/
def f73_l1 (n : Nat) (a0 : (List Int)) (a1 : (List Int)) (j17 : Unit → Option Bool) : Nat → Int → Option Bool
  | 0, _ => none
  | m28 + 1, v22 =>
    if decide (v22 < (a0.length : Int)) then (
    (lAt a0 v22).bind fun x34 =>
    (lAt a1 v22).bind fun x35 =>
    if (x34 != x35) then (
    some false)
    else (
    f73_l1 n a0 a1 j17 m28 (w64 (v22 + (1 : Int)))))
    else (
    j17 ())
def f73 (n : Nat) (a0 : (List Int)) (a1 : (List Int)) : Option Bool :=
  if ((a0.length : Int) != (a1.length : Int)) then (
  some false)
  else (
  joinK (fun (_ : Unit) =>
  some true) fun j17 =>
  f73_l1 n a0 a1 j17 n 0)
set_option maxHeartbeats 4000000 in
set_option maxRecDepth 100000 in
theorem g73 {n : Nat} {a0 : (List Int)} {a1 : (List Int)} {r : Bool} (h : f73 n a0 a1 = some r) :
    Ab.Can Try.prog 73 [.sl 21 .ro (a0.map (PV.int .i32)), .sl 21 .ro (a1.map (PV.int .i32))] H0 (.bool r) H0 := by
  refine can_of tabOK mix Try.call73 Try.func73 rfl (by kernel_rfl) (by show _ ≤ 26; simp) fun _ => ?_
  rw [f73] at h
  refine .seq ?_
  refine .region ?_
  refine .assign ?_
  refine .nil ?_
  refine .seq ?_
  refine .seq ?_
  refine .region ?_
  refine .move ?_
  refine .lenL (f := (PV.int .i32)) ?_
  refine .move ?_
  refine .lenL (f := (PV.int .i32)) ?_
  refine .val ?_
  refine .nil ?_
  refine .cond (fun hc2 => ?_) (fun hc2 => ?_)
  · replace h := (if_pos hc2).symm.trans h
    refine .seq ?_
    refine .region ?_
    refine .assign ?_
    refine .nil ?_
    cases h
    exact .ret (fin_gen0 none)
  · replace h := (if_neg (nt hc2)).symm.trans h
    refine .skip ?_
    obtain ⟨j17, hj17, h⟩ := joinE h
    refine .cutI (fun T => (T = St.of [] [] ∧ j17 () = some r)) ?_ ?_
    · refine .seq ?_
      refine .region ?_
      refine .move ?_
      refine .lenL (f := (PV.int .i32)) ?_
      refine .move ?_
      refine .nil ?_
      refine .block ?_
      refine .loopI (fun m T => ∃ (v22 : Int), T = St.of [(0, .sl 21 .ro (a0.map (PV.int .i32))), (1, .sl 21 .ro (a1.map (PV.int .i32))), (12, .int .i64 (a0.length : Int)), (13, .int .i64 v22)] [] ∧ f73_l1 n a0 a1 j17 m v22 = some r) _ _ ⟨_, rfl, h⟩ (imp_of (.cons rfl (.cons rfl (.cons rfl (.cons rfl (.nil))))) (.nil)) ?_
      rintro m28 T ⟨v22, rfl, h⟩
      obtain _ | m28 := m28
      · rw [f73_l1] at h; cases h
      rw [f73_l1] at h
      refine .seq ?_
      refine .region ?_
      refine .val ?_
      refine .nil ?_
      refine .seq ?_
      refine .cond (fun hc30 => ?_) (fun hc30 => ?_)
      · replace h := (if_pos hc30).symm.trans h
        refine .skip ?_
        refine .seq ?_
        refine .block ?_
        refine .seq ?_
        refine .region ?_
        refine .move ?_
        refine .assign ?_
        refine .nil ?_
        refine .seq ?_
        obtain ⟨x34, hx34, h⟩ := bindE h
        obtain ⟨x35, hx35, h⟩ := bindE h
        refine .draw [] [[], [], [], [], [], [], [], [], []] [[], [], [], [], [], [], [], [], []] [[]]
          [(0, 0), (1, 0), (2, 0), (3, 0), (4, 0), (5, 0), (6, 0), (7, 0), (8, 0)] [] 0
          [⟨[(16, .sl 21 .ro (a0.map (PV.int .i32))), (17, .int .i64 v22), (18, .ep 21 .ro (a0.map (PV.int .i32)) (v22 : Int).toNat 0), (19, .int .i32 x34), (20, .sl 21 .ro (a1.map (PV.int .i32))), (21, .int .i64 v22), (22, .ep 21 .ro (a1.map (PV.int .i32)) (v22 : Int).toNat 0), (23, .int .i32 x35), (24, .bool (x34 != x35)), (0, .sl 21 .ro (a0.map (PV.int .i32))), (1, .sl 21 .ro (a1.map (PV.int .i32))), (5, .int .i64 v22), (12, .int .i64 (a0.length : Int)), (13, .int .i64 v22)], [], []⟩]
          [(0, .sl 21 .ro (a0.map (PV.int .i32))), (1, .sl 21 .ro (a1.map (PV.int .i32))), (5, .int .i64 v22), (12, .int .i64 (a0.length : Int)), (13, .int .i64 v22)]
          (.cons [0] [] (fun _ _ h => .move (h _)) rfl rfl <|
          .cons [5] [] (fun _ _ h => .move (h _)) rfl rfl <|
          .cons [16, 17] [] (fun _ _ h => .idxL (f := (PV.int .i32)) hx34 (h _)) rfl rfl <|
          .cons [18] [] (fun _ _ h => .ldL hx34 (h _)) rfl rfl <|
          .cons [1] [] (fun _ _ h => .move (h _)) rfl rfl <|
          .cons [5] [] (fun _ _ h => .move (h _)) rfl rfl <|
          .cons [20, 21] [] (fun _ _ h => .idxL (f := (PV.int .i32)) hx35 (h _)) rfl rfl <|
          .cons [22] [] (fun _ _ h => .ldL hx35 (h _)) rfl rfl <|
          .cons [19, 23] [] (fun _ _ h => .val (h _)) rfl rfl <|
          .nil)
          (.nil)
          (by kernel_rfl) rfl (.cons rfl (.cons rfl (.cons rfl (.cons rfl (.cons rfl (.nil)))))) (.nil) (.nil) ?_
        refine .imp (T := St.of [(0, .sl 21 .ro (a0.map (PV.int .i32))), (1, .sl 21 .ro (a1.map (PV.int .i32))), (12, .int .i64 (a0.length : Int)), (13, .int .i64 v22), (24, .bool (x34 != x35))] []) (imp_of (.cons rfl (.cons rfl (.cons rfl (.cons rfl (.cons rfl (.nil)))))) (.nil)) ?_
        refine .cond (fun hc36 => ?_) (fun hc36 => ?_)
        · replace h := (if_pos hc36).symm.trans h
          refine .seq ?_
          refine .region ?_
          refine .assign ?_
          refine .nil ?_
          cases h
          exact .ret (fin_gen0 none)
        · replace h := (if_neg (nt hc36)).symm.trans h
          refine .skip ?_
          refine .region ?_
          refine .val ?_
          refine .move ?_
          refine .nil ?_
          exact ⟨m28, _, Nat.lt_succ_self m28, ⟨_, rfl, h⟩, (imp_of (.cons rfl (.cons rfl (.cons rfl (.cons rfl (.nil))))) (.nil))⟩
      · replace h := (if_neg (nt hc30)).symm.trans h
        refine .exit (.hit ?_)
        exact ⟨_, ⟨rfl, h⟩, (imp_of (.nil) (.nil))⟩
    · rintro T ⟨rfl, h⟩
      subst hj17
      refine .seq ?_
      refine .region ?_
      refine .assign ?_
      refine .nil ?_
      cases h
      exact .ret (fin_gen0 none)

/- soundservice/soundserviceref04.Same -/
def f24 (n : Nat) (a0 : Block) (a1 : Block) : Option Bool :=
  if (a0.Channels == a1.Channels) then (
  (f73 n a0.Data a1.Data).bind fun y4 =>
  some y4)
  else (
  some false)
set_option maxHeartbeats 4000000 in
set_option maxRecDepth 100000 in
theorem g24 {n : Nat} {a0 : Block} {a1 : Block} {r : Bool} (h : f24 n a0 a1 = some r) :
    Ab.Can Try.prog 24 [.agg [.int .i64 a0.Channels, .sl 21 .ro (a0.Data.map (PV.int .i32))], .agg [.int .i64 a1.Channels, .sl 21 .ro (a1.Data.map (PV.int .i32))]] H0 (.bool r) H0 := by
  refine can_of tabOK mix Try.call24 Try.func24 rfl (by kernel_rfl) (by show _ ≤ 17; simp) fun _ => ?_
  rw [f24] at h
  refine .seq ?_
  refine .region ?_
  refine .boxL (cs := [.int .i64 a0.Channels, .sl 21 .ro (a0.Data.map (PV.int .i32))]) ?_
  refine .boxL (cs := [.int .i64 a1.Channels, .sl 21 .ro (a1.Data.map (PV.int .i32))]) ?_
  refine .assign ?_
  refine .nil ?_
  refine .seq ?_
  refine .region ?_
  refine .val ?_
  refine .val ?_
  refine .val ?_
  refine .val ?_
  refine .val ?_
  refine .move ?_
  refine .caseG (fun hc3 => ?_) (fun hc3 => ?_)
  · replace h := (if_pos hc3).symm.trans h
    refine .val ?_
    refine .val ?_
    refine .val ?_
    refine .val ?_
    obtain ⟨y4, hy4, h⟩ := bindE h
    refine .cP (g73 hy4) ?_
    refine .brT ?_
    refine .assign ?_
    refine .nil ?_
    cases h
    exact .ret (fin_gen0 none)
  · replace h := (if_neg (nt hc3)).symm.trans h
    refine .skip ?_
    refine .skip ?_
    refine .skip ?_
    refine .skip ?_
    refine .skip ?_
    refine .brF ?_
    refine .assign ?_
    refine .nil ?_
    cases h
    exact .ret (fin_gen0 none)

/- soundservice/soundservicekeep.Block -/
def f25 (_n : Nat) (a0 : Block) (a1 : Int) : Option Bool :=
  some (decide ((a0.Data.length : Int) ≤ a1))
set_option maxHeartbeats 4000000 in
set_option maxRecDepth 100000 in
theorem g25 {n : Nat} {a0 : Block} {a1 : Int} {r : Bool} (h : f25 n a0 a1 = some r) :
    Ab.Can Try.prog 25 [.agg [.int .i64 a0.Channels, .sl 21 .ro (a0.Data.map (PV.int .i32))], .int .i64 a1] H0 (.bool r) H0 := by
  refine can_of tabOK mix Try.call25 Try.func25 rfl (by kernel_rfl) (by show _ ≤ 10; simp) fun _ => ?_
  rw [f25] at h
  refine .seq ?_
  refine .region ?_
  refine .boxL (cs := [.int .i64 a0.Channels, .sl 21 .ro (a0.Data.map (PV.int .i32))]) ?_
  refine .assign ?_
  refine .nil ?_
  refine .seq ?_
  refine .region ?_
  refine .val ?_
  refine .val ?_
  refine .lenL (f := (PV.int .i32)) ?_
  refine .move ?_
  refine .val ?_
  refine .assign ?_
  refine .nil ?_
  cases h
  exact .ret (fin_gen0 none)
end Go.Proofs.Ytacdknbakjbpiaa
