/-
  Plain functions of journal, soundservicelaw40, soundserviceref40, and that the code does what they say.
-/
import Derived.Test.YtcahjpkmldmjdaaGs
namespace Go.Proofs.Ytcahjpkmldmjdaa
open Go Ab
/- soundservice/journal.sum -/
def f84 (n : Nat) (a0 : Int) (a1 : (List Int)) : Option Int :=
  (f28 n ([] : List Int) a0).bind fun y1 =>
  (lApp y1 a1).bind fun x2 =>
  (f20 n x2).bind fun y3 =>
  some y3
set_option maxHeartbeats 4000000 in
set_option maxRecDepth 100000 in
theorem g84 {n : Nat} {a0 : Int} {a1 : (List Int)} {r : Int} (h : f84 n a0 a1 = some r) :
    Ab.Can Try.prog 84 [.int .u64 a0, .sl 5 .ro (a1.map (PV.int .u8))] H0 (.int .u64 r) H0 := by
  refine can_of tabOK mix Try.call84 Try.func84 rfl (by kernel_rfl) (by show _ ≤ 10; simp) fun _ => ?_
  rw [f84] at h
  refine .seq ?_
  refine .region ?_
  refine .assign ?_
  refine .nil ?_
  refine .seq ?_
  refine .region ?_
  refine .move ?_
  obtain ⟨y1, hy1, h⟩ := bindE h
  refine .cO (.row 1 1) (g28 hy1) (u := .sl 5 (.own (.row 1 1)) (y1.map (PV.int .u8))) ?_
  refine .move ?_
  obtain ⟨x2, hx2, h⟩ := bindE h
  refine .appL (f := (PV.int .u8)) hx2 ?_
  obtain ⟨y3, hy3, h⟩ := bindE h
  refine .freeze (.row 1 3) ?_
  refine .cP (g20 hy3) ?_
  refine .assign ?_
  refine .nil ?_
  cases h
  exact .ret (fin_gen0 none)

/- soundservice/journal.read -/
def f82_l1 (n : Nat) (a0 : (List Int)) : Nat → (List (List Int)) → Int → Int → Option ((List (List Int)) × Int × Int × Int)
  | 0, _, _, _ => none
  | m49 + 1, v22, v24, v25 =>
    (lPart a0 v24 (a0.length : Int)).bind fun x50 =>
    if ((x50.length : Int) == (0 : Int)) then (
    some (v22, v24, v25, 0))
    else (
    if decide ((x50.length : Int) < (10 : Int)) then (
    some (v22, v24, v25, 4))
    else (
    (f32 n x50 (0 : Int)).bind fun y55 =>
    if decide (y55.1 > (4096 : Int)) then (
    some (v22, v24, v25, 3))
    else (
    if decide ((x50.length : Int) < (w64 ((w64 ((2 : Int) + (w64 (y55.1)))) + (8 : Int)))) then (
    some (v22, v24, v25, 4))
    else (
    (lPart x50 (0 : Int) (w64 ((2 : Int) + (w64 (y55.1))))).bind fun x60 =>
    (f84 n v25 x60).bind fun y61 =>
    (f35 n x50 (w64 ((2 : Int) + (w64 (y55.1))))).bind fun y64 =>
    if (y64.1 != y61) then (
    some (v22, v24, v25, 6))
    else (
    (lPart x50 (2 : Int) (w64 ((2 : Int) + (w64 (y55.1))))).bind fun x66 =>
    (f87 n x66).bind fun y67 =>
    (lApp v22 ([y67] : List (List Int))).bind fun x68 =>
    f82_l1 n a0 m49 x68 (w64 ((w64 (v24 + (w64 ((2 : Int) + (w64 (y55.1)))))) + (8 : Int))) y61)))))
def f82 (n : Nat) (a0 : (List Int)) : Option ((List (List Int)) × Int × Int × Int) :=
  f82_l1 n a0 n ([] : List (List Int)) 0 0
set_option maxHeartbeats 4000000 in
set_option maxRecDepth 100000 in
theorem g82 {n : Nat} {a0 : (List Int)} {r : ((List (List Int)) × Int × Int × Int)} (h : f82 n a0 = some r) :
    Ab.Can Try.prog 82 [.sl 5 .ro (a0.map (PV.int .u8))] H0 (.tup [.sl 22 (.own (.rrow 0)) (r.1.map pv22), .int .i64 r.2.1, .int .u64 r.2.2.1, .int .i64 r.2.2.2]) H0 := by
  refine can_of tabOK mix Try.call82 Try.func82 rfl (by kernel_rfl) (by show _ ≤ 86; simp) fun _ => ?_
  rw [f82] at h
  refine .seq ?_
  refine .region ?_
  refine .assign ?_
  refine .assign ?_
  refine .assign ?_
  refine .assign ?_
  refine .nil ?_
  refine .block ?_
  refine .loopI (fun m T => ∃ (v22 : (List (List Int))) (v24 : Int) (v25 : Int), T = St.of [(0, .sl 5 .ro (a0.map (PV.int .u8))), (2, .sl 22 (.own (.row 9023 0)) (v22.map pv22)), (3, .int .i64 v24), (4, .int .u64 v25)] [] ∧ f82_l1 n a0 m v22 v24 v25 = some r) _ _ ⟨_, _, _, rfl, h⟩ (imp_of (.cons rfl (.wk (.own _ _) rfl (.cons rfl (.cons rfl (.nil))))) (.nil)) ?_
  rintro m49 T ⟨v22, v24, v25, rfl, h⟩
  obtain _ | m49 := m49
  · rw [f82_l1] at h; cases h
  rw [f82_l1] at h
  refine .block ?_
  refine .seq ?_
  refine .region ?_
  refine .move ?_
  refine .move ?_
  obtain ⟨x50, hx50, h⟩ := bindE h
  refine .partE (f := (PV.int .u8)) hx50 ?_
  refine .assign ?_
  refine .nil ?_
  refine .seq ?_
  refine .block ?_
  refine .seq ?_
  refine .region ?_
  refine .move ?_
  refine .lenL (f := (PV.int .u8)) ?_
  refine .val ?_
  refine .assign ?_
  refine .nil ?_
  refine .cond (fun hc53 => ?_) (fun hc53 => ?_)
  · replace h := (if_pos hc53).symm.trans h
    refine .seq ?_
    refine .region ?_
    refine .move ?_
    refine .move ?_
    refine .move ?_
    refine .assign ?_
    refine .assign ?_
    refine .assign ?_
    refine .assign ?_
    refine .nil ?_
    cases h
    exact .ret (fin_gen0 (some (.row 9023 0)))
  · replace h := (if_neg (nt hc53)).symm.trans h
    refine .seq ?_
    refine .region ?_
    refine .move ?_
    refine .lenL (f := (PV.int .u8)) ?_
    refine .val ?_
    refine .assign ?_
    refine .nil ?_
    refine .cond (fun hc54 => ?_) (fun hc54 => ?_)
    · replace h := (if_pos hc54).symm.trans h
      refine .seq ?_
      refine .region ?_
      refine .move ?_
      refine .move ?_
      refine .move ?_
      refine .assign ?_
      refine .assign ?_
      refine .assign ?_
      refine .assign ?_
      refine .nil ?_
      cases h
      exact .ret (fin_gen0 (some (.row 9023 0)))
    · replace h := (if_neg (nt hc54)).symm.trans h
      refine .skip ?_
      refine .seq ?_
      refine .region ?_
      refine .move ?_
      obtain ⟨y55, hy55, h⟩ := bindE h
      refine .cP (g32 hy55) ?_
      refine .move ?_
      refine .val ?_
      refine .val ?_
      refine .val ?_
      refine .assign ?_
      refine .assign ?_
      refine .assign ?_
      refine .nil ?_
      refine .seq ?_
      refine .region ?_
      refine .move ?_
      refine .val ?_
      refine .val ?_
      refine .assign ?_
      refine .nil ?_
      refine .seq ?_
      refine .block ?_
      refine .seq ?_
      refine .region ?_
      refine .move ?_
      refine .val ?_
      refine .assign ?_
      refine .nil ?_
      refine .cond (fun hc58 => ?_) (fun hc58 => ?_)
      · replace h := (if_pos hc58).symm.trans h
        refine .seq ?_
        refine .region ?_
        refine .move ?_
        refine .move ?_
        refine .move ?_
        refine .assign ?_
        refine .assign ?_
        refine .assign ?_
        refine .assign ?_
        refine .nil ?_
        cases h
        exact .ret (fin_gen0 (some (.row 9023 0)))
      · replace h := (if_neg (nt hc58)).symm.trans h
        refine .seq ?_
        refine .region ?_
        refine .move ?_
        refine .lenL (f := (PV.int .u8)) ?_
        refine .move ?_
        refine .val ?_
        refine .val ?_
        refine .assign ?_
        refine .nil ?_
        refine .cond (fun hc59 => ?_) (fun hc59 => ?_)
        · replace h := (if_pos hc59).symm.trans h
          refine .seq ?_
          refine .region ?_
          refine .move ?_
          refine .move ?_
          refine .move ?_
          refine .assign ?_
          refine .assign ?_
          refine .assign ?_
          refine .assign ?_
          refine .nil ?_
          cases h
          exact .ret (fin_gen0 (some (.row 9023 0)))
        · replace h := (if_neg (nt hc59)).symm.trans h
          refine .skip ?_
          refine .seq ?_
          refine .region ?_
          refine .move ?_
          refine .move ?_
          refine .move ?_
          obtain ⟨x60, hx60, h⟩ := bindE h
          refine .partL (f := (PV.int .u8)) hx60 ?_
          obtain ⟨y61, hy61, h⟩ := bindE h
          refine .cP (g84 hy61) ?_
          refine .assign ?_
          refine .nil ?_
          refine .seq ?_
          refine .seq ?_
          refine .region ?_
          refine .move ?_
          refine .move ?_
          obtain ⟨y64, hy64, h⟩ := bindE h
          refine .cP (g35 hy64) ?_
          refine .move ?_
          refine .val ?_
          refine .val ?_
          refine .val ?_
          refine .assign ?_
          refine .assign ?_
          refine .assign ?_
          refine .nil ?_
          refine .imp (T := St.of [(0, .sl 5 .ro (a0.map (PV.int .u8))), (2, .sl 22 (.own (.row 9023 0)) (v22.map pv22)), (3, .int .i64 v24), (4, .int .u64 v25), (6, .sl 5 .ro (x50.map (PV.int .u8))), (10, .int .i64 (w64 ((2 : Int) + (w64 (y55.1))))), (11, .int .u64 y61), (12, .int .u64 y64.1)] []) (imp_of (.cons rfl (.cons rfl (.cons rfl (.cons rfl (.cons rfl (.cons rfl (.cons rfl (.cons rfl (.nil))))))))) (.nil)) ?_
          refine .seq ?_
          refine .region ?_
          refine .move ?_
          refine .move ?_
          refine .val ?_
          refine .nil ?_
          refine .cond (fun hc65 => ?_) (fun hc65 => ?_)
          · replace h := (if_pos hc65).symm.trans h
            refine .seq ?_
            refine .region ?_
            refine .move ?_
            refine .move ?_
            refine .move ?_
            refine .assign ?_
            refine .assign ?_
            refine .assign ?_
            refine .assign ?_
            refine .nil ?_
            cases h
            exact .ret (fin_gen0 (some (.row 9023 0)))
          · replace h := (if_neg (nt hc65)).symm.trans h
            refine .skip ?_
            refine .seq ?_
            refine .region ?_
            refine .move ?_
            refine .move ?_
            refine .move ?_
            obtain ⟨x66, hx66, h⟩ := bindE h
            refine .partL (f := (PV.int .u8)) hx66 ?_
            obtain ⟨y67, hy67, h⟩ := bindE h
            refine .cP (g87r hy67) ?_
            refine .litR (f := pv22) ([y67] : List (List Int)) ?_
            obtain ⟨x68, hx68, h⟩ := bindE h
            refine .appL (f := pv22) hx68 ?_
            refine .assign ?_
            refine .nil ?_
            refine .region ?_
            refine .move ?_
            refine .move ?_
            refine .val ?_
            refine .val ?_
            refine .move ?_
            refine .assign ?_
            refine .assign ?_
            refine .nil ?_
            exact ⟨m49, _, Nat.lt_succ_self m49, ⟨_, _, _, rfl, h⟩, (Imp.trans (Imp.swap (.row 16 6) (.row 9023 0) rfl rfl rfl) (imp_of (.cons rfl (.cons rfl (.cons rfl (.cons rfl (.nil))))) (.nil)))⟩
theorem g82r {n : Nat} {a0 : (List Int)} {r : ((List (List Int)) × Int × Int × Int)} (h : f82 n a0 = some r) :
    Ab.Can Try.prog 82 [.sl 5 .ro (a0.map (PV.int .u8))] H0 (.tup [.sl 22 .ro (r.1.map pv22), .int .i64 r.2.1, .int .u64 r.2.2.1, .int .i64 r.2.2.2]) H0 := Can.frzR (hq := []) (g82 h)

/- soundservice/journal.Append -/
def f46 (n : Nat) (a0 : (List Int)) (a1 : (List Int)) : Option ((List Int) × Int) :=
  (f82 n a0).bind fun y1 =>
  if (y1.2.2.2 != (0 : Int)) then (
  some (([] : List Int), y1.2.2.2))
  else (
  joinK (fun (_ : Unit) =>
  some (([] : List Int), 3)) fun j9 =>
  joinK (fun (_ : Unit) =>
  if decide ((w64 ((w64 ((a0.length : Int) + (10 : Int))) + (a1.length : Int))) > (65536 : Int)) then (
  some (([] : List Int), 3))
  else (
  (f24 n ([] : List Int) (IntKind.wrap .u16 ((a1.length : Int)))).bind fun y13 =>
  (lApp y13 a1).bind fun x14 =>
  (f83 n ([a0, x14] : List (List Int))).bind fun y15 =>
  (f84 n y1.2.2.1 x14).bind fun y16 =>
  (f28 n y15 y16).bind fun y17 =>
  some (y17, 0))) fun j10 =>
  if decide ((a1.length : Int) > (4096 : Int)) then (
  j9 ())
  else (
  j10 ()))
set_option maxHeartbeats 4000000 in
set_option maxRecDepth 100000 in
theorem g46 {n : Nat} {a0 : (List Int)} {a1 : (List Int)} {r : ((List Int) × Int)} (h : f46 n a0 a1 = some r) :
    Ab.Can Try.prog 46 [.sl 5 .ro (a0.map (PV.int .u8)), .sl 5 .ro (a1.map (PV.int .u8))] H0 (.tup [.sl 5 (.own (.rrow 0)) (r.1.map (PV.int .u8)), .int .i64 r.2]) H0 := by
  refine can_of tabOK mix Try.call46 Try.func46 rfl (by kernel_rfl) (by show _ ≤ 49; simp) fun _ => ?_
  rw [f46] at h
  refine .seq ?_
  refine .region ?_
  refine .assign ?_
  refine .assign ?_
  refine .nil ?_
  refine .seq ?_
  refine .region ?_
  refine .move ?_
  obtain ⟨y1, hy1, h⟩ := bindE h
  refine .cP (g82r hy1) ?_
  refine .move ?_
  refine .val ?_
  refine .val ?_
  refine .val ?_
  refine .val ?_
  refine .assign ?_
  refine .assign ?_
  refine .assign ?_
  refine .assign ?_
  refine .nil ?_
  refine .seq ?_
  refine .block ?_
  refine .seq ?_
  refine .region ?_
  refine .move ?_
  refine .val ?_
  refine .assign ?_
  refine .nil ?_
  refine .cond (fun hc7 => ?_) (fun hc7 => ?_)
  · replace h := (if_pos hc7).symm.trans h
    refine .seq ?_
    refine .region ?_
    refine .move ?_
    refine .assign ?_
    refine .assign ?_
    refine .nil ?_
    cases h
    refine .imp (Imp.slot 4 (v := .sl 5 (.own (.row 0 0)) (([] : List Int).map (PV.int .u8))) (.own _ (.row 0 0)) rfl) ?_
    exact .ret (fin_gen0 (some (.row 0 0)))
  · replace h := (if_neg (nt hc7)).symm.trans h
    obtain ⟨j9, hj9, h⟩ := joinE h
    obtain ⟨j10, hj10, h⟩ := joinE h
    refine .cutI (fun T => (T = St.of [(0, .sl 5 .ro (a0.map (PV.int .u8))), (1, .sl 5 .ro (a1.map (PV.int .u8))), (8, .int .u64 y1.2.2.1), (22, .bool true)] [] ∧ j9 () = some r) ∨ (T = St.of [(0, .sl 5 .ro (a0.map (PV.int .u8))), (1, .sl 5 .ro (a1.map (PV.int .u8))), (8, .int .u64 y1.2.2.1), (22, .bool (decide ((w64 ((w64 ((a0.length : Int) + (10 : Int))) + (a1.length : Int))) > (65536 : Int))))] [] ∧ j10 () = some r)) ?_ ?_
    · refine .region ?_
      refine .move ?_
      refine .lenL (f := (PV.int .u8)) ?_
      refine .val ?_
      refine .move ?_
      refine .caseG (fun hc11 => ?_) (fun hc11 => ?_)
      · replace h := (if_pos hc11).symm.trans h
        refine .skip ?_
        refine .skip ?_
        refine .skip ?_
        refine .skip ?_
        refine .skip ?_
        refine .skip ?_
        refine .skip ?_
        refine .brT ?_
        refine .assign ?_
        refine .nil ?_
        exact ⟨_, (.inl ⟨rfl, h⟩), (imp_of (.cons rfl (.cons rfl (.cons rfl (.cons rfl (.nil))))) (.nil))⟩
      · replace h := (if_neg (nt hc11)).symm.trans h
        refine .move ?_
        refine .lenL (f := (PV.int .u8)) ?_
        refine .val ?_
        refine .move ?_
        refine .lenL (f := (PV.int .u8)) ?_
        refine .val ?_
        refine .val ?_
        refine .brF ?_
        refine .assign ?_
        refine .nil ?_
        exact ⟨_, (.inr (⟨rfl, h⟩)), (imp_of (.cons rfl (.cons rfl (.cons rfl (.cons rfl (.nil))))) (.nil))⟩
    · rintro T (⟨rfl, h⟩ | ⟨rfl, h⟩)
      · subst hj9
        refine .condT ?_
        refine .seq ?_
        refine .region ?_
        refine .assign ?_
        refine .assign ?_
        refine .nil ?_
        cases h
        refine .imp (Imp.slot 4 (v := .sl 5 (.own (.row 0 0)) (([] : List Int).map (PV.int .u8))) (.own _ (.row 0 0)) rfl) ?_
        exact .ret (fin_gen0 (some (.row 0 0)))
      · subst hj10
        refine .cond (fun hc12 => ?_) (fun hc12 => ?_)
        · replace h := (if_pos hc12).symm.trans h
          refine .seq ?_
          refine .region ?_
          refine .assign ?_
          refine .assign ?_
          refine .nil ?_
          cases h
          refine .imp (Imp.slot 4 (v := .sl 5 (.own (.row 0 0)) (([] : List Int).map (PV.int .u8))) (.own _ (.row 0 0)) rfl) ?_
          exact .ret (fin_gen0 (some (.row 0 0)))
        · replace h := (if_neg (nt hc12)).symm.trans h
          refine .skip ?_
          refine .seq ?_
          refine .region ?_
          refine .move ?_
          refine .lenL (f := (PV.int .u8)) ?_
          refine .val ?_
          obtain ⟨y13, hy13, h⟩ := bindE h
          refine .cO (.row 6 3) (g24 hy13) (u := .sl 5 (.own (.row 6 3)) (y13.map (PV.int .u8))) ?_
          refine .move ?_
          obtain ⟨x14, hx14, h⟩ := bindE h
          refine .appL (f := (PV.int .u8)) hx14 ?_
          refine .assign ?_
          refine .nil ?_
          refine .seq ?_
          refine .region ?_
          refine .move ?_
          refine .move ?_
          refine .freeze (.row 6 5) ?_
          refine .litR (f := pv22) ([a0, x14] : List (List Int)) ?_
          obtain ⟨y15, hy15, h⟩ := bindE h
          refine .cP (g83r hy15) ?_
          refine .move ?_
          refine .move ?_
          obtain ⟨y16, hy16, h⟩ := bindE h
          refine .cP (g84 hy16) ?_
          obtain ⟨y17, hy17, h⟩ := bindE h
          refine .cO (.row 7 7) (g28 hy17) (u := .sl 5 (.own (.row 7 7)) (y17.map (PV.int .u8))) ?_
          refine .assign ?_
          refine .assign ?_
          refine .nil ?_
          cases h
          exact .ret (fin_gen0 (some (.row 7 7)))
theorem g46r {n : Nat} {a0 : (List Int)} {a1 : (List Int)} {r : ((List Int) × Int)} (h : f46 n a0 a1 = some r) :
    Ab.Can Try.prog 46 [.sl 5 .ro (a0.map (PV.int .u8)), .sl 5 .ro (a1.map (PV.int .u8))] H0 (.tup [.sl 5 .ro (r.1.map (PV.int .u8)), .int .i64 r.2]) H0 := Can.frzR (hq := []) (g46 h)

/- soundservice/journal.Read -/
def f48 (n : Nat) (a0 : (List Int)) : Option ((List (List Int)) × Int × Int) :=
  (f82 n a0).bind fun y1 =>
  some (y1.1, y1.2.1, y1.2.2.2)
set_option maxHeartbeats 4000000 in
set_option maxRecDepth 100000 in
theorem g48 {n : Nat} {a0 : (List Int)} {r : ((List (List Int)) × Int × Int)} (h : f48 n a0 = some r) :
    Ab.Can Try.prog 48 [.sl 5 .ro (a0.map (PV.int .u8))] H0 (.tup [.sl 22 (.own (.rrow 0)) (r.1.map pv22), .int .i64 r.2.1, .int .i64 r.2.2]) H0 := by
  refine can_of tabOK mix Try.call48 Try.func48 rfl (by kernel_rfl) (by show _ ≤ 19; simp) fun _ => ?_
  rw [f48] at h
  refine .seq ?_
  refine .region ?_
  refine .assign ?_
  refine .assign ?_
  refine .assign ?_
  refine .nil ?_
  refine .seq ?_
  refine .region ?_
  refine .move ?_
  obtain ⟨y1, hy1, h⟩ := bindE h
  refine .cO (.row 1 1) (g82 hy1) (u := .tup [.sl 22 (.own (.row 1 1)) (y1.1.map pv22), .int .i64 y1.2.1, .int .u64 y1.2.2.1, .int .i64 y1.2.2.2]) ?_
  refine .move ?_
  refine .val ?_
  refine .val ?_
  refine .val ?_
  refine .val ?_
  refine .assign ?_
  refine .assign ?_
  refine .assign ?_
  refine .assign ?_
  refine .nil ?_
  refine .seq ?_
  refine .region ?_
  refine .move ?_
  refine .move ?_
  refine .move ?_
  refine .assign ?_
  refine .assign ?_
  refine .assign ?_
  refine .nil ?_
  cases h
  exact .ret (fin_gen0 (some (.row 1 1)))
theorem g48r {n : Nat} {a0 : (List Int)} {r : ((List (List Int)) × Int × Int)} (h : f48 n a0 = some r) :
    Ab.Can Try.prog 48 [.sl 5 .ro (a0.map (PV.int .u8))] H0 (.tup [.sl 22 .ro (r.1.map pv22), .int .i64 r.2.1, .int .i64 r.2.2]) H0 := Can.frzR (hq := []) (g48 h)

/- soundservice/soundservicelaw40.sane -/
def f43 (n : Nat)  : Option Bool :=
  (f46 n ([] : List Int) ([] : List Int)).bind fun y1 =>
  (f48 n y1.1).bind fun y2 =>
  if (y1.2 == (0 : Int)) then (
  if ((y1.1.length : Int) == (10 : Int)) then (
  if (y2.2.2 == (0 : Int)) then (
  if (y2.2.1 == (10 : Int)) then (
  if ((y2.1.length : Int) == (1 : Int)) then (
  (lAt y2.1 (0 : Int)).bind fun x14 =>
  some ((x14.length : Int) == (0 : Int)))
  else (
  some false))
  else (
  some false))
  else (
  some false))
  else (
  some false))
  else (
  some false)
set_option maxHeartbeats 4000000 in
set_option maxRecDepth 100000 in
theorem g43 {n : Nat}  {r : Bool} (h : f43 n  = some r) :
    Ab.Can Try.prog 43 [] H0 (.bool r) H0 := by
  refine can_of tabOK mix Try.call43 Try.func43 rfl (by kernel_rfl) (by show _ ≤ 43; simp) fun _ => ?_
  rw [f43] at h
  refine .seq ?_
  refine .region ?_
  refine .assign ?_
  refine .nil ?_
  refine .seq ?_
  refine .region ?_
  obtain ⟨y1, hy1, h⟩ := bindE h
  refine .cP (g46r hy1) ?_
  refine .move ?_
  refine .val ?_
  refine .val ?_
  refine .assign ?_
  refine .assign ?_
  refine .nil ?_
  refine .seq ?_
  refine .region ?_
  refine .move ?_
  obtain ⟨y2, hy2, h⟩ := bindE h
  refine .cP (g48r hy2) ?_
  refine .move ?_
  refine .val ?_
  refine .val ?_
  refine .val ?_
  refine .assign ?_
  refine .assign ?_
  refine .assign ?_
  refine .nil ?_
  refine .seq ?_
  refine .region ?_
  refine .move ?_
  refine .val ?_
  refine .move ?_
  refine .caseG (fun hc9 => ?_) (fun hc9 => ?_)
  · replace h := (if_pos hc9).symm.trans h
    refine .move ?_
    refine .lenL (f := (PV.int .u8)) ?_
    refine .val ?_
    refine .brT ?_
    refine .move ?_
    refine .caseG (fun hc10 => ?_) (fun hc10 => ?_)
    · replace h := (if_pos hc10).symm.trans h
      refine .move ?_
      refine .val ?_
      refine .brT ?_
      refine .move ?_
      refine .caseG (fun hc11 => ?_) (fun hc11 => ?_)
      · replace h := (if_pos hc11).symm.trans h
        refine .move ?_
        refine .val ?_
        refine .brT ?_
        refine .move ?_
        refine .caseG (fun hc12 => ?_) (fun hc12 => ?_)
        · replace h := (if_pos hc12).symm.trans h
          refine .move ?_
          refine .lenL (f := pv22) ?_
          refine .val ?_
          refine .brT ?_
          refine .move ?_
          refine .caseG (fun hc13 => ?_) (fun hc13 => ?_)
          · replace h := (if_pos hc13).symm.trans h
            refine .move ?_
            obtain ⟨x14, hx14, h⟩ := bindE h
            refine .idxL (f := pv22) hx14 ?_
            refine .ldL hx14 (y := .sl 5 .ro (x14.map (PV.int .u8))) ?_
            refine .lenL (f := (PV.int .u8)) ?_
            refine .val ?_
            refine .brT ?_
            refine .assign ?_
            refine .nil ?_
            cases h
            exact .ret (fin_gen0 none)
          · replace h := (if_neg (nt hc13)).symm.trans h
            refine .skip ?_
            refine .skip ?_
            refine .skip ?_
            refine .skip ?_
            refine .skip ?_
            refine .brF ?_
            refine .assign ?_
            refine .nil ?_
            cases h
            exact .ret (fin_gen0 none)
        · replace h := (if_neg (nt hc12)).symm.trans h
          refine .skip ?_
          refine .skip ?_
          refine .skip ?_
          refine .brF ?_
          refine .move ?_
          refine .skip ?_
          refine .skip ?_
          refine .skip ?_
          refine .skip ?_
          refine .skip ?_
          refine .brF ?_
          refine .assign ?_
          refine .nil ?_
          cases h
          exact .ret (fin_gen0 none)
      · replace h := (if_neg (nt hc11)).symm.trans h
        refine .skip ?_
        refine .skip ?_
        refine .brF ?_
        refine .move ?_
        refine .skip ?_
        refine .skip ?_
        refine .skip ?_
        refine .brF ?_
        refine .move ?_
        refine .skip ?_
        refine .skip ?_
        refine .skip ?_
        refine .skip ?_
        refine .skip ?_
        refine .brF ?_
        refine .assign ?_
        refine .nil ?_
        cases h
        exact .ret (fin_gen0 none)
    · replace h := (if_neg (nt hc10)).symm.trans h
      refine .skip ?_
      refine .skip ?_
      refine .brF ?_
      refine .move ?_
      refine .skip ?_
      refine .skip ?_
      refine .brF ?_
      refine .move ?_
      refine .skip ?_
      refine .skip ?_
      refine .skip ?_
      refine .brF ?_
      refine .move ?_
      refine .skip ?_
      refine .skip ?_
      refine .skip ?_
      refine .skip ?_
      refine .skip ?_
      refine .brF ?_
      refine .assign ?_
      refine .nil ?_
      cases h
      exact .ret (fin_gen0 none)
  · replace h := (if_neg (nt hc9)).symm.trans h
    refine .skip ?_
    refine .skip ?_
    refine .skip ?_
    refine .brF ?_
    refine .move ?_
    refine .skip ?_
    refine .skip ?_
    refine .brF ?_
    refine .move ?_
    refine .skip ?_
    refine .skip ?_
    refine .brF ?_
    refine .move ?_
    refine .skip ?_
    refine .skip ?_
    refine .skip ?_
    refine .brF ?_
    refine .move ?_
    refine .skip ?_
    refine .skip ?_
    refine .skip ?_
    refine .skip ?_
    refine .skip ?_
    refine .brF ?_
    refine .assign ?_
    refine .nil ?_
    cases h
    exact .ret (fin_gen0 none)

/- soundservice/soundserviceref40.hash -/
def f86 (n : Nat) (a0 : Int) (a1 : (List Int)) : Option Int :=
  (f29 n ([] : List Int) a0).bind fun y1 =>
  (f25 n y1 (IntKind.wrap .u16 ((a1.length : Int)))).bind fun y2 =>
  (lApp y2 a1).bind fun x3 =>
  (f21 n x3).bind fun y4 =>
  some y4
set_option maxHeartbeats 4000000 in
set_option maxRecDepth 100000 in
theorem g86 {n : Nat} {a0 : Int} {a1 : (List Int)} {r : Int} (h : f86 n a0 a1 = some r) :
    Ab.Can Try.prog 86 [.int .u64 a0, .sl 5 .ro (a1.map (PV.int .u8))] H0 (.int .u64 r) H0 := by
  refine can_of tabOK mix Try.call86 Try.func86 rfl (by kernel_rfl) (by show _ ≤ 16; simp) fun _ => ?_
  rw [f86] at h
  refine .seq ?_
  refine .region ?_
  refine .assign ?_
  refine .nil ?_
  refine .seq ?_
  refine .region ?_
  refine .move ?_
  obtain ⟨y1, hy1, h⟩ := bindE h
  refine .cP (g29r hy1) ?_
  refine .move ?_
  refine .lenL (f := (PV.int .u8)) ?_
  refine .val ?_
  obtain ⟨y2, hy2, h⟩ := bindE h
  refine .cO (.row 1 5) (g25 hy2) (u := .sl 5 (.own (.row 1 5)) (y2.map (PV.int .u8))) ?_
  refine .assign ?_
  refine .nil ?_
  refine .seq ?_
  refine .region ?_
  refine .move ?_
  refine .move ?_
  obtain ⟨x3, hx3, h⟩ := bindE h
  refine .appL (f := (PV.int .u8)) hx3 ?_
  obtain ⟨y4, hy4, h⟩ := bindE h
  refine .freeze (.row 2 2) ?_
  refine .cP (g21 hy4) ?_
  refine .assign ?_
  refine .nil ?_
  cases h
  exact .ret (fin_gen0 none)

/- soundservice/soundserviceref40.all -/
def f85_l1 (n : Nat) (a0 : (List Int)) (j72 : (List (List Int)) → Int → Int → Option ((List (List Int)) × Int × Int × Int)) : Nat → (List (List Int)) → Int → Int → Option ((List (List Int)) × Int × Int × Int)
  | 0, _, _, _ => none
  | m121 + 1, v94, v96, v97 =>
    if decide (v96 < (a0.length : Int)) then (
    (lPart a0 v96 (a0.length : Int)).bind fun x124 =>
    if decide ((x124.length : Int) < (10 : Int)) then (
    some (v94, v96, v97, 4))
    else (
    (f33 n x124 (0 : Int)).bind fun y127 =>
    if decide ((w64 (y127.1)) > (4096 : Int)) then (
    some (v94, v96, v97, 3))
    else (
    if decide ((x124.length : Int) < (w64 ((w64 (y127.1)) + (10 : Int)))) then (
    some (v94, v96, v97, 4))
    else (
    (lPart x124 (2 : Int) (w64 ((2 : Int) + (w64 (y127.1))))).bind fun x132 =>
    (f36 n x124 (w64 ((2 : Int) + (w64 (y127.1))))).bind fun y133 =>
    (f86 n v97 x132).bind fun y136 =>
    if (y133.1 != y136) then (
    some (v94, v96, v97, 6))
    else (
    (lApp ([] : List Int) x132).bind fun x139 =>
    (lApp v94 ([x139] : List (List Int))).bind fun x140 =>
    f85_l1 n a0 j72 m121 x140 (w64 ((w64 (v96 + (w64 (y127.1)))) + (10 : Int))) y133.1)))))
    else (
    j72 v94 v96 v97)
def f85 (n : Nat) (a0 : (List Int)) : Option ((List (List Int)) × Int × Int × Int) :=
  joinK (fun (v68 : (List (List Int))) (v70 : Int) (v71 : Int) =>
  some (v68, v70, v71, 0)) fun j72 =>
  f85_l1 n a0 j72 n ([] : List (List Int)) 0 0
set_option maxHeartbeats 4000000 in
set_option maxRecDepth 100000 in
theorem g85 {n : Nat} {a0 : (List Int)} {r : ((List (List Int)) × Int × Int × Int)} (h : f85 n a0 = some r) :
    Ab.Can Try.prog 85 [.sl 5 .ro (a0.map (PV.int .u8))] H0 (.tup [.sl 22 (.own (.rrow 0)) (r.1.map pv22), .int .i64 r.2.1, .int .u64 r.2.2.1, .int .i64 r.2.2.2]) H0 := by
  refine can_of tabOK mix Try.call85 Try.func85 rfl (by kernel_rfl) (by show _ ≤ 88; simp) fun _ => ?_
  rw [f85] at h
  refine .seq ?_
  refine .region ?_
  refine .assign ?_
  refine .assign ?_
  refine .assign ?_
  refine .assign ?_
  refine .nil ?_
  refine .seq ?_
  refine .region ?_
  refine .assign ?_
  refine .nil ?_
  refine .seq ?_
  refine .region ?_
  refine .assign ?_
  refine .assign ?_
  refine .nil ?_
  obtain ⟨j72, hj72, h⟩ := joinE h
  refine .cutI (fun T => (∃ (v68 : (List (List Int))) (v70 : Int) (v71 : Int), T = St.of [(6, .sl 22 (.own (.row 9069 0)) (v68.map pv22)), (7, .int .i64 v70), (8, .int .u64 v71)] [] ∧ j72 v68 v70 v71 = some r)) ?_ ?_
  · refine .block ?_
    refine .loopI (fun m T => ∃ (v94 : (List (List Int))) (v96 : Int) (v97 : Int), T = St.of [(0, .sl 5 .ro (a0.map (PV.int .u8))), (6, .sl 22 (.own (.row 9095 0)) (v94.map pv22)), (7, .int .i64 v96), (8, .int .u64 v97)] [] ∧ f85_l1 n a0 j72 m v94 v96 v97 = some r) _ _ ⟨_, _, _, rfl, h⟩ (imp_of (.cons rfl (.wk (.own _ _) rfl (.cons rfl (.cons rfl (.nil))))) (.nil)) ?_
    rintro m121 T ⟨v94, v96, v97, rfl, h⟩
    obtain _ | m121 := m121
    · rw [f85_l1] at h; cases h
    rw [f85_l1] at h
    refine .seq ?_
    refine .seq ?_
    refine .region ?_
    refine .move ?_
    refine .move ?_
    refine .lenL (f := (PV.int .u8)) ?_
    refine .val ?_
    refine .nil ?_
    refine .cond (fun hc123 => ?_) (fun hc123 => ?_)
    · replace h := (if_pos hc123).symm.trans h
      refine .skip ?_
      refine .block ?_
      refine .seq ?_
      refine .region ?_
      refine .move ?_
      refine .move ?_
      obtain ⟨x124, hx124, h⟩ := bindE h
      refine .partE (f := (PV.int .u8)) hx124 ?_
      refine .assign ?_
      refine .nil ?_
      refine .seq ?_
      refine .seq ?_
      refine .region ?_
      refine .move ?_
      refine .lenL (f := (PV.int .u8)) ?_
      refine .val ?_
      refine .nil ?_
      refine .cond (fun hc126 => ?_) (fun hc126 => ?_)
      · replace h := (if_pos hc126).symm.trans h
        refine .seq ?_
        refine .region ?_
        refine .move ?_
        refine .move ?_
        refine .move ?_
        refine .assign ?_
        refine .assign ?_
        refine .assign ?_
        refine .assign ?_
        refine .nil ?_
        cases h
        exact .ret (fin_gen0 (some (.row 9095 0)))
      · replace h := (if_neg (nt hc126)).symm.trans h
        refine .skip ?_
        refine .seq ?_
        refine .region ?_
        refine .move ?_
        obtain ⟨y127, hy127, h⟩ := bindE h
        refine .cP (g33 hy127) ?_
        refine .move ?_
        refine .val ?_
        refine .val ?_
        refine .val ?_
        refine .assign ?_
        refine .assign ?_
        refine .assign ?_
        refine .nil ?_
        refine .seq ?_
        refine .seq ?_
        refine .region ?_
        refine .move ?_
        refine .val ?_
        refine .val ?_
        refine .nil ?_
        refine .cond (fun hc129 => ?_) (fun hc129 => ?_)
        · replace h := (if_pos hc129).symm.trans h
          refine .seq ?_
          refine .region ?_
          refine .move ?_
          refine .move ?_
          refine .move ?_
          refine .assign ?_
          refine .assign ?_
          refine .assign ?_
          refine .assign ?_
          refine .nil ?_
          cases h
          exact .ret (fin_gen0 (some (.row 9095 0)))
        · replace h := (if_neg (nt hc129)).symm.trans h
          refine .skip ?_
          refine .seq ?_
          refine .seq ?_
          refine .region ?_
          refine .move ?_
          refine .lenL (f := (PV.int .u8)) ?_
          refine .move ?_
          refine .val ?_
          refine .val ?_
          refine .val ?_
          refine .nil ?_
          refine .cond (fun hc131 => ?_) (fun hc131 => ?_)
          · replace h := (if_pos hc131).symm.trans h
            refine .seq ?_
            refine .region ?_
            refine .move ?_
            refine .move ?_
            refine .move ?_
            refine .assign ?_
            refine .assign ?_
            refine .assign ?_
            refine .assign ?_
            refine .nil ?_
            cases h
            exact .ret (fin_gen0 (some (.row 9095 0)))
          · replace h := (if_neg (nt hc131)).symm.trans h
            refine .skip ?_
            refine .seq ?_
            refine .region ?_
            refine .move ?_
            refine .move ?_
            refine .val ?_
            refine .val ?_
            obtain ⟨x132, hx132, h⟩ := bindE h
            refine .partL (f := (PV.int .u8)) hx132 ?_
            refine .assign ?_
            refine .nil ?_
            refine .seq ?_
            refine .region ?_
            refine .move ?_
            refine .move ?_
            refine .val ?_
            refine .val ?_
            obtain ⟨y133, hy133, h⟩ := bindE h
            refine .cP (g36 hy133) ?_
            refine .move ?_
            refine .val ?_
            refine .val ?_
            refine .val ?_
            refine .assign ?_
            refine .assign ?_
            refine .assign ?_
            refine .nil ?_
            refine .imp (T := St.of [(0, .sl 5 .ro (a0.map (PV.int .u8))), (6, .sl 22 (.own (.row 9095 0)) (v94.map pv22)), (7, .int .i64 v96), (8, .int .u64 v97), (10, .int .u16 y127.1), (13, .sl 5 .ro (x132.map (PV.int .u8))), (14, .int .u64 y133.1)] []) (imp_of (.cons rfl (.cons rfl (.cons rfl (.cons rfl (.cons rfl (.cons rfl (.cons rfl (.nil)))))))) (.nil)) ?_
            refine .seq ?_
            refine .seq ?_
            refine .region ?_
            refine .move ?_
            refine .move ?_
            refine .move ?_
            obtain ⟨y136, hy136, h⟩ := bindE h
            refine .cP (g86 hy136) ?_
            refine .val ?_
            refine .nil ?_
            refine .cond (fun hc137 => ?_) (fun hc137 => ?_)
            · replace h := (if_pos hc137).symm.trans h
              refine .seq ?_
              refine .region ?_
              refine .move ?_
              refine .move ?_
              refine .move ?_
              refine .assign ?_
              refine .assign ?_
              refine .assign ?_
              refine .assign ?_
              refine .nil ?_
              cases h
              exact .ret (fin_gen0 (some (.row 9095 0)))
            · replace h := (if_neg (nt hc137)).symm.trans h
              refine .skip ?_
              refine .region ?_
              refine .move ?_
              refine .litE (.row 8138 0) ?_
              refine .move ?_
              obtain ⟨x139, hx139, h⟩ := bindE h
              refine .appL (f := (PV.int .u8)) hx139 ?_
              refine .freeze (.row 16 3) ?_
              refine .litR (f := pv22) ([x139] : List (List Int)) ?_
              obtain ⟨x140, hx140, h⟩ := bindE h
              refine .appL (f := pv22) hx140 ?_
              refine .move ?_
              refine .move ?_
              refine .val ?_
              refine .val ?_
              refine .val ?_
              refine .move ?_
              refine .assign ?_
              refine .assign ?_
              refine .assign ?_
              refine .nil ?_
              exact ⟨m121, _, Nat.lt_succ_self m121, ⟨_, _, _, rfl, h⟩, (Imp.trans (Imp.swap (.row 16 5) (.row 9095 0) rfl rfl rfl) (imp_of (.cons rfl (.cons rfl (.cons rfl (.cons rfl (.nil))))) (.nil)))⟩
    · replace h := (if_neg (nt hc123)).symm.trans h
      refine .exit (.hit ?_)
      exact ⟨_, ⟨_, _, _, rfl, h⟩, (Imp.trans (Imp.swap (.row 9095 0) (.row 9069 0) rfl rfl rfl) (imp_of (.cons rfl (.cons rfl (.cons rfl (.nil)))) (.nil)))⟩
  · rintro T ⟨v68, v70, v71, rfl, h⟩
    subst hj72
    refine .seq ?_
    refine .region ?_
    refine .move ?_
    refine .move ?_
    refine .move ?_
    refine .assign ?_
    refine .assign ?_
    refine .assign ?_
    refine .assign ?_
    refine .nil ?_
    cases h
    exact .ret (fin_gen0 (some (.row 9069 0)))
theorem g85r {n : Nat} {a0 : (List Int)} {r : ((List (List Int)) × Int × Int × Int)} (h : f85 n a0 = some r) :
    Ab.Can Try.prog 85 [.sl 5 .ro (a0.map (PV.int .u8))] H0 (.tup [.sl 22 .ro (r.1.map pv22), .int .i64 r.2.1, .int .u64 r.2.2.1, .int .i64 r.2.2.2]) H0 := Can.frzR (hq := []) (g85 h)

/- soundservice/soundserviceref40.Append -/
def f47 (n : Nat) (a0 : (List Int)) (a1 : (List Int)) : Option ((List Int) × Int) :=
  (f85 n a0).bind fun y1 =>
  if (y1.2.2.2 != (0 : Int)) then (
  some (([] : List Int), y1.2.2.2))
  else (
  joinK (fun (_ : Unit) =>
  some (([] : List Int), 3)) fun j9 =>
  joinK (fun (_ : Unit) =>
  if decide ((w64 ((w64 ((a0.length : Int) + (a1.length : Int))) + (10 : Int))) > (65536 : Int)) then (
  some (([] : List Int), 3))
  else (
  (lApp ([] : List Int) a0).bind fun x14 =>
  (f25 n x14 (IntKind.wrap .u16 ((a1.length : Int)))).bind fun y15 =>
  (lApp y15 a1).bind fun x16 =>
  (f86 n y1.2.2.1 a1).bind fun y17 =>
  (f29 n x16 y17).bind fun y18 =>
  some (y18, 0))) fun j10 =>
  if decide ((a1.length : Int) > (4096 : Int)) then (
  j9 ())
  else (
  j10 ()))
set_option maxHeartbeats 4000000 in
set_option maxRecDepth 100000 in
theorem g47 {n : Nat} {a0 : (List Int)} {a1 : (List Int)} {r : ((List Int) × Int)} (h : f47 n a0 a1 = some r) :
    Ab.Can Try.prog 47 [.sl 5 .ro (a0.map (PV.int .u8)), .sl 5 .ro (a1.map (PV.int .u8))] H0 (.tup [.sl 5 (.own (.rrow 0)) (r.1.map (PV.int .u8)), .int .i64 r.2]) H0 := by
  refine can_of tabOK mix Try.call47 Try.func47 rfl (by kernel_rfl) (by show _ ≤ 47; simp) fun _ => ?_
  rw [f47] at h
  refine .seq ?_
  refine .region ?_
  refine .assign ?_
  refine .assign ?_
  refine .nil ?_
  refine .seq ?_
  refine .region ?_
  refine .move ?_
  obtain ⟨y1, hy1, h⟩ := bindE h
  refine .cP (g85r hy1) ?_
  refine .move ?_
  refine .val ?_
  refine .val ?_
  refine .val ?_
  refine .val ?_
  refine .assign ?_
  refine .assign ?_
  refine .assign ?_
  refine .assign ?_
  refine .nil ?_
  refine .seq ?_
  refine .seq ?_
  refine .region ?_
  refine .move ?_
  refine .val ?_
  refine .nil ?_
  refine .cond (fun hc3 => ?_) (fun hc3 => ?_)
  · replace h := (if_pos hc3).symm.trans h
    refine .seq ?_
    refine .region ?_
    refine .move ?_
    refine .assign ?_
    refine .assign ?_
    refine .nil ?_
    cases h
    refine .imp (Imp.slot 4 (v := .sl 5 (.own (.row 0 0)) (([] : List Int).map (PV.int .u8))) (.own _ (.row 0 0)) rfl) ?_
    exact .ret (fin_gen0 (some (.row 0 0)))
  · replace h := (if_neg (nt hc3)).symm.trans h
    refine .skip ?_
    refine .seq ?_
    obtain ⟨j9, hj9, h⟩ := joinE h
    obtain ⟨j10, hj10, h⟩ := joinE h
    refine .cutI (fun T => (T = St.of [(0, .sl 5 .ro (a0.map (PV.int .u8))), (1, .sl 5 .ro (a1.map (PV.int .u8))), (8, .int .u64 y1.2.2.1), (32, .bool true)] [] ∧ j9 () = some r) ∨ (T = St.of [(0, .sl 5 .ro (a0.map (PV.int .u8))), (1, .sl 5 .ro (a1.map (PV.int .u8))), (8, .int .u64 y1.2.2.1), (32, .bool (decide ((w64 ((w64 ((a0.length : Int) + (a1.length : Int))) + (10 : Int))) > (65536 : Int))))] [] ∧ j10 () = some r)) ?_ ?_
    · refine .region ?_
      refine .move ?_
      refine .lenL (f := (PV.int .u8)) ?_
      refine .val ?_
      refine .move ?_
      refine .caseG (fun hc11 => ?_) (fun hc11 => ?_)
      · replace h := (if_pos hc11).symm.trans h
        refine .skip ?_
        refine .skip ?_
        refine .skip ?_
        refine .skip ?_
        refine .skip ?_
        refine .skip ?_
        refine .skip ?_
        refine .brT ?_
        refine .nil ?_
        exact ⟨_, (.inl ⟨rfl, h⟩), (imp_of (.cons rfl (.cons rfl (.cons rfl (.cons rfl (.nil))))) (.nil))⟩
      · replace h := (if_neg (nt hc11)).symm.trans h
        refine .move ?_
        refine .lenL (f := (PV.int .u8)) ?_
        refine .move ?_
        refine .lenL (f := (PV.int .u8)) ?_
        refine .val ?_
        refine .val ?_
        refine .val ?_
        refine .brF ?_
        refine .nil ?_
        exact ⟨_, (.inr (⟨rfl, h⟩)), (imp_of (.cons rfl (.cons rfl (.cons rfl (.cons rfl (.nil))))) (.nil))⟩
    · rintro T (⟨rfl, h⟩ | ⟨rfl, h⟩)
      · subst hj9
        refine .condT ?_
        refine .seq ?_
        refine .region ?_
        refine .assign ?_
        refine .assign ?_
        refine .nil ?_
        cases h
        refine .imp (Imp.slot 4 (v := .sl 5 (.own (.row 0 0)) (([] : List Int).map (PV.int .u8))) (.own _ (.row 0 0)) rfl) ?_
        exact .ret (fin_gen0 (some (.row 0 0)))
      · subst hj10
        refine .cond (fun hc12 => ?_) (fun hc12 => ?_)
        · replace h := (if_pos hc12).symm.trans h
          refine .seq ?_
          refine .region ?_
          refine .assign ?_
          refine .assign ?_
          refine .nil ?_
          cases h
          refine .imp (Imp.slot 4 (v := .sl 5 (.own (.row 0 0)) (([] : List Int).map (PV.int .u8))) (.own _ (.row 0 0)) rfl) ?_
          exact .ret (fin_gen0 (some (.row 0 0)))
        · replace h := (if_neg (nt hc12)).symm.trans h
          refine .skip ?_
          refine .seq ?_
          refine .region ?_
          refine .litE (.row 8013 0) ?_
          refine .move ?_
          obtain ⟨x14, hx14, h⟩ := bindE h
          refine .appL (f := (PV.int .u8)) hx14 ?_
          refine .move ?_
          refine .lenL (f := (PV.int .u8)) ?_
          refine .val ?_
          obtain ⟨y15, hy15, h⟩ := bindE h
          refine .freeze (.row 6 2) ?_
          refine .cO (.row 6 6) (g25 hy15) (u := .sl 5 (.own (.row 6 6)) (y15.map (PV.int .u8))) ?_
          refine .assign ?_
          refine .nil ?_
          refine .seq ?_
          refine .region ?_
          refine .move ?_
          refine .move ?_
          obtain ⟨x16, hx16, h⟩ := bindE h
          refine .appL (f := (PV.int .u8)) hx16 ?_
          refine .move ?_
          refine .move ?_
          obtain ⟨y17, hy17, h⟩ := bindE h
          refine .cP (g86 hy17) ?_
          obtain ⟨y18, hy18, h⟩ := bindE h
          refine .freeze (.row 7 2) ?_
          refine .cO (.row 7 6) (g29 hy18) (u := .sl 5 (.own (.row 7 6)) (y18.map (PV.int .u8))) ?_
          refine .assign ?_
          refine .assign ?_
          refine .nil ?_
          cases h
          exact .ret (fin_gen0 (some (.row 7 6)))
theorem g47r {n : Nat} {a0 : (List Int)} {a1 : (List Int)} {r : ((List Int) × Int)} (h : f47 n a0 a1 = some r) :
    Ab.Can Try.prog 47 [.sl 5 .ro (a0.map (PV.int .u8)), .sl 5 .ro (a1.map (PV.int .u8))] H0 (.tup [.sl 5 .ro (r.1.map (PV.int .u8)), .int .i64 r.2]) H0 := Can.frzR (hq := []) (g47 h)

/- soundservice/soundservicelaw40.made -/
def f44_l2 (n : Nat) (j348 : (List Int) → Int → (List Int) → Option ((List (List Int)) × (List Int))) : Nat → (List Int) → Int → (List Int) → Int → Option ((List (List Int)) × (List Int))
  | 0, _, _, _, _ => none
  | m374 + 1, v358, v359, v360, v362 =>
    if decide (v362 > (0 : Int)) then (
    (f81 n (⟨v358, v359⟩ : Deck) (256 : Int)).bind fun y379 =>
    (lApp v360 ([IntKind.wrap .u8 (y379.1)] : List Int)).bind fun x380 =>
    f44_l2 n j348 m374 y379.2.L y379.2.At x380 (w64 (v362 - (1 : Int))))
    else (
    j348 v358 v359 v360)
def f44_l1 (n : Nat) (j158 : (List (List Int)) → (List Int) → Option ((List (List Int)) × (List Int))) : Nat → (List Int) → Int → (List (List Int)) → (List Int) → Int → Option ((List (List Int)) × (List Int))
  | 0, _, _, _, _, _ => none
  | m266 + 1, v208, v209, v210, v212, v213 =>
    if decide (v213 > (0 : Int)) then (
    joinK (fun (v307 : (List Int)) (v308 : Int) (v309 : (List (List Int))) (v311 : (List Int)) =>
    f44_l1 n j158 m266 v307 v308 v309 v311 (w64 (v213 - (1 : Int)))) fun j312 =>
    joinK (fun (v344 : (List Int)) (v345 : Int) (v346 : (List Int)) =>
    (f47 n v212 v346).bind fun y381 =>
    (lApp v210 ([v346] : List (List Int))).bind fun x382 =>
    j312 v344 v345 x382 y381.1) fun j348 =>
    (f81 n (⟨v208, v209⟩ : Deck) (20 : Int)).bind fun y349 =>
    f44_l2 n j348 n y349.2.L y349.2.At ([] : List Int) y349.1)
    else (
    j158 v210 v212)
def f44 (n : Nat) (a0 : (List Int)) : Option ((List (List Int)) × (List Int)) :=
  (f80 n a0).bind fun y1 =>
  joinK (fun (v155 : (List (List Int))) (v157 : (List Int)) =>
  some (v155, v157)) fun j158 =>
  (f81 n (⟨y1.L, y1.At⟩ : Deck) (6 : Int)).bind fun y159 =>
  f44_l1 n j158 n y159.2.L y159.2.At ([] : List (List Int)) ([] : List Int) y159.1
set_option maxHeartbeats 4000000 in
set_option maxRecDepth 100000 in
theorem g44 {n : Nat} {a0 : (List Int)} {r : ((List (List Int)) × (List Int))} (h : f44 n a0 = some r) :
    Ab.Can Try.prog 44 [.sl 3 .ro (a0.map (PV.int .i64))] H0 (.tup [.sl 22 (.own (.rrow 0)) (r.1.map pv22), .sl 5 .ro (r.2.map (PV.int .u8))]) H0 := by
  refine can_of tabOK mix Try.call44 Try.func44 rfl (by kernel_rfl) (by show _ ≤ 42; simp) fun _ => ?_
  rw [f44] at h
  refine .seq ?_
  refine .region ?_
  refine .assign ?_
  refine .assign ?_
  refine .nil ?_
  refine .seq ?_
  refine .region ?_
  refine .move ?_
  obtain ⟨y1, hy1, h⟩ := bindE h
  refine .cB (.loc 1 1) (g80 hy1) ?_
  refine .assign ?_
  refine .nil ?_
  refine .seq ?_
  refine .region ?_
  refine .assign ?_
  refine .nil ?_
  refine .seq ?_
  refine .region ?_
  refine .assign ?_
  refine .nil ?_
  obtain ⟨j158, hj158, h⟩ := joinE h
  refine .cutI (fun T => (∃ (v155 : (List (List Int))) (v157 : (List Int)), T = St.of [(5, .sl 22 (.own (.row 9156 0)) (v155.map pv22)), (6, .sl 5 .ro (v157.map (PV.int .u8)))] [] ∧ j158 v155 v157 = some r)) ?_ ?_
  · refine .seq ?_
    refine .region ?_
    refine .move ?_
    obtain ⟨y159, hy159, h⟩ := bindE h
    refine .cH (.loc 1 1) (g81 hy159) ?_
    refine .assign ?_
    refine .nil ?_
    refine .block ?_
    refine .loopI (fun m T => ∃ (v208 : (List Int)) (v209 : Int) (v210 : (List (List Int))) (v212 : (List Int)) (v213 : Int), T = St.of [(4, .ptr (.loc 1 1) 0), (5, .sl 22 (.own (.row 9211 0)) (v210.map pv22)), (6, .sl 5 .ro (v212.map (PV.int .u8))), (7, .int .i64 v213)] [((.loc 1 1), [.sl 3 .ro (v208.map (PV.int .i64)), .int .i64 v209])] ∧ f44_l1 n j158 m v208 v209 v210 v212 v213 = some r) _ _ ⟨_, _, _, _, _, rfl, h⟩ (imp_of (.cons rfl (.wk (.own _ _) rfl (.wk (.ro _ _) rfl (.cons rfl (.nil))))) (.cons rfl (.nil))) ?_
    rintro m266 T ⟨v208, v209, v210, v212, v213, rfl, h⟩
    obtain _ | m266 := m266
    · rw [f44_l1] at h; cases h
    rw [f44_l1] at h
    refine .seq ?_
    refine .seq ?_
    refine .region ?_
    refine .move ?_
    refine .val ?_
    refine .nil ?_
    refine .cond (fun hc268 => ?_) (fun hc268 => ?_)
    · replace h := (if_pos hc268).symm.trans h
      refine .skip ?_
      obtain ⟨j312, hj312, h⟩ := joinE h
      refine .cutI (fun T => (∃ (v307 : (List Int)) (v308 : Int) (v309 : (List (List Int))) (v311 : (List Int)), T = St.of [(4, .ptr (.loc 1 1) 0), (5, .sl 22 (.own (.row 9310 0)) (v309.map pv22)), (6, .sl 5 .ro (v311.map (PV.int .u8))), (7, .int .i64 v213)] [((.loc 1 1), [.sl 3 .ro (v307.map (PV.int .i64)), .int .i64 v308])] ∧ j312 v307 v308 v309 v311 = some r)) ?_ ?_
      · refine .block ?_
        refine .seq ?_
        refine .region ?_
        refine .assign ?_
        refine .nil ?_
        obtain ⟨j348, hj348, h⟩ := joinE h
        refine .cutI (fun T => (∃ (v344 : (List Int)) (v345 : Int) (v346 : (List Int)), T = St.of [(4, .ptr (.loc 1 1) 0), (5, .sl 22 (.own (.row 9211 0)) (v210.map pv22)), (6, .sl 5 .ro (v212.map (PV.int .u8))), (7, .int .i64 v213), (8, .sl 5 (.own (.row 9347 0)) (v346.map (PV.int .u8)))] [((.loc 1 1), [.sl 3 .ro (v344.map (PV.int .i64)), .int .i64 v345])] ∧ j348 v344 v345 v346 = some r)) ?_ ?_
        · refine .seq ?_
          refine .region ?_
          refine .move ?_
          obtain ⟨y349, hy349, h⟩ := bindE h
          refine .cH (.loc 1 1) (g81 hy349) ?_
          refine .assign ?_
          refine .nil ?_
          refine .block ?_
          refine .loopI (fun m T => ∃ (v358 : (List Int)) (v359 : Int) (v360 : (List Int)) (v362 : Int), T = St.of [(4, .ptr (.loc 1 1) 0), (5, .sl 22 (.own (.row 9211 0)) (v210.map pv22)), (6, .sl 5 .ro (v212.map (PV.int .u8))), (7, .int .i64 v213), (8, .sl 5 (.own (.row 9361 0)) (v360.map (PV.int .u8))), (9, .int .i64 v362)] [((.loc 1 1), [.sl 3 .ro (v358.map (PV.int .i64)), .int .i64 v359])] ∧ f44_l2 n j348 m v358 v359 v360 v362 = some r) _ _ ⟨_, _, _, _, rfl, h⟩ (imp_of (.cons rfl (.cons rfl (.cons rfl (.cons rfl (.wk (.own _ _) rfl (.cons rfl (.nil))))))) (.cons rfl (.nil))) ?_
          rintro m374 T ⟨v358, v359, v360, v362, rfl, h⟩
          obtain _ | m374 := m374
          · rw [f44_l2] at h; cases h
          rw [f44_l2] at h
          refine .seq ?_
          refine .seq ?_
          refine .region ?_
          refine .move ?_
          refine .val ?_
          refine .nil ?_
          refine .cond (fun hc376 => ?_) (fun hc376 => ?_)
          · replace h := (if_pos hc376).symm.trans h
            refine .skip ?_
            refine .seq ?_
            refine .block ?_
            refine .region ?_
            refine .move ?_
            refine .move ?_
            obtain ⟨y379, hy379, h⟩ := bindE h
            refine .cH (.loc 1 1) (g81 hy379) ?_
            refine .val ?_
            refine .litR (f := (PV.int .u8)) ([IntKind.wrap .u8 (y379.1)] : List Int) ?_
            obtain ⟨x380, hx380, h⟩ := bindE h
            refine .appL (f := (PV.int .u8)) hx380 ?_
            refine .assign ?_
            refine .nil ?_
            refine .region ?_
            refine .move ?_
            refine .val ?_
            refine .assign ?_
            refine .nil ?_
            exact ⟨m374, _, Nat.lt_succ_self m374, ⟨_, _, _, _, rfl, h⟩, (Imp.trans (Imp.swap (.row 11 5) (.row 9361 0) rfl rfl rfl) (imp_of (.cons rfl (.cons rfl (.cons rfl (.cons rfl (.cons rfl (.cons rfl (.nil))))))) (.cons rfl (.nil))))⟩
          · replace h := (if_neg (nt hc376)).symm.trans h
            refine .exit (.hit ?_)
            exact ⟨_, ⟨_, _, _, rfl, h⟩, (Imp.trans (Imp.swap (.row 9361 0) (.row 9347 0) rfl rfl rfl) (imp_of (.cons rfl (.cons rfl (.cons rfl (.cons rfl (.cons rfl (.nil)))))) (.cons rfl (.nil))))⟩
        · rintro T ⟨v344, v345, v346, rfl, h⟩
          subst hj348
          refine .seq ?_
          refine .region ?_
          refine .move ?_
          refine .move ?_
          obtain ⟨y381, hy381, h⟩ := bindE h
          refine .freeze (.row 9347 0) ?_
          refine .cP (g47r hy381) ?_
          refine .move ?_
          refine .val ?_
          refine .val ?_
          refine .assign ?_
          refine .nil ?_
          refine .region ?_
          refine .move ?_
          refine .move ?_
          refine .litR (f := pv22) ([v346] : List (List Int)) ?_
          obtain ⟨x382, hx382, h⟩ := bindE h
          refine .appL (f := pv22) hx382 ?_
          refine .assign ?_
          refine .nil ?_
          exact ⟨_, ⟨_, _, _, _, rfl, h⟩, (Imp.trans (Imp.swap (.row 13 3) (.row 9310 0) rfl rfl rfl) (imp_of (.cons rfl (.cons rfl (.cons rfl (.cons rfl (.nil))))) (.cons rfl (.nil))))⟩
      · rintro T ⟨v307, v308, v309, v311, rfl, h⟩
        subst hj312
        refine .region ?_
        refine .move ?_
        refine .val ?_
        refine .assign ?_
        refine .nil ?_
        exact ⟨m266, _, Nat.lt_succ_self m266, ⟨_, _, _, _, _, rfl, h⟩, (Imp.trans (Imp.swap (.row 9310 0) (.row 9211 0) rfl rfl rfl) (imp_of (.cons rfl (.cons rfl (.cons rfl (.cons rfl (.nil))))) (.cons rfl (.nil))))⟩
    · replace h := (if_neg (nt hc268)).symm.trans h
      refine .exit (.hit ?_)
      exact ⟨_, ⟨_, _, rfl, h⟩, (Imp.trans (Imp.swap (.row 9211 0) (.row 9156 0) rfl rfl rfl) (imp_of (.cons rfl (.cons rfl (.nil))) (.nil)))⟩
  · rintro T ⟨v155, v157, rfl, h⟩
    subst hj158
    refine .seq ?_
    refine .region ?_
    refine .move ?_
    refine .move ?_
    refine .assign ?_
    refine .assign ?_
    refine .nil ?_
    cases h
    exact .ret (fin_gen0 (some (.row 9156 0)))
theorem g44r {n : Nat} {a0 : (List Int)} {r : ((List (List Int)) × (List Int))} (h : f44 n a0 = some r) :
    Ab.Can Try.prog 44 [.sl 3 .ro (a0.map (PV.int .i64))] H0 (.tup [.sl 22 .ro (r.1.map pv22), .sl 5 .ro (r.2.map (PV.int .u8))]) H0 := Can.frzR (hq := []) (g44 h)

/- soundservice/soundserviceref40.Read -/
def f49 (n : Nat) (a0 : (List Int)) : Option ((List (List Int)) × Int × Int) :=
  (f85 n a0).bind fun y1 =>
  some (y1.1, y1.2.1, y1.2.2.2)
set_option maxHeartbeats 4000000 in
set_option maxRecDepth 100000 in
theorem g49 {n : Nat} {a0 : (List Int)} {r : ((List (List Int)) × Int × Int)} (h : f49 n a0 = some r) :
    Ab.Can Try.prog 49 [.sl 5 .ro (a0.map (PV.int .u8))] H0 (.tup [.sl 22 (.own (.rrow 0)) (r.1.map pv22), .int .i64 r.2.1, .int .i64 r.2.2]) H0 := by
  refine can_of tabOK mix Try.call49 Try.func49 rfl (by kernel_rfl) (by show _ ≤ 19; simp) fun _ => ?_
  rw [f49] at h
  refine .seq ?_
  refine .region ?_
  refine .assign ?_
  refine .assign ?_
  refine .assign ?_
  refine .nil ?_
  refine .seq ?_
  refine .region ?_
  refine .move ?_
  obtain ⟨y1, hy1, h⟩ := bindE h
  refine .cO (.row 1 1) (g85 hy1) (u := .tup [.sl 22 (.own (.row 1 1)) (y1.1.map pv22), .int .i64 y1.2.1, .int .u64 y1.2.2.1, .int .i64 y1.2.2.2]) ?_
  refine .move ?_
  refine .val ?_
  refine .val ?_
  refine .val ?_
  refine .val ?_
  refine .assign ?_
  refine .assign ?_
  refine .assign ?_
  refine .assign ?_
  refine .nil ?_
  refine .seq ?_
  refine .region ?_
  refine .move ?_
  refine .move ?_
  refine .move ?_
  refine .assign ?_
  refine .assign ?_
  refine .assign ?_
  refine .nil ?_
  cases h
  exact .ret (fin_gen0 (some (.row 1 1)))
theorem g49r {n : Nat} {a0 : (List Int)} {r : ((List (List Int)) × Int × Int)} (h : f49 n a0 = some r) :
    Ab.Can Try.prog 49 [.sl 5 .ro (a0.map (PV.int .u8))] H0 (.tup [.sl 22 .ro (r.1.map pv22), .int .i64 r.2.1, .int .i64 r.2.2]) H0 := Can.frzR (hq := []) (g49 h)

/- soundservice/soundserviceref40.Same -/
def f50_l1 (n : Nat) (a0 : (List (List Int))) (a1 : (List (List Int))) (j29 : Unit → Option Bool) : Nat → Int → Option Bool
  | 0, _ => none
  | m48 + 1, v38 =>
    if decide (v38 < (a0.length : Int)) then (
    (lAt a0 v38).bind fun x54 =>
    (lAt a1 v38).bind fun x55 =>
    if !(sEq (mkStr x54) (mkStr x55)) then (
    some false)
    else (
    f50_l1 n a0 a1 j29 m48 (w64 (v38 + (1 : Int)))))
    else (
    j29 ())
def f50 (n : Nat) (a0 : (List (List Int))) (a1 : (List (List Int))) : Option Bool :=
  if ((a0.length : Int) != (a1.length : Int)) then (
  some false)
  else (
  joinK (fun (_ : Unit) =>
  some true) fun j29 =>
  f50_l1 n a0 a1 j29 n 0)
set_option maxHeartbeats 4000000 in
set_option maxRecDepth 100000 in
theorem g50 {n : Nat} {a0 : (List (List Int))} {a1 : (List (List Int))} {r : Bool} (h : f50 n a0 a1 = some r) :
    Ab.Can Try.prog 50 [.sl 22 .ro (a0.map pv22), .sl 22 .ro (a1.map pv22)] H0 (.bool r) H0 := by
  refine can_of tabOK mix Try.call50 Try.func50 rfl (by kernel_rfl) (by show _ ≤ 28; simp) fun _ => ?_
  rw [f50] at h
  refine .seq ?_
  refine .region ?_
  refine .assign ?_
  refine .nil ?_
  refine .seq ?_
  refine .seq ?_
  refine .region ?_
  refine .move ?_
  refine .lenL (f := pv22) ?_
  refine .move ?_
  refine .lenL (f := pv22) ?_
  refine .val ?_
  refine .nil ?_
  refine .cond (fun hc2 => ?_) (fun hc2 => ?_)
  · replace h := (if_pos hc2).symm.trans h
    refine .seq ?_
    refine .region ?_
    refine .assign ?_
    refine .nil ?_
    cases h
    exact .ret (fin_gen0 none)
  · replace h := (if_neg (nt hc2)).symm.trans h
    refine .skip ?_
    obtain ⟨j29, hj29, h⟩ := joinE h
    refine .cutI (fun T => (T = St.of [] [] ∧ j29 () = some r)) ?_ ?_
    · refine .seq ?_
      refine .region ?_
      refine .assign ?_
      refine .nil ?_
      refine .block ?_
      refine .loopI (fun m T => ∃ (v38 : Int), T = St.of [(0, .sl 22 .ro (a0.map pv22)), (1, .sl 22 .ro (a1.map pv22)), (5, .int .i64 v38)] [] ∧ f50_l1 n a0 a1 j29 m v38 = some r) _ _ ⟨_, rfl, h⟩ (imp_of (.cons rfl (.cons rfl (.cons rfl (.nil)))) (.nil)) ?_
      rintro m48 T ⟨v38, rfl, h⟩
      obtain _ | m48 := m48
      · rw [f50_l1] at h; cases h
      rw [f50_l1] at h
      refine .seq ?_
      refine .seq ?_
      refine .region ?_
      refine .move ?_
      refine .move ?_
      refine .lenL (f := pv22) ?_
      refine .val ?_
      refine .nil ?_
      refine .cond (fun hc50 => ?_) (fun hc50 => ?_)
      · replace h := (if_pos hc50).symm.trans h
        refine .skip ?_
        refine .seq ?_
        refine .block ?_
        refine .seq ?_
        obtain ⟨x54, hx54, h⟩ := bindE h
        obtain ⟨x55, hx55, h⟩ := bindE h
        refine .draw [] [[], [], [], [], [], [], [], [], [], [], []] [[], [], [], [], [], [], [], [], [], [], []] [[]]
          [(0, 0), (1, 0), (2, 0), (3, 0), (4, 0), (5, 0), (6, 0), (7, 0), (8, 0), (9, 0), (10, 0)] [] 0
          [⟨[(17, .sl 22 .ro (a0.map pv22)), (18, .int .i64 v38), (19, .ep 22 .ro (a0.map pv22) (v38 : Int).toNat 0), (20, .sl 5 .ro (x54.map (PV.int .u8))), (21, .str (mkStr x54)), (22, .sl 22 .ro (a1.map pv22)), (23, .int .i64 v38), (24, .ep 22 .ro (a1.map pv22) (v38 : Int).toNat 0), (25, .sl 5 .ro (x55.map (PV.int .u8))), (26, .str (mkStr x55)), (27, .bool (!(sEq (mkStr x54) (mkStr x55)))), (0, .sl 22 .ro (a0.map pv22)), (1, .sl 22 .ro (a1.map pv22)), (5, .int .i64 v38)], [], []⟩]
          [(0, .sl 22 .ro (a0.map pv22)), (1, .sl 22 .ro (a1.map pv22)), (5, .int .i64 v38)]
          (.cons [0] [] (fun _ _ h => .move (h _)) rfl rfl <|
          .cons [5] [] (fun _ _ h => .move (h _)) rfl rfl <|
          .cons [17, 18] [] (fun _ _ h => .idxL (f := pv22) hx54 (h _)) rfl rfl <|
          .cons [19] [] (fun _ _ h => .ldL hx54 (h _)) rfl rfl <|
          .cons [20] [] (fun _ _ h => .toStr (h _)) rfl rfl <|
          .cons [1] [] (fun _ _ h => .move (h _)) rfl rfl <|
          .cons [5] [] (fun _ _ h => .move (h _)) rfl rfl <|
          .cons [22, 23] [] (fun _ _ h => .idxL (f := pv22) hx55 (h _)) rfl rfl <|
          .cons [24] [] (fun _ _ h => .ldL hx55 (h _)) rfl rfl <|
          .cons [25] [] (fun _ _ h => .toStr (h _)) rfl rfl <|
          .cons [21, 26] [] (fun _ _ h => .val (h _)) rfl rfl <|
          .nil)
          (.nil)
          (by kernel_rfl) rfl (.cons rfl (.cons rfl (.cons rfl (.nil)))) (.nil) (.nil) ?_
        refine .imp (T := St.of [(0, .sl 22 .ro (a0.map pv22)), (1, .sl 22 .ro (a1.map pv22)), (5, .int .i64 v38), (27, .bool (!(sEq (mkStr x54) (mkStr x55))))] []) (imp_of (.cons rfl (.cons rfl (.cons rfl (.cons rfl (.nil))))) (.nil)) ?_
        refine .cond (fun hc56 => ?_) (fun hc56 => ?_)
        · replace h := (if_pos hc56).symm.trans h
          refine .seq ?_
          refine .region ?_
          refine .assign ?_
          refine .nil ?_
          cases h
          exact .ret (fin_gen0 none)
        · replace h := (if_neg (nt hc56)).symm.trans h
          refine .skip ?_
          refine .region ?_
          refine .move ?_
          refine .val ?_
          refine .assign ?_
          refine .nil ?_
          exact ⟨m48, _, Nat.lt_succ_self m48, ⟨_, rfl, h⟩, (imp_of (.cons rfl (.cons rfl (.cons rfl (.nil)))) (.nil))⟩
      · replace h := (if_neg (nt hc50)).symm.trans h
        refine .exit (.hit ?_)
        exact ⟨_, ⟨rfl, h⟩, (imp_of (.nil) (.nil))⟩
    · rintro T ⟨rfl, h⟩
      subst hj29
      refine .seq ?_
      refine .region ?_
      refine .assign ?_
      refine .nil ?_
      cases h
      exact .ret (fin_gen0 none)

/- soundservice/journal.Repair -/
def f51 (n : Nat) (a0 : (List Int)) : Option (List Int) :=
  (f82 n a0).bind fun y1 =>
  (lPart a0 (0 : Int) y1.2.1).bind fun x2 =>
  (f87 n x2).bind fun y3 =>
  some y3
set_option maxHeartbeats 4000000 in
set_option maxRecDepth 100000 in
theorem g51 {n : Nat} {a0 : (List Int)} {r : (List Int)} (h : f51 n a0 = some r) :
    Ab.Can Try.prog 51 [.sl 5 .ro (a0.map (PV.int .u8))] H0 (.sl 5 (.own (.rrow 0)) (r.map (PV.int .u8))) H0 := by
  refine can_of tabOK mix Try.call51 Try.func51 rfl (by kernel_rfl) (by show _ ≤ 18; simp) fun _ => ?_
  rw [f51] at h
  refine .seq ?_
  refine .region ?_
  refine .assign ?_
  refine .nil ?_
  refine .seq ?_
  refine .region ?_
  refine .move ?_
  obtain ⟨y1, hy1, h⟩ := bindE h
  refine .cP (g82r hy1) ?_
  refine .move ?_
  refine .val ?_
  refine .val ?_
  refine .val ?_
  refine .val ?_
  refine .assign ?_
  refine .assign ?_
  refine .assign ?_
  refine .assign ?_
  refine .nil ?_
  refine .seq ?_
  refine .region ?_
  refine .move ?_
  refine .move ?_
  obtain ⟨x2, hx2, h⟩ := bindE h
  refine .partL (f := (PV.int .u8)) hx2 ?_
  obtain ⟨y3, hy3, h⟩ := bindE h
  refine .cO (.row 2 3) (g87 hy3) (u := .sl 5 (.own (.row 2 3)) (y3.map (PV.int .u8))) ?_
  refine .assign ?_
  refine .nil ?_
  cases h
  exact .ret (fin_gen0 (some (.row 2 3)))
theorem g51r {n : Nat} {a0 : (List Int)} {r : (List Int)} (h : f51 n a0 = some r) :
    Ab.Can Try.prog 51 [.sl 5 .ro (a0.map (PV.int .u8))] H0 (.sl 5 .ro (r.map (PV.int .u8))) H0 := Can.frzR (hq := []) (g51 h)

/- soundservice/soundserviceref40.Repair -/
def f52 (n : Nat) (a0 : (List Int)) : Option (List Int) :=
  (f85 n a0).bind fun y1 =>
  (lPart a0 (0 : Int) y1.2.1).bind fun x3 =>
  (lApp ([] : List Int) x3).bind fun x4 =>
  some x4
set_option maxHeartbeats 4000000 in
set_option maxRecDepth 100000 in
theorem g52 {n : Nat} {a0 : (List Int)} {r : (List Int)} (h : f52 n a0 = some r) :
    Ab.Can Try.prog 52 [.sl 5 .ro (a0.map (PV.int .u8))] H0 (.sl 5 (.own (.rrow 0)) (r.map (PV.int .u8))) H0 := by
  refine can_of tabOK mix Try.call52 Try.func52 rfl (by kernel_rfl) (by show _ ≤ 19; simp) fun _ => ?_
  rw [f52] at h
  refine .seq ?_
  refine .region ?_
  refine .assign ?_
  refine .nil ?_
  refine .seq ?_
  refine .region ?_
  refine .move ?_
  obtain ⟨y1, hy1, h⟩ := bindE h
  refine .cP (g85r hy1) ?_
  refine .move ?_
  refine .val ?_
  refine .val ?_
  refine .val ?_
  refine .val ?_
  refine .assign ?_
  refine .assign ?_
  refine .assign ?_
  refine .assign ?_
  refine .nil ?_
  refine .seq ?_
  refine .region ?_
  refine .litE (.row 8002 0) ?_
  refine .move ?_
  refine .move ?_
  obtain ⟨x3, hx3, h⟩ := bindE h
  refine .partL (f := (PV.int .u8)) hx3 ?_
  obtain ⟨x4, hx4, h⟩ := bindE h
  refine .appL (f := (PV.int .u8)) hx4 ?_
  refine .assign ?_
  refine .nil ?_
  cases h
  exact .ret (fin_gen0 (some (.row 2 4)))
theorem g52r {n : Nat} {a0 : (List Int)} {r : (List Int)} (h : f52 n a0 = some r) :
    Ab.Can Try.prog 52 [.sl 5 .ro (a0.map (PV.int .u8))] H0 (.sl 5 .ro (r.map (PV.int .u8))) H0 := Can.frzR (hq := []) (g52 h)
end Go.Proofs.Ytcahjpkmldmjdaa
