/-
  Plain functions of soundserviceref01, wire, and that the code does what they say.
-/
import Derived.Test.YtcahjpkmldmjdaaTy
namespace Go.Proofs.Ytcahjpkmldmjdaa
open Go Ab
/- soundservice/wire.put[uint16] -/
def f61_l1 (n : Nat) (a2 : Int) (j25 : (List Int) → Option (List Int)) : Nat → Int → (List Int) → Int → Option (List Int)
  | 0, _, _, _ => none
  | m42 + 1, v30, v31, v33 =>
    if decide (v33 < a2) then (
    (lApp v31 ([IntKind.wrap .u8 (v30)] : List Int)).bind fun x46 =>
    f61_l1 n a2 j25 m42 (iShrT .u16 v30 (8 : Int)) x46 (w64 (v33 + (1 : Int))))
    else (
    j25 v31)
def f61 (n : Nat) (a0 : (List Int)) (a1 : Int) (a2 : Int) : Option (List Int) :=
  (lMake (0 : Int) (w64 ((a0.length : Int) + a2)) (0 : Int)).bind fun x1 =>
  (lApp x1 a0).bind fun x2 =>
  joinK (fun (v23 : (List Int)) =>
  some v23) fun j25 =>
  f61_l1 n a2 j25 n a1 x2 0
set_option maxHeartbeats 4000000 in
set_option maxRecDepth 100000 in
theorem g61 {n : Nat} {a0 : (List Int)} {a1 : Int} {a2 : Int} {r : (List Int)} (h : f61 n a0 a1 a2 = some r) :
    Ab.Can Try.prog 61 [.sl 5 .ro (a0.map (PV.int .u8)), .int .u16 a1, .int .i64 a2] H0 (.sl 5 (.own (.rrow 0)) (r.map (PV.int .u8))) H0 := by
  refine can_of tabOK mix Try.call61 Try.func61 rfl (by kernel_rfl) (by show _ ≤ 27; simp) fun _ => ?_
  rw [f61] at h
  refine .seq ?_
  refine .region ?_
  refine .assign ?_
  refine .nil ?_
  refine .seq ?_
  refine .region ?_
  refine .move ?_
  refine .lenL (f := (PV.int .u8)) ?_
  refine .move ?_
  refine .val ?_
  obtain ⟨x1, hx1, h⟩ := bindE h
  refine .makeL (f := (PV.int .u8)) hx1 ?_
  refine .move ?_
  obtain ⟨x2, hx2, h⟩ := bindE h
  refine .appL (f := (PV.int .u8)) hx2 ?_
  refine .assign ?_
  refine .nil ?_
  obtain ⟨j25, hj25, h⟩ := joinE h
  refine .cutI (fun T => (∃ (v23 : (List Int)), T = St.of [(7, .sl 5 (.own (.row 9024 0)) (v23.map (PV.int .u8)))] [] ∧ j25 v23 = some r)) ?_ ?_
  · refine .seq ?_
    refine .region ?_
    refine .move ?_
    refine .move ?_
    refine .nil ?_
    refine .block ?_
    refine .loopI (fun m T => ∃ (v30 : Int) (v31 : (List Int)) (v33 : Int), T = St.of [(1, .int .u16 v30), (7, .sl 5 (.own (.row 9032 0)) (v31.map (PV.int .u8))), (15, .int .i64 a2), (16, .int .i64 v33)] [] ∧ f61_l1 n a2 j25 m v30 v31 v33 = some r) _ _ ⟨_, _, _, rfl, h⟩ (Imp.trans (Imp.swap (.row 1 6) (.row 9032 0) rfl rfl rfl) (imp_of (.cons rfl (.cons rfl (.cons rfl (.cons rfl (.nil))))) (.nil))) ?_
    rintro m42 T ⟨v30, v31, v33, rfl, h⟩
    obtain _ | m42 := m42
    · rw [f61_l1] at h; cases h
    rw [f61_l1] at h
    refine .seq ?_
    refine .region ?_
    refine .val ?_
    refine .nil ?_
    refine .seq ?_
    refine .cond (fun hc44 => ?_) (fun hc44 => ?_)
    · replace h := (if_pos hc44).symm.trans h
      refine .skip ?_
      refine .seq ?_
      refine .block ?_
      refine .seq ?_
      refine .region ?_
      refine .move ?_
      refine .move ?_
      refine .val ?_
      refine .litR (f := (PV.int .u8)) ([IntKind.wrap .u8 (v30)] : List Int) ?_
      obtain ⟨x46, hx46, h⟩ := bindE h
      refine .appL (f := (PV.int .u8)) hx46 ?_
      refine .assign ?_
      refine .nil ?_
      refine .region ?_
      refine .move ?_
      refine .val ?_ (hc := by decide)
      refine .assign ?_
      refine .nil ?_
      refine .region ?_
      refine .val ?_
      refine .move ?_
      refine .nil ?_
      exact ⟨m42, _, Nat.lt_succ_self m42, ⟨_, _, _, rfl, h⟩, (Imp.trans (Imp.swap (.row 4 4) (.row 9032 0) rfl rfl rfl) (imp_of (.cons rfl (.cons rfl (.cons rfl (.cons rfl (.nil))))) (.nil)))⟩
    · replace h := (if_neg (nt hc44)).symm.trans h
      refine .exit (.hit ?_)
      exact ⟨_, ⟨_, rfl, h⟩, (Imp.trans (Imp.swap (.row 9032 0) (.row 9024 0) rfl rfl rfl) (imp_of (.cons rfl (.nil)) (.nil)))⟩
  · rintro T ⟨v23, rfl, h⟩
    subst hj25
    refine .seq ?_
    refine .region ?_
    refine .move ?_
    refine .assign ?_
    refine .nil ?_
    cases h
    exact .ret (fin_gen0 (some (.row 9024 0)))
theorem g61r {n : Nat} {a0 : (List Int)} {a1 : Int} {a2 : Int} {r : (List Int)} (h : f61 n a0 a1 a2 = some r) :
    Ab.Can Try.prog 61 [.sl 5 .ro (a0.map (PV.int .u8)), .int .u16 a1, .int .i64 a2] H0 (.sl 5 .ro (r.map (PV.int .u8))) H0 := Can.frzR (hq := []) (g61 h)

/- soundservice/soundserviceref01.put -/
def f60_l1 (n : Nat) (a1 : Int) (a2 : Int) (j28 : (List Int) → Option (List Int)) : Nat → (List Int) → Int → Option (List Int)
  | 0, _, _ => none
  | m47 + 1, v35, v37 =>
    if decide (v37 < a2) then (
    (iShr .u64 a1 (w64 ((8 : Int) * v37))).bind fun x52 =>
    (lApp v35 ([IntKind.wrap .u8 (x52)] : List Int)).bind fun x53 =>
    f60_l1 n a1 a2 j28 m47 x53 (w64 (v37 + (1 : Int))))
    else (
    j28 v35)
def f60 (n : Nat) (a0 : (List Int)) (a1 : Int) (a2 : Int) : Option (List Int) :=
  (lApp ([] : List Int) a0).bind fun x1 =>
  joinK (fun (v26 : (List Int)) =>
  some v26) fun j28 =>
  f60_l1 n a1 a2 j28 n x1 0
set_option maxHeartbeats 4000000 in
set_option maxRecDepth 100000 in
theorem g60 {n : Nat} {a0 : (List Int)} {a1 : Int} {a2 : Int} {r : (List Int)} (h : f60 n a0 a1 a2 = some r) :
    Ab.Can Try.prog 60 [.sl 5 .ro (a0.map (PV.int .u8)), .int .u64 a1, .int .i64 a2] H0 (.sl 5 (.own (.rrow 0)) (r.map (PV.int .u8))) H0 := by
  refine can_of tabOK mix Try.call60 Try.func60 rfl (by kernel_rfl) (by show _ ≤ 25; simp) fun _ => ?_
  rw [f60] at h
  refine .seq ?_
  refine .region ?_
  refine .assign ?_
  refine .nil ?_
  refine .seq ?_
  refine .region ?_
  refine .move ?_
  obtain ⟨x1, hx1, h⟩ := bindE h
  refine .appN (f := (PV.int .u8)) hx1 ?_
  refine .assign ?_
  refine .nil ?_
  obtain ⟨j28, hj28, h⟩ := joinE h
  refine .cutI (fun T => (∃ (v26 : (List Int)), T = St.of [(7, .sl 5 (.own (.row 9027 0)) (v26.map (PV.int .u8)))] [] ∧ j28 v26 = some r)) ?_ ?_
  · refine .seq ?_
    refine .region ?_
    refine .assign ?_
    refine .nil ?_
    refine .block ?_
    refine .loopI (fun m T => ∃ (v35 : (List Int)) (v37 : Int), T = St.of [(1, .int .u64 a1), (2, .int .i64 a2), (7, .sl 5 (.own (.row 9036 0)) (v35.map (PV.int .u8))), (8, .int .i64 v37)] [] ∧ f60_l1 n a1 a2 j28 m v35 v37 = some r) _ _ ⟨_, _, rfl, h⟩ (Imp.trans (Imp.swap (.row 1 1) (.row 9036 0) rfl rfl rfl) (imp_of (.cons rfl (.cons rfl (.cons rfl (.cons rfl (.nil))))) (.nil))) ?_
    rintro m47 T ⟨v35, v37, rfl, h⟩
    obtain _ | m47 := m47
    · rw [f60_l1] at h; cases h
    rw [f60_l1] at h
    refine .seq ?_
    refine .seq ?_
    refine .region ?_
    refine .move ?_
    refine .move ?_
    refine .val ?_
    refine .nil ?_
    refine .cond (fun hc49 => ?_) (fun hc49 => ?_)
    · replace h := (if_pos hc49).symm.trans h
      refine .skip ?_
      refine .seq ?_
      refine .block ?_
      refine .region ?_
      refine .move ?_
      refine .move ?_
      refine .move ?_
      refine .val ?_
      obtain ⟨x52, hx52, h⟩ := bindE h
      refine .shrL hx52 ?_
      refine .val ?_
      refine .litR (f := (PV.int .u8)) ([IntKind.wrap .u8 (x52)] : List Int) ?_
      obtain ⟨x53, hx53, h⟩ := bindE h
      refine .appL (f := (PV.int .u8)) hx53 ?_
      refine .assign ?_
      refine .nil ?_
      refine .region ?_
      refine .move ?_
      refine .val ?_
      refine .assign ?_
      refine .nil ?_
      exact ⟨m47, _, Nat.lt_succ_self m47, ⟨_, _, rfl, h⟩, (Imp.trans (Imp.swap (.row 5 7) (.row 9036 0) rfl rfl rfl) (imp_of (.cons rfl (.cons rfl (.cons rfl (.cons rfl (.nil))))) (.nil)))⟩
    · replace h := (if_neg (nt hc49)).symm.trans h
      refine .exit (.hit ?_)
      exact ⟨_, ⟨_, rfl, h⟩, (Imp.trans (Imp.swap (.row 9036 0) (.row 9027 0) rfl rfl rfl) (imp_of (.cons rfl (.nil)) (.nil)))⟩
  · rintro T ⟨v26, rfl, h⟩
    subst hj28
    refine .seq ?_
    refine .region ?_
    refine .move ?_
    refine .assign ?_
    refine .nil ?_
    cases h
    exact .ret (fin_gen0 (some (.row 9027 0)))
theorem g60r {n : Nat} {a0 : (List Int)} {a1 : Int} {a2 : Int} {r : (List Int)} (h : f60 n a0 a1 a2 = some r) :
    Ab.Can Try.prog 60 [.sl 5 .ro (a0.map (PV.int .u8)), .int .u64 a1, .int .i64 a2] H0 (.sl 5 .ro (r.map (PV.int .u8))) H0 := Can.frzR (hq := []) (g60 h)

/- soundservice/wire.put[uint32] -/
def f62_l1 (n : Nat) (a2 : Int) (j25 : (List Int) → Option (List Int)) : Nat → Int → (List Int) → Int → Option (List Int)
  | 0, _, _, _ => none
  | m42 + 1, v30, v31, v33 =>
    if decide (v33 < a2) then (
    (lApp v31 ([IntKind.wrap .u8 (v30)] : List Int)).bind fun x46 =>
    f62_l1 n a2 j25 m42 (iShrT .u32 v30 (8 : Int)) x46 (w64 (v33 + (1 : Int))))
    else (
    j25 v31)
def f62 (n : Nat) (a0 : (List Int)) (a1 : Int) (a2 : Int) : Option (List Int) :=
  (lMake (0 : Int) (w64 ((a0.length : Int) + a2)) (0 : Int)).bind fun x1 =>
  (lApp x1 a0).bind fun x2 =>
  joinK (fun (v23 : (List Int)) =>
  some v23) fun j25 =>
  f62_l1 n a2 j25 n a1 x2 0
set_option maxHeartbeats 4000000 in
set_option maxRecDepth 100000 in
theorem g62 {n : Nat} {a0 : (List Int)} {a1 : Int} {a2 : Int} {r : (List Int)} (h : f62 n a0 a1 a2 = some r) :
    Ab.Can Try.prog 62 [.sl 5 .ro (a0.map (PV.int .u8)), .int .u32 a1, .int .i64 a2] H0 (.sl 5 (.own (.rrow 0)) (r.map (PV.int .u8))) H0 := by
  refine can_of tabOK mix Try.call62 Try.func62 rfl (by kernel_rfl) (by show _ ≤ 27; simp) fun _ => ?_
  rw [f62] at h
  refine .seq ?_
  refine .region ?_
  refine .assign ?_
  refine .nil ?_
  refine .seq ?_
  refine .region ?_
  refine .move ?_
  refine .lenL (f := (PV.int .u8)) ?_
  refine .move ?_
  refine .val ?_
  obtain ⟨x1, hx1, h⟩ := bindE h
  refine .makeL (f := (PV.int .u8)) hx1 ?_
  refine .move ?_
  obtain ⟨x2, hx2, h⟩ := bindE h
  refine .appL (f := (PV.int .u8)) hx2 ?_
  refine .assign ?_
  refine .nil ?_
  obtain ⟨j25, hj25, h⟩ := joinE h
  refine .cutI (fun T => (∃ (v23 : (List Int)), T = St.of [(7, .sl 5 (.own (.row 9024 0)) (v23.map (PV.int .u8)))] [] ∧ j25 v23 = some r)) ?_ ?_
  · refine .seq ?_
    refine .region ?_
    refine .move ?_
    refine .move ?_
    refine .nil ?_
    refine .block ?_
    refine .loopI (fun m T => ∃ (v30 : Int) (v31 : (List Int)) (v33 : Int), T = St.of [(1, .int .u32 v30), (7, .sl 5 (.own (.row 9032 0)) (v31.map (PV.int .u8))), (15, .int .i64 a2), (16, .int .i64 v33)] [] ∧ f62_l1 n a2 j25 m v30 v31 v33 = some r) _ _ ⟨_, _, _, rfl, h⟩ (Imp.trans (Imp.swap (.row 1 6) (.row 9032 0) rfl rfl rfl) (imp_of (.cons rfl (.cons rfl (.cons rfl (.cons rfl (.nil))))) (.nil))) ?_
    rintro m42 T ⟨v30, v31, v33, rfl, h⟩
    obtain _ | m42 := m42
    · rw [f62_l1] at h; cases h
    rw [f62_l1] at h
    refine .seq ?_
    refine .region ?_
    refine .val ?_
    refine .nil ?_
    refine .seq ?_
    refine .cond (fun hc44 => ?_) (fun hc44 => ?_)
    · replace h := (if_pos hc44).symm.trans h
      refine .skip ?_
      refine .seq ?_
      refine .block ?_
      refine .seq ?_
      refine .region ?_
      refine .move ?_
      refine .move ?_
      refine .val ?_
      refine .litR (f := (PV.int .u8)) ([IntKind.wrap .u8 (v30)] : List Int) ?_
      obtain ⟨x46, hx46, h⟩ := bindE h
      refine .appL (f := (PV.int .u8)) hx46 ?_
      refine .assign ?_
      refine .nil ?_
      refine .region ?_
      refine .move ?_
      refine .val ?_ (hc := by decide)
      refine .assign ?_
      refine .nil ?_
      refine .region ?_
      refine .val ?_
      refine .move ?_
      refine .nil ?_
      exact ⟨m42, _, Nat.lt_succ_self m42, ⟨_, _, _, rfl, h⟩, (Imp.trans (Imp.swap (.row 4 4) (.row 9032 0) rfl rfl rfl) (imp_of (.cons rfl (.cons rfl (.cons rfl (.cons rfl (.nil))))) (.nil)))⟩
    · replace h := (if_neg (nt hc44)).symm.trans h
      refine .exit (.hit ?_)
      exact ⟨_, ⟨_, rfl, h⟩, (Imp.trans (Imp.swap (.row 9032 0) (.row 9024 0) rfl rfl rfl) (imp_of (.cons rfl (.nil)) (.nil)))⟩
  · rintro T ⟨v23, rfl, h⟩
    subst hj25
    refine .seq ?_
    refine .region ?_
    refine .move ?_
    refine .assign ?_
    refine .nil ?_
    cases h
    exact .ret (fin_gen0 (some (.row 9024 0)))
theorem g62r {n : Nat} {a0 : (List Int)} {a1 : Int} {a2 : Int} {r : (List Int)} (h : f62 n a0 a1 a2 = some r) :
    Ab.Can Try.prog 62 [.sl 5 .ro (a0.map (PV.int .u8)), .int .u32 a1, .int .i64 a2] H0 (.sl 5 .ro (r.map (PV.int .u8))) H0 := Can.frzR (hq := []) (g62 h)

/- soundservice/wire.put[uint64] -/
def f63_l1 (n : Nat) (a2 : Int) (j25 : (List Int) → Option (List Int)) : Nat → Int → (List Int) → Int → Option (List Int)
  | 0, _, _, _ => none
  | m42 + 1, v30, v31, v33 =>
    if decide (v33 < a2) then (
    (lApp v31 ([IntKind.wrap .u8 (v30)] : List Int)).bind fun x46 =>
    f63_l1 n a2 j25 m42 (iShrT .u64 v30 (8 : Int)) x46 (w64 (v33 + (1 : Int))))
    else (
    j25 v31)
def f63 (n : Nat) (a0 : (List Int)) (a1 : Int) (a2 : Int) : Option (List Int) :=
  (lMake (0 : Int) (w64 ((a0.length : Int) + a2)) (0 : Int)).bind fun x1 =>
  (lApp x1 a0).bind fun x2 =>
  joinK (fun (v23 : (List Int)) =>
  some v23) fun j25 =>
  f63_l1 n a2 j25 n a1 x2 0
set_option maxHeartbeats 4000000 in
set_option maxRecDepth 100000 in
theorem g63 {n : Nat} {a0 : (List Int)} {a1 : Int} {a2 : Int} {r : (List Int)} (h : f63 n a0 a1 a2 = some r) :
    Ab.Can Try.prog 63 [.sl 5 .ro (a0.map (PV.int .u8)), .int .u64 a1, .int .i64 a2] H0 (.sl 5 (.own (.rrow 0)) (r.map (PV.int .u8))) H0 := by
  refine can_of tabOK mix Try.call63 Try.func63 rfl (by kernel_rfl) (by show _ ≤ 27; simp) fun _ => ?_
  rw [f63] at h
  refine .seq ?_
  refine .region ?_
  refine .assign ?_
  refine .nil ?_
  refine .seq ?_
  refine .region ?_
  refine .move ?_
  refine .lenL (f := (PV.int .u8)) ?_
  refine .move ?_
  refine .val ?_
  obtain ⟨x1, hx1, h⟩ := bindE h
  refine .makeL (f := (PV.int .u8)) hx1 ?_
  refine .move ?_
  obtain ⟨x2, hx2, h⟩ := bindE h
  refine .appL (f := (PV.int .u8)) hx2 ?_
  refine .assign ?_
  refine .nil ?_
  obtain ⟨j25, hj25, h⟩ := joinE h
  refine .cutI (fun T => (∃ (v23 : (List Int)), T = St.of [(7, .sl 5 (.own (.row 9024 0)) (v23.map (PV.int .u8)))] [] ∧ j25 v23 = some r)) ?_ ?_
  · refine .seq ?_
    refine .region ?_
    refine .move ?_
    refine .move ?_
    refine .nil ?_
    refine .block ?_
    refine .loopI (fun m T => ∃ (v30 : Int) (v31 : (List Int)) (v33 : Int), T = St.of [(1, .int .u64 v30), (7, .sl 5 (.own (.row 9032 0)) (v31.map (PV.int .u8))), (15, .int .i64 a2), (16, .int .i64 v33)] [] ∧ f63_l1 n a2 j25 m v30 v31 v33 = some r) _ _ ⟨_, _, _, rfl, h⟩ (Imp.trans (Imp.swap (.row 1 6) (.row 9032 0) rfl rfl rfl) (imp_of (.cons rfl (.cons rfl (.cons rfl (.cons rfl (.nil))))) (.nil))) ?_
    rintro m42 T ⟨v30, v31, v33, rfl, h⟩
    obtain _ | m42 := m42
    · rw [f63_l1] at h; cases h
    rw [f63_l1] at h
    refine .seq ?_
    refine .region ?_
    refine .val ?_
    refine .nil ?_
    refine .seq ?_
    refine .cond (fun hc44 => ?_) (fun hc44 => ?_)
    · replace h := (if_pos hc44).symm.trans h
      refine .skip ?_
      refine .seq ?_
      refine .block ?_
      refine .seq ?_
      refine .region ?_
      refine .move ?_
      refine .move ?_
      refine .val ?_
      refine .litR (f := (PV.int .u8)) ([IntKind.wrap .u8 (v30)] : List Int) ?_
      obtain ⟨x46, hx46, h⟩ := bindE h
      refine .appL (f := (PV.int .u8)) hx46 ?_
      refine .assign ?_
      refine .nil ?_
      refine .region ?_
      refine .move ?_
      refine .val ?_ (hc := by decide)
      refine .assign ?_
      refine .nil ?_
      refine .region ?_
      refine .val ?_
      refine .move ?_
      refine .nil ?_
      exact ⟨m42, _, Nat.lt_succ_self m42, ⟨_, _, _, rfl, h⟩, (Imp.trans (Imp.swap (.row 4 4) (.row 9032 0) rfl rfl rfl) (imp_of (.cons rfl (.cons rfl (.cons rfl (.cons rfl (.nil))))) (.nil)))⟩
    · replace h := (if_neg (nt hc44)).symm.trans h
      refine .exit (.hit ?_)
      exact ⟨_, ⟨_, rfl, h⟩, (Imp.trans (Imp.swap (.row 9032 0) (.row 9024 0) rfl rfl rfl) (imp_of (.cons rfl (.nil)) (.nil)))⟩
  · rintro T ⟨v23, rfl, h⟩
    subst hj25
    refine .seq ?_
    refine .region ?_
    refine .move ?_
    refine .assign ?_
    refine .nil ?_
    cases h
    exact .ret (fin_gen0 (some (.row 9024 0)))
theorem g63r {n : Nat} {a0 : (List Int)} {a1 : Int} {a2 : Int} {r : (List Int)} (h : f63 n a0 a1 a2 = some r) :
    Ab.Can Try.prog 63 [.sl 5 .ro (a0.map (PV.int .u8)), .int .u64 a1, .int .i64 a2] H0 (.sl 5 .ro (r.map (PV.int .u8))) H0 := Can.frzR (hq := []) (g63 h)

/- soundservice/wire.get[uint32] -/
def f64_l1 (n : Nat) (a0 : (List Int)) (a1 : Int) (a2 : Int) (j35 : Int → Option (Int × Int × Int)) : Nat → Int → Int → Option (Int × Int × Int)
  | 0, _, _ => none
  | m52 + 1, v42, v43 =>
    if decide (v43 < a2) then (
    (lAt a0 (w64 (a1 + v43))).bind fun x57 =>
    (iShl .u32 (IntKind.wrap .u32 (x57)) (w64 ((8 : Int) * v43))).bind fun x58 =>
    f64_l1 n a0 a1 a2 j35 m52 (bitsI .or .u32 v42 x58) (w64 (v43 + (1 : Int))))
    else (
    j35 v42)
def f64 (n : Nat) (a0 : (List Int)) (a1 : Int) (a2 : Int) : Option (Int × Int × Int) :=
  joinK (fun (_ : Unit) =>
  some (0, 0, 2)) fun j7 =>
  joinK (fun (_ : Unit) =>
  if decide (a1 > (a0.length : Int)) then (
  some (0, 0, 2))
  else (
  if decide ((w64 ((a0.length : Int) - a1)) < a2) then (
  some (0, 0, 4))
  else (
  joinK (fun (v34 : Int) =>
  some (v34, w64 (a1 + a2), 0)) fun j35 =>
  f64_l1 n a0 a1 a2 j35 n 0 0))) fun j8 =>
  if decide (a1 < (0 : Int)) then (
  j7 ())
  else (
  j8 ())
set_option maxHeartbeats 4000000 in
set_option maxRecDepth 100000 in
theorem g64 {n : Nat} {a0 : (List Int)} {a1 : Int} {a2 : Int} {r : (Int × Int × Int)} (h : f64 n a0 a1 a2 = some r) :
    Ab.Can Try.prog 64 [.sl 5 .ro (a0.map (PV.int .u8)), .int .i64 a1, .int .i64 a2] H0 (.tup [.int .u32 r.1, .int .i64 r.2.1, .int .i64 r.2.2]) H0 := by
  refine can_of tabOK mix Try.call64 Try.func64 rfl (by kernel_rfl) (by show _ ≤ 48; simp) fun _ => ?_
  rw [f64] at h
  refine .seq ?_
  refine .region ?_
  refine .assign ?_
  refine .assign ?_
  refine .assign ?_
  refine .nil ?_
  refine .seq ?_
  refine .region ?_
  refine .assign ?_
  refine .nil ?_
  refine .seq ?_
  refine .block ?_
  obtain ⟨j7, hj7, h⟩ := joinE h
  obtain ⟨j8, hj8, h⟩ := joinE h
  refine .cutI (fun T => (T = St.of [(0, .sl 5 .ro (a0.map (PV.int .u8))), (1, .int .i64 a1), (2, .int .i64 a2), (9, .int .u32 0), (11, .bool true)] [] ∧ j7 () = some r) ∨ (T = St.of [(0, .sl 5 .ro (a0.map (PV.int .u8))), (1, .int .i64 a1), (2, .int .i64 a2), (9, .int .u32 0), (11, .bool (decide (a1 > (a0.length : Int))))] [] ∧ j8 () = some r)) ?_ ?_
  · refine .region ?_
    refine .move ?_
    refine .val ?_
    refine .move ?_
    refine .caseG (fun hc9 => ?_) (fun hc9 => ?_)
    · replace h := (if_pos hc9).symm.trans h
      refine .skip ?_
      refine .skip ?_
      refine .skip ?_
      refine .skip ?_
      refine .brT ?_
      refine .assign ?_
      refine .nil ?_
      exact ⟨_, (.inl ⟨rfl, h⟩), (imp_of (.cons rfl (.cons rfl (.cons rfl (.cons rfl (.cons rfl (.nil)))))) (.nil))⟩
    · replace h := (if_neg (nt hc9)).symm.trans h
      refine .move ?_
      refine .move ?_
      refine .lenL (f := (PV.int .u8)) ?_
      refine .val ?_
      refine .brF ?_
      refine .assign ?_
      refine .nil ?_
      exact ⟨_, (.inr (⟨rfl, h⟩)), (imp_of (.cons rfl (.cons rfl (.cons rfl (.cons rfl (.cons rfl (.nil)))))) (.nil))⟩
  · rintro T (⟨rfl, h⟩ | ⟨rfl, h⟩)
    · subst hj7
      refine .condT ?_
      refine .seq ?_
      refine .region ?_
      refine .assign ?_
      refine .assign ?_
      refine .assign ?_
      refine .nil ?_
      cases h
      exact .ret (fin_gen0 none)
    · subst hj8
      refine .cond (fun hc10 => ?_) (fun hc10 => ?_)
      · replace h := (if_pos hc10).symm.trans h
        refine .seq ?_
        refine .region ?_
        refine .assign ?_
        refine .assign ?_
        refine .assign ?_
        refine .nil ?_
        cases h
        exact .ret (fin_gen0 none)
      · replace h := (if_neg (nt hc10)).symm.trans h
        refine .seq ?_
        refine .region ?_
        refine .move ?_
        refine .lenL (f := (PV.int .u8)) ?_
        refine .move ?_
        refine .val ?_
        refine .move ?_
        refine .val ?_
        refine .assign ?_
        refine .nil ?_
        refine .cond (fun hc11 => ?_) (fun hc11 => ?_)
        · replace h := (if_pos hc11).symm.trans h
          refine .seq ?_
          refine .region ?_
          refine .assign ?_
          refine .assign ?_
          refine .assign ?_
          refine .nil ?_
          cases h
          exact .ret (fin_gen0 none)
        · replace h := (if_neg (nt hc11)).symm.trans h
          refine .skip ?_
          obtain ⟨j35, hj35, h⟩ := joinE h
          refine .cutI (fun T => (∃ (v34 : Int), T = St.of [(1, .int .i64 a1), (2, .int .i64 a2), (9, .int .u32 v34)] [] ∧ j35 v34 = some r)) ?_ ?_
          · refine .seq ?_
            refine .region ?_
            refine .move ?_
            refine .move ?_
            refine .nil ?_
            refine .block ?_
            refine .loopI (fun m T => ∃ (v42 : Int) (v43 : Int), T = St.of [(0, .sl 5 .ro (a0.map (PV.int .u8))), (1, .int .i64 a1), (2, .int .i64 a2), (9, .int .u32 v42), (27, .int .i64 a2), (28, .int .i64 v43)] [] ∧ f64_l1 n a0 a1 a2 j35 m v42 v43 = some r) _ _ ⟨_, _, rfl, h⟩ (imp_of (.cons rfl (.cons rfl (.cons rfl (.cons rfl (.cons rfl (.cons rfl (.nil))))))) (.nil)) ?_
            rintro m52 T ⟨v42, v43, rfl, h⟩
            obtain _ | m52 := m52
            · rw [f64_l1] at h; cases h
            rw [f64_l1] at h
            refine .seq ?_
            refine .region ?_
            refine .val ?_
            refine .nil ?_
            refine .seq ?_
            refine .cond (fun hc54 => ?_) (fun hc54 => ?_)
            · replace h := (if_pos hc54).symm.trans h
              refine .skip ?_
              refine .seq ?_
              refine .block ?_
              refine .seq ?_
              refine .region ?_
              refine .move ?_
              refine .assign ?_
              refine .nil ?_
              refine .region ?_
              refine .move ?_
              refine .move ?_
              refine .move ?_
              refine .move ?_
              refine .val ?_
              obtain ⟨x57, hx57, h⟩ := bindE h
              refine .idxL (f := (PV.int .u8)) hx57 ?_
              refine .ldL hx57 (y := .int .u8 x57) ?_
              refine .val ?_
              refine .move ?_
              refine .val ?_
              obtain ⟨x58, hx58, h⟩ := bindE h
              refine .shlL hx58 ?_
              refine .val ?_
              refine .assign ?_
              refine .nil ?_
              refine .region ?_
              refine .val ?_
              refine .move ?_
              refine .nil ?_
              exact ⟨m52, _, Nat.lt_succ_self m52, ⟨_, _, rfl, h⟩, (imp_of (.cons rfl (.cons rfl (.cons rfl (.cons rfl (.cons rfl (.cons rfl (.nil))))))) (.nil))⟩
            · replace h := (if_neg (nt hc54)).symm.trans h
              refine .exit (.hit ?_)
              exact ⟨_, ⟨_, rfl, h⟩, (imp_of (.cons rfl (.cons rfl (.cons rfl (.nil)))) (.nil))⟩
          · rintro T ⟨v34, rfl, h⟩
            subst hj35
            refine .seq ?_
            refine .region ?_
            refine .move ?_
            refine .move ?_
            refine .move ?_
            refine .val ?_
            refine .assign ?_
            refine .assign ?_
            refine .assign ?_
            refine .nil ?_
            cases h
            exact .ret (fin_gen0 none)

/- soundservice/wire.get[uint16] -/
def f65_l1 (n : Nat) (a0 : (List Int)) (a1 : Int) (a2 : Int) (j35 : Int → Option (Int × Int × Int)) : Nat → Int → Int → Option (Int × Int × Int)
  | 0, _, _ => none
  | m52 + 1, v42, v43 =>
    if decide (v43 < a2) then (
    (lAt a0 (w64 (a1 + v43))).bind fun x57 =>
    (iShl .u16 (IntKind.wrap .u16 (x57)) (w64 ((8 : Int) * v43))).bind fun x58 =>
    f65_l1 n a0 a1 a2 j35 m52 (bitsI .or .u16 v42 x58) (w64 (v43 + (1 : Int))))
    else (
    j35 v42)
def f65 (n : Nat) (a0 : (List Int)) (a1 : Int) (a2 : Int) : Option (Int × Int × Int) :=
  joinK (fun (_ : Unit) =>
  some (0, 0, 2)) fun j7 =>
  joinK (fun (_ : Unit) =>
  if decide (a1 > (a0.length : Int)) then (
  some (0, 0, 2))
  else (
  if decide ((w64 ((a0.length : Int) - a1)) < a2) then (
  some (0, 0, 4))
  else (
  joinK (fun (v34 : Int) =>
  some (v34, w64 (a1 + a2), 0)) fun j35 =>
  f65_l1 n a0 a1 a2 j35 n 0 0))) fun j8 =>
  if decide (a1 < (0 : Int)) then (
  j7 ())
  else (
  j8 ())
set_option maxHeartbeats 4000000 in
set_option maxRecDepth 100000 in
theorem g65 {n : Nat} {a0 : (List Int)} {a1 : Int} {a2 : Int} {r : (Int × Int × Int)} (h : f65 n a0 a1 a2 = some r) :
    Ab.Can Try.prog 65 [.sl 5 .ro (a0.map (PV.int .u8)), .int .i64 a1, .int .i64 a2] H0 (.tup [.int .u16 r.1, .int .i64 r.2.1, .int .i64 r.2.2]) H0 := by
  refine can_of tabOK mix Try.call65 Try.func65 rfl (by kernel_rfl) (by show _ ≤ 48; simp) fun _ => ?_
  rw [f65] at h
  refine .seq ?_
  refine .region ?_
  refine .assign ?_
  refine .assign ?_
  refine .assign ?_
  refine .nil ?_
  refine .seq ?_
  refine .region ?_
  refine .assign ?_
  refine .nil ?_
  refine .seq ?_
  refine .block ?_
  obtain ⟨j7, hj7, h⟩ := joinE h
  obtain ⟨j8, hj8, h⟩ := joinE h
  refine .cutI (fun T => (T = St.of [(0, .sl 5 .ro (a0.map (PV.int .u8))), (1, .int .i64 a1), (2, .int .i64 a2), (9, .int .u16 0), (11, .bool true)] [] ∧ j7 () = some r) ∨ (T = St.of [(0, .sl 5 .ro (a0.map (PV.int .u8))), (1, .int .i64 a1), (2, .int .i64 a2), (9, .int .u16 0), (11, .bool (decide (a1 > (a0.length : Int))))] [] ∧ j8 () = some r)) ?_ ?_
  · refine .region ?_
    refine .move ?_
    refine .val ?_
    refine .move ?_
    refine .caseG (fun hc9 => ?_) (fun hc9 => ?_)
    · replace h := (if_pos hc9).symm.trans h
      refine .skip ?_
      refine .skip ?_
      refine .skip ?_
      refine .skip ?_
      refine .brT ?_
      refine .assign ?_
      refine .nil ?_
      exact ⟨_, (.inl ⟨rfl, h⟩), (imp_of (.cons rfl (.cons rfl (.cons rfl (.cons rfl (.cons rfl (.nil)))))) (.nil))⟩
    · replace h := (if_neg (nt hc9)).symm.trans h
      refine .move ?_
      refine .move ?_
      refine .lenL (f := (PV.int .u8)) ?_
      refine .val ?_
      refine .brF ?_
      refine .assign ?_
      refine .nil ?_
      exact ⟨_, (.inr (⟨rfl, h⟩)), (imp_of (.cons rfl (.cons rfl (.cons rfl (.cons rfl (.cons rfl (.nil)))))) (.nil))⟩
  · rintro T (⟨rfl, h⟩ | ⟨rfl, h⟩)
    · subst hj7
      refine .condT ?_
      refine .seq ?_
      refine .region ?_
      refine .assign ?_
      refine .assign ?_
      refine .assign ?_
      refine .nil ?_
      cases h
      exact .ret (fin_gen0 none)
    · subst hj8
      refine .cond (fun hc10 => ?_) (fun hc10 => ?_)
      · replace h := (if_pos hc10).symm.trans h
        refine .seq ?_
        refine .region ?_
        refine .assign ?_
        refine .assign ?_
        refine .assign ?_
        refine .nil ?_
        cases h
        exact .ret (fin_gen0 none)
      · replace h := (if_neg (nt hc10)).symm.trans h
        refine .seq ?_
        refine .region ?_
        refine .move ?_
        refine .lenL (f := (PV.int .u8)) ?_
        refine .move ?_
        refine .val ?_
        refine .move ?_
        refine .val ?_
        refine .assign ?_
        refine .nil ?_
        refine .cond (fun hc11 => ?_) (fun hc11 => ?_)
        · replace h := (if_pos hc11).symm.trans h
          refine .seq ?_
          refine .region ?_
          refine .assign ?_
          refine .assign ?_
          refine .assign ?_
          refine .nil ?_
          cases h
          exact .ret (fin_gen0 none)
        · replace h := (if_neg (nt hc11)).symm.trans h
          refine .skip ?_
          obtain ⟨j35, hj35, h⟩ := joinE h
          refine .cutI (fun T => (∃ (v34 : Int), T = St.of [(1, .int .i64 a1), (2, .int .i64 a2), (9, .int .u16 v34)] [] ∧ j35 v34 = some r)) ?_ ?_
          · refine .seq ?_
            refine .region ?_
            refine .move ?_
            refine .move ?_
            refine .nil ?_
            refine .block ?_
            refine .loopI (fun m T => ∃ (v42 : Int) (v43 : Int), T = St.of [(0, .sl 5 .ro (a0.map (PV.int .u8))), (1, .int .i64 a1), (2, .int .i64 a2), (9, .int .u16 v42), (27, .int .i64 a2), (28, .int .i64 v43)] [] ∧ f65_l1 n a0 a1 a2 j35 m v42 v43 = some r) _ _ ⟨_, _, rfl, h⟩ (imp_of (.cons rfl (.cons rfl (.cons rfl (.cons rfl (.cons rfl (.cons rfl (.nil))))))) (.nil)) ?_
            rintro m52 T ⟨v42, v43, rfl, h⟩
            obtain _ | m52 := m52
            · rw [f65_l1] at h; cases h
            rw [f65_l1] at h
            refine .seq ?_
            refine .region ?_
            refine .val ?_
            refine .nil ?_
            refine .seq ?_
            refine .cond (fun hc54 => ?_) (fun hc54 => ?_)
            · replace h := (if_pos hc54).symm.trans h
              refine .skip ?_
              refine .seq ?_
              refine .block ?_
              refine .seq ?_
              refine .region ?_
              refine .move ?_
              refine .assign ?_
              refine .nil ?_
              refine .region ?_
              refine .move ?_
              refine .move ?_
              refine .move ?_
              refine .move ?_
              refine .val ?_
              obtain ⟨x57, hx57, h⟩ := bindE h
              refine .idxL (f := (PV.int .u8)) hx57 ?_
              refine .ldL hx57 (y := .int .u8 x57) ?_
              refine .val ?_
              refine .move ?_
              refine .val ?_
              obtain ⟨x58, hx58, h⟩ := bindE h
              refine .shlL hx58 ?_
              refine .val ?_
              refine .assign ?_
              refine .nil ?_
              refine .region ?_
              refine .val ?_
              refine .move ?_
              refine .nil ?_
              exact ⟨m52, _, Nat.lt_succ_self m52, ⟨_, _, rfl, h⟩, (imp_of (.cons rfl (.cons rfl (.cons rfl (.cons rfl (.cons rfl (.cons rfl (.nil))))))) (.nil))⟩
            · replace h := (if_neg (nt hc54)).symm.trans h
              refine .exit (.hit ?_)
              exact ⟨_, ⟨_, rfl, h⟩, (imp_of (.cons rfl (.cons rfl (.cons rfl (.nil)))) (.nil))⟩
          · rintro T ⟨v34, rfl, h⟩
            subst hj35
            refine .seq ?_
            refine .region ?_
            refine .move ?_
            refine .move ?_
            refine .move ?_
            refine .val ?_
            refine .assign ?_
            refine .assign ?_
            refine .assign ?_
            refine .nil ?_
            cases h
            exact .ret (fin_gen0 none)

/- soundservice/soundserviceref01.get -/
def f66_l1 (n : Nat) (a0 : (List Int)) (a1 : Int) (j29 : Int → Option (Int × Int × Int)) : Nat → Int → Int → Option (Int × Int × Int)
  | 0, _, _ => none
  | m42 + 1, v34, v35 =>
    if decide (v35 ≥ (0 : Int)) then (
    (lAt a0 (w64 (a1 + v35))).bind fun x46 =>
    f66_l1 n a0 a1 j29 m42 (bitsI .or .u64 (iShlT .u64 v34 (8 : Int)) (IntKind.wrap .u64 (x46))) (w64 (v35 - (1 : Int))))
    else (
    j29 v34)
def f66 (n : Nat) (a0 : (List Int)) (a1 : Int) (a2 : Int) : Option (Int × Int × Int) :=
  joinK (fun (_ : Unit) =>
  some (0, 0, 2)) fun j6 =>
  joinK (fun (_ : Unit) =>
  if decide (a1 > (a0.length : Int)) then (
  some (0, 0, 2))
  else (
  if decide ((w64 ((a0.length : Int) - a1)) < a2) then (
  some (0, 0, 4))
  else (
  joinK (fun (v28 : Int) =>
  some (v28, w64 (a1 + a2), 0)) fun j29 =>
  f66_l1 n a0 a1 j29 n 0 (w64 (a2 - (1 : Int)))))) fun j7 =>
  if decide (a1 < (0 : Int)) then (
  j6 ())
  else (
  j7 ())
set_option maxHeartbeats 4000000 in
set_option maxRecDepth 100000 in
theorem g66 {n : Nat} {a0 : (List Int)} {a1 : Int} {a2 : Int} {r : (Int × Int × Int)} (h : f66 n a0 a1 a2 = some r) :
    Ab.Can Try.prog 66 [.sl 5 .ro (a0.map (PV.int .u8)), .int .i64 a1, .int .i64 a2] H0 (.tup [.int .u64 r.1, .int .i64 r.2.1, .int .i64 r.2.2]) H0 := by
  refine can_of tabOK mix Try.call66 Try.func66 rfl (by kernel_rfl) (by show _ ≤ 45; simp) fun _ => ?_
  rw [f66] at h
  refine .seq ?_
  refine .region ?_
  refine .assign ?_
  refine .assign ?_
  refine .assign ?_
  refine .nil ?_
  refine .seq ?_
  obtain ⟨j6, hj6, h⟩ := joinE h
  obtain ⟨j7, hj7, h⟩ := joinE h
  refine .cutI (fun T => (T = St.of [(0, .sl 5 .ro (a0.map (PV.int .u8))), (1, .int .i64 a1), (2, .int .i64 a2), (18, .bool true)] [] ∧ j6 () = some r) ∨ (T = St.of [(0, .sl 5 .ro (a0.map (PV.int .u8))), (1, .int .i64 a1), (2, .int .i64 a2), (18, .bool (decide (a1 > (a0.length : Int))))] [] ∧ j7 () = some r)) ?_ ?_
  · refine .region ?_
    refine .move ?_
    refine .val ?_
    refine .move ?_
    refine .caseG (fun hc8 => ?_) (fun hc8 => ?_)
    · replace h := (if_pos hc8).symm.trans h
      refine .skip ?_
      refine .skip ?_
      refine .skip ?_
      refine .skip ?_
      refine .brT ?_
      refine .nil ?_
      exact ⟨_, (.inl ⟨rfl, h⟩), (imp_of (.cons rfl (.cons rfl (.cons rfl (.cons rfl (.nil))))) (.nil))⟩
    · replace h := (if_neg (nt hc8)).symm.trans h
      refine .move ?_
      refine .move ?_
      refine .lenL (f := (PV.int .u8)) ?_
      refine .val ?_
      refine .brF ?_
      refine .nil ?_
      exact ⟨_, (.inr (⟨rfl, h⟩)), (imp_of (.cons rfl (.cons rfl (.cons rfl (.cons rfl (.nil))))) (.nil))⟩
  · rintro T (⟨rfl, h⟩ | ⟨rfl, h⟩)
    · subst hj6
      refine .condT ?_
      refine .seq ?_
      refine .region ?_
      refine .assign ?_
      refine .assign ?_
      refine .assign ?_
      refine .nil ?_
      cases h
      exact .ret (fin_gen0 none)
    · subst hj7
      refine .cond (fun hc9 => ?_) (fun hc9 => ?_)
      · replace h := (if_pos hc9).symm.trans h
        refine .seq ?_
        refine .region ?_
        refine .assign ?_
        refine .assign ?_
        refine .assign ?_
        refine .nil ?_
        cases h
        exact .ret (fin_gen0 none)
      · replace h := (if_neg (nt hc9)).symm.trans h
        refine .skip ?_
        refine .seq ?_
        refine .seq ?_
        refine .region ?_
        refine .move ?_
        refine .lenL (f := (PV.int .u8)) ?_
        refine .move ?_
        refine .val ?_
        refine .move ?_
        refine .val ?_
        refine .nil ?_
        refine .cond (fun hc11 => ?_) (fun hc11 => ?_)
        · replace h := (if_pos hc11).symm.trans h
          refine .seq ?_
          refine .region ?_
          refine .assign ?_
          refine .assign ?_
          refine .assign ?_
          refine .nil ?_
          cases h
          exact .ret (fin_gen0 none)
        · replace h := (if_neg (nt hc11)).symm.trans h
          refine .skip ?_
          refine .seq ?_
          refine .region ?_
          refine .assign ?_
          refine .nil ?_
          obtain ⟨j29, hj29, h⟩ := joinE h
          refine .cutI (fun T => (∃ (v28 : Int), T = St.of [(1, .int .i64 a1), (2, .int .i64 a2), (9, .int .u64 v28)] [] ∧ j29 v28 = some r)) ?_ ?_
          · refine .seq ?_
            refine .region ?_
            refine .move ?_
            refine .val ?_
            refine .assign ?_
            refine .nil ?_
            refine .block ?_
            refine .loopI (fun m T => ∃ (v34 : Int) (v35 : Int), T = St.of [(0, .sl 5 .ro (a0.map (PV.int .u8))), (1, .int .i64 a1), (2, .int .i64 a2), (9, .int .u64 v34), (10, .int .i64 v35)] [] ∧ f66_l1 n a0 a1 j29 m v34 v35 = some r) _ _ ⟨_, _, rfl, h⟩ (imp_of (.cons rfl (.cons rfl (.cons rfl (.cons rfl (.cons rfl (.nil)))))) (.nil)) ?_
            rintro m42 T ⟨v34, v35, rfl, h⟩
            obtain _ | m42 := m42
            · rw [f66_l1] at h; cases h
            rw [f66_l1] at h
            refine .seq ?_
            refine .seq ?_
            refine .region ?_
            refine .move ?_
            refine .val ?_
            refine .nil ?_
            refine .cond (fun hc44 => ?_) (fun hc44 => ?_)
            · replace h := (if_pos hc44).symm.trans h
              refine .skip ?_
              refine .seq ?_
              refine .block ?_
              refine .region ?_
              refine .move ?_
              refine .val ?_ (hc := by decide)
              refine .move ?_
              refine .move ?_
              refine .move ?_
              refine .val ?_
              obtain ⟨x46, hx46, h⟩ := bindE h
              refine .idxL (f := (PV.int .u8)) hx46 ?_
              refine .ldL hx46 (y := .int .u8 x46) ?_
              refine .val ?_
              refine .val ?_
              refine .assign ?_
              refine .nil ?_
              refine .region ?_
              refine .move ?_
              refine .val ?_
              refine .assign ?_
              refine .nil ?_
              exact ⟨m42, _, Nat.lt_succ_self m42, ⟨_, _, rfl, h⟩, (imp_of (.cons rfl (.cons rfl (.cons rfl (.cons rfl (.cons rfl (.nil)))))) (.nil))⟩
            · replace h := (if_neg (nt hc44)).symm.trans h
              refine .exit (.hit ?_)
              exact ⟨_, ⟨_, rfl, h⟩, (imp_of (.cons rfl (.cons rfl (.cons rfl (.nil)))) (.nil))⟩
          · rintro T ⟨v28, rfl, h⟩
            subst hj29
            refine .seq ?_
            refine .region ?_
            refine .move ?_
            refine .move ?_
            refine .move ?_
            refine .val ?_
            refine .assign ?_
            refine .assign ?_
            refine .assign ?_
            refine .nil ?_
            cases h
            exact .ret (fin_gen0 none)

/- soundservice/wire.get[uint64] -/
def f67_l1 (n : Nat) (a0 : (List Int)) (a1 : Int) (a2 : Int) (j35 : Int → Option (Int × Int × Int)) : Nat → Int → Int → Option (Int × Int × Int)
  | 0, _, _ => none
  | m52 + 1, v42, v43 =>
    if decide (v43 < a2) then (
    (lAt a0 (w64 (a1 + v43))).bind fun x57 =>
    (iShl .u64 (IntKind.wrap .u64 (x57)) (w64 ((8 : Int) * v43))).bind fun x58 =>
    f67_l1 n a0 a1 a2 j35 m52 (bitsI .or .u64 v42 x58) (w64 (v43 + (1 : Int))))
    else (
    j35 v42)
def f67 (n : Nat) (a0 : (List Int)) (a1 : Int) (a2 : Int) : Option (Int × Int × Int) :=
  joinK (fun (_ : Unit) =>
  some (0, 0, 2)) fun j7 =>
  joinK (fun (_ : Unit) =>
  if decide (a1 > (a0.length : Int)) then (
  some (0, 0, 2))
  else (
  if decide ((w64 ((a0.length : Int) - a1)) < a2) then (
  some (0, 0, 4))
  else (
  joinK (fun (v34 : Int) =>
  some (v34, w64 (a1 + a2), 0)) fun j35 =>
  f67_l1 n a0 a1 a2 j35 n 0 0))) fun j8 =>
  if decide (a1 < (0 : Int)) then (
  j7 ())
  else (
  j8 ())
set_option maxHeartbeats 4000000 in
set_option maxRecDepth 100000 in
theorem g67 {n : Nat} {a0 : (List Int)} {a1 : Int} {a2 : Int} {r : (Int × Int × Int)} (h : f67 n a0 a1 a2 = some r) :
    Ab.Can Try.prog 67 [.sl 5 .ro (a0.map (PV.int .u8)), .int .i64 a1, .int .i64 a2] H0 (.tup [.int .u64 r.1, .int .i64 r.2.1, .int .i64 r.2.2]) H0 := by
  refine can_of tabOK mix Try.call67 Try.func67 rfl (by kernel_rfl) (by show _ ≤ 48; simp) fun _ => ?_
  rw [f67] at h
  refine .seq ?_
  refine .region ?_
  refine .assign ?_
  refine .assign ?_
  refine .assign ?_
  refine .nil ?_
  refine .seq ?_
  refine .region ?_
  refine .assign ?_
  refine .nil ?_
  refine .seq ?_
  refine .block ?_
  obtain ⟨j7, hj7, h⟩ := joinE h
  obtain ⟨j8, hj8, h⟩ := joinE h
  refine .cutI (fun T => (T = St.of [(0, .sl 5 .ro (a0.map (PV.int .u8))), (1, .int .i64 a1), (2, .int .i64 a2), (9, .int .u64 0), (11, .bool true)] [] ∧ j7 () = some r) ∨ (T = St.of [(0, .sl 5 .ro (a0.map (PV.int .u8))), (1, .int .i64 a1), (2, .int .i64 a2), (9, .int .u64 0), (11, .bool (decide (a1 > (a0.length : Int))))] [] ∧ j8 () = some r)) ?_ ?_
  · refine .region ?_
    refine .move ?_
    refine .val ?_
    refine .move ?_
    refine .caseG (fun hc9 => ?_) (fun hc9 => ?_)
    · replace h := (if_pos hc9).symm.trans h
      refine .skip ?_
      refine .skip ?_
      refine .skip ?_
      refine .skip ?_
      refine .brT ?_
      refine .assign ?_
      refine .nil ?_
      exact ⟨_, (.inl ⟨rfl, h⟩), (imp_of (.cons rfl (.cons rfl (.cons rfl (.cons rfl (.cons rfl (.nil)))))) (.nil))⟩
    · replace h := (if_neg (nt hc9)).symm.trans h
      refine .move ?_
      refine .move ?_
      refine .lenL (f := (PV.int .u8)) ?_
      refine .val ?_
      refine .brF ?_
      refine .assign ?_
      refine .nil ?_
      exact ⟨_, (.inr (⟨rfl, h⟩)), (imp_of (.cons rfl (.cons rfl (.cons rfl (.cons rfl (.cons rfl (.nil)))))) (.nil))⟩
  · rintro T (⟨rfl, h⟩ | ⟨rfl, h⟩)
    · subst hj7
      refine .condT ?_
      refine .seq ?_
      refine .region ?_
      refine .assign ?_
      refine .assign ?_
      refine .assign ?_
      refine .nil ?_
      cases h
      exact .ret (fin_gen0 none)
    · subst hj8
      refine .cond (fun hc10 => ?_) (fun hc10 => ?_)
      · replace h := (if_pos hc10).symm.trans h
        refine .seq ?_
        refine .region ?_
        refine .assign ?_
        refine .assign ?_
        refine .assign ?_
        refine .nil ?_
        cases h
        exact .ret (fin_gen0 none)
      · replace h := (if_neg (nt hc10)).symm.trans h
        refine .seq ?_
        refine .region ?_
        refine .move ?_
        refine .lenL (f := (PV.int .u8)) ?_
        refine .move ?_
        refine .val ?_
        refine .move ?_
        refine .val ?_
        refine .assign ?_
        refine .nil ?_
        refine .cond (fun hc11 => ?_) (fun hc11 => ?_)
        · replace h := (if_pos hc11).symm.trans h
          refine .seq ?_
          refine .region ?_
          refine .assign ?_
          refine .assign ?_
          refine .assign ?_
          refine .nil ?_
          cases h
          exact .ret (fin_gen0 none)
        · replace h := (if_neg (nt hc11)).symm.trans h
          refine .skip ?_
          obtain ⟨j35, hj35, h⟩ := joinE h
          refine .cutI (fun T => (∃ (v34 : Int), T = St.of [(1, .int .i64 a1), (2, .int .i64 a2), (9, .int .u64 v34)] [] ∧ j35 v34 = some r)) ?_ ?_
          · refine .seq ?_
            refine .region ?_
            refine .move ?_
            refine .move ?_
            refine .nil ?_
            refine .block ?_
            refine .loopI (fun m T => ∃ (v42 : Int) (v43 : Int), T = St.of [(0, .sl 5 .ro (a0.map (PV.int .u8))), (1, .int .i64 a1), (2, .int .i64 a2), (9, .int .u64 v42), (27, .int .i64 a2), (28, .int .i64 v43)] [] ∧ f67_l1 n a0 a1 a2 j35 m v42 v43 = some r) _ _ ⟨_, _, rfl, h⟩ (imp_of (.cons rfl (.cons rfl (.cons rfl (.cons rfl (.cons rfl (.cons rfl (.nil))))))) (.nil)) ?_
            rintro m52 T ⟨v42, v43, rfl, h⟩
            obtain _ | m52 := m52
            · rw [f67_l1] at h; cases h
            rw [f67_l1] at h
            refine .seq ?_
            refine .region ?_
            refine .val ?_
            refine .nil ?_
            refine .seq ?_
            refine .cond (fun hc54 => ?_) (fun hc54 => ?_)
            · replace h := (if_pos hc54).symm.trans h
              refine .skip ?_
              refine .seq ?_
              refine .block ?_
              refine .seq ?_
              refine .region ?_
              refine .move ?_
              refine .assign ?_
              refine .nil ?_
              refine .region ?_
              refine .move ?_
              refine .move ?_
              refine .move ?_
              refine .move ?_
              refine .val ?_
              obtain ⟨x57, hx57, h⟩ := bindE h
              refine .idxL (f := (PV.int .u8)) hx57 ?_
              refine .ldL hx57 (y := .int .u8 x57) ?_
              refine .val ?_
              refine .move ?_
              refine .val ?_
              obtain ⟨x58, hx58, h⟩ := bindE h
              refine .shlL hx58 ?_
              refine .val ?_
              refine .assign ?_
              refine .nil ?_
              refine .region ?_
              refine .val ?_
              refine .move ?_
              refine .nil ?_
              exact ⟨m52, _, Nat.lt_succ_self m52, ⟨_, _, rfl, h⟩, (imp_of (.cons rfl (.cons rfl (.cons rfl (.cons rfl (.cons rfl (.cons rfl (.nil))))))) (.nil))⟩
            · replace h := (if_neg (nt hc54)).symm.trans h
              refine .exit (.hit ?_)
              exact ⟨_, ⟨_, rfl, h⟩, (imp_of (.cons rfl (.cons rfl (.cons rfl (.nil)))) (.nil))⟩
          · rintro T ⟨v34, rfl, h⟩
            subst hj35
            refine .seq ?_
            refine .region ?_
            refine .move ?_
            refine .move ?_
            refine .move ?_
            refine .val ?_
            refine .assign ?_
            refine .assign ?_
            refine .assign ?_
            refine .nil ?_
            cases h
            exact .ret (fin_gen0 none)
end Go.Proofs.Ytcahjpkmldmjdaa
