/-
  Plain functions of soundserviceref01, wire, and that the code does what they say.
-/
import Derived.Test.YtcahjpkmldmjdaaTy
namespace Go.Proofs.Ytcahjpkmldmjdaa
open Go Ab
/- soundservice/wire.put[uint16] -/
def f61_l1 (n : Nat) (a2 : Int) (j19 : (List Int) → Option (List Int)) : Nat → Int → (List Int) → Int → Option (List Int)
  | 0, _, _, _ => none
  | m32 + 1, v22, v23, v25 =>
    if decide (v25 < a2) then (
    (lApp v23 ([IntKind.wrap .u8 (v22)] : List Int)).bind fun x36 =>
    f61_l1 n a2 j19 m32 (iShrT .u16 v22 (8 : Int)) x36 (w64 (v25 + (1 : Int))))
    else (
    j19 v23)
def f61 (n : Nat) (a0 : (List Int)) (a1 : Int) (a2 : Int) : Option (List Int) :=
  (lMake (0 : Int) (w64 ((a0.length : Int) + a2)) (0 : Int)).bind fun x1 =>
  (lApp x1 a0).bind fun x2 =>
  joinK (fun (v17 : (List Int)) =>
  some v17) fun j19 =>
  f61_l1 n a2 j19 n a1 x2 0
set_option maxHeartbeats 4000000 in
set_option maxRecDepth 100000 in
theorem g61 {n : Nat} {a0 : (List Int)} {a1 : Int} {a2 : Int} {r : (List Int)} (h : f61 n a0 a1 a2 = some r) :
    Ab.Can Try.prog 61 [.sl 5 .ro (a0.map (PV.int .u8)), .int .u16 a1, .int .i64 a2] H0 (.sl 5 (.own (.rrow 0)) (r.map (PV.int .u8))) H0 := by
  refine can_of tabOK mix Try.call61 Try.func61 rfl (by kernel_rfl) (by show _ ≤ 27; simp) fun _ => ?_
  rw [f61] at h
  refine .seq ?_
  refine .region ?_
  refine .assign ?_
  refine .nil ?_
  refine .seq ?_
  refine .region ?_
  refine .move ?_
  refine .lenL (f := (PV.int .u8)) ?_
  refine .move ?_
  refine .val ?_
  obtain ⟨x1, hx1, h⟩ := bindE h
  refine .makeL (f := (PV.int .u8)) hx1 ?_
  refine .move ?_
  obtain ⟨x2, hx2, h⟩ := bindE h
  refine .appL (f := (PV.int .u8)) hx2 ?_
  refine .assign ?_
  refine .nil ?_
  obtain ⟨j19, hj19, h⟩ := joinE h
  refine .cutI (fun T => (∃ (v17 : (List Int)), T = St.of [(7, .sl 5 (.own (.row 9018 0)) (v17.map (PV.int .u8)))] [] ∧ j19 v17 = some r)) ?_ ?_
  · refine .seq ?_
    refine .region ?_
    refine .move ?_
    refine .move ?_
    refine .nil ?_
    refine .block ?_
    refine .loopI (fun m T => ∃ (v22 : Int) (v23 : (List Int)) (v25 : Int), T = St.of [(1, .int .u16 v22), (7, .sl 5 (.own (.row 9024 0)) (v23.map (PV.int .u8))), (15, .int .i64 a2), (16, .int .i64 v25)] [] ∧ f61_l1 n a2 j19 m v22 v23 v25 = some r) _ _ ⟨_, _, _, rfl, h⟩ (Imp.trans (Imp.swap (.row 1 6) (.row 9024 0) rfl rfl rfl) (imp_of (.cons rfl (.cons rfl (.cons rfl (.cons rfl (.nil))))) (.nil))) ?_
    rintro m32 T ⟨v22, v23, v25, rfl, h⟩
    obtain _ | m32 := m32
    · rw [f61_l1] at h; cases h
    rw [f61_l1] at h
    refine .seq ?_
    refine .region ?_
    refine .val ?_
    refine .nil ?_
    refine .seq ?_
    refine .cond (fun hc34 => ?_) (fun hc34 => ?_)
    · replace h := (if_pos hc34).symm.trans h
      refine .skip ?_
      refine .seq ?_
      refine .block ?_
      refine .seq ?_
      refine .region ?_
      refine .move ?_
      refine .move ?_
      refine .val ?_
      refine .litR (f := (PV.int .u8)) ([IntKind.wrap .u8 (v22)] : List Int) ?_
      obtain ⟨x36, hx36, h⟩ := bindE h
      refine .appL (f := (PV.int .u8)) hx36 ?_
      refine .assign ?_
      refine .nil ?_
      refine .region ?_
      refine .move ?_
      refine .val ?_ (hc := by decide)
      refine .assign ?_
      refine .nil ?_
      refine .region ?_
      refine .val ?_
      refine .move ?_
      refine .nil ?_
      exact ⟨m32, _, Nat.lt_succ_self m32, ⟨_, _, _, rfl, h⟩, (Imp.trans (Imp.swap (.row 4 4) (.row 9024 0) rfl rfl rfl) (imp_of (.cons rfl (.cons rfl (.cons rfl (.cons rfl (.nil))))) (.nil)))⟩
    · replace h := (if_neg (nt hc34)).symm.trans h
      refine .exit (.hit ?_)
      exact ⟨_, ⟨_, rfl, h⟩, (Imp.trans (Imp.swap (.row 9024 0) (.row 9018 0) rfl rfl rfl) (imp_of (.cons rfl (.nil)) (.nil)))⟩
  · rintro T ⟨v17, rfl, h⟩
    subst hj19
    refine .seq ?_
    refine .region ?_
    refine .move ?_
    refine .assign ?_
    refine .nil ?_
    cases h
    exact .ret (fin_gen0 (some (.row 9018 0)))
theorem g61r {n : Nat} {a0 : (List Int)} {a1 : Int} {a2 : Int} {r : (List Int)} (h : f61 n a0 a1 a2 = some r) :
    Ab.Can Try.prog 61 [.sl 5 .ro (a0.map (PV.int .u8)), .int .u16 a1, .int .i64 a2] H0 (.sl 5 .ro (r.map (PV.int .u8))) H0 := Can.frzR (hq := []) (g61 h)

/- soundservice/soundserviceref01.put -/
def f60_l1 (n : Nat) (a1 : Int) (a2 : Int) (j19 : (List Int) → Option (List Int)) : Nat → (List Int) → Int → Option (List Int)
  | 0, _, _ => none
  | m32 + 1, v23, v25 =>
    if decide (v25 < a2) then (
    (iShr .u64 a1 (w64 ((8 : Int) * v25))).bind fun x37 =>
    (lApp v23 ([IntKind.wrap .u8 (x37)] : List Int)).bind fun x38 =>
    f60_l1 n a1 a2 j19 m32 x38 (w64 (v25 + (1 : Int))))
    else (
    j19 v23)
def f60 (n : Nat) (a0 : (List Int)) (a1 : Int) (a2 : Int) : Option (List Int) :=
  (lApp ([] : List Int) a0).bind fun x1 =>
  joinK (fun (v17 : (List Int)) =>
  some v17) fun j19 =>
  f60_l1 n a1 a2 j19 n x1 0
set_option maxHeartbeats 4000000 in
set_option maxRecDepth 100000 in
theorem g60 {n : Nat} {a0 : (List Int)} {a1 : Int} {a2 : Int} {r : (List Int)} (h : f60 n a0 a1 a2 = some r) :
    Ab.Can Try.prog 60 [.sl 5 .ro (a0.map (PV.int .u8)), .int .u64 a1, .int .i64 a2] H0 (.sl 5 (.own (.rrow 0)) (r.map (PV.int .u8))) H0 := by
  refine can_of tabOK mix Try.call60 Try.func60 rfl (by kernel_rfl) (by show _ ≤ 25; simp) fun _ => ?_
  rw [f60] at h
  refine .seq ?_
  refine .region ?_
  refine .assign ?_
  refine .nil ?_
  refine .seq ?_
  refine .region ?_
  refine .move ?_
  obtain ⟨x1, hx1, h⟩ := bindE h
  refine .appN (f := (PV.int .u8)) hx1 ?_
  refine .assign ?_
  refine .nil ?_
  obtain ⟨j19, hj19, h⟩ := joinE h
  refine .cutI (fun T => (∃ (v17 : (List Int)), T = St.of [(7, .sl 5 (.own (.row 9018 0)) (v17.map (PV.int .u8)))] [] ∧ j19 v17 = some r)) ?_ ?_
  · refine .seq ?_
    refine .region ?_
    refine .assign ?_
    refine .nil ?_
    refine .block ?_
    refine .loopI (fun m T => ∃ (v23 : (List Int)) (v25 : Int), T = St.of [(1, .int .u64 a1), (2, .int .i64 a2), (7, .sl 5 (.own (.row 9024 0)) (v23.map (PV.int .u8))), (8, .int .i64 v25)] [] ∧ f60_l1 n a1 a2 j19 m v23 v25 = some r) _ _ ⟨_, _, rfl, h⟩ (Imp.trans (Imp.swap (.row 1 1) (.row 9024 0) rfl rfl rfl) (imp_of (.cons rfl (.cons rfl (.cons rfl (.cons rfl (.nil))))) (.nil))) ?_
    rintro m32 T ⟨v23, v25, rfl, h⟩
    obtain _ | m32 := m32
    · rw [f60_l1] at h; cases h
    rw [f60_l1] at h
    refine .seq ?_
    refine .seq ?_
    refine .region ?_
    refine .move ?_
    refine .move ?_
    refine .val ?_
    refine .nil ?_
    refine .cond (fun hc34 => ?_) (fun hc34 => ?_)
    · replace h := (if_pos hc34).symm.trans h
      refine .skip ?_
      refine .seq ?_
      refine .block ?_
      refine .region ?_
      refine .move ?_
      refine .move ?_
      refine .move ?_
      refine .val ?_
      obtain ⟨x37, hx37, h⟩ := bindE h
      refine .shrL hx37 ?_
      refine .val ?_
      refine .litR (f := (PV.int .u8)) ([IntKind.wrap .u8 (x37)] : List Int) ?_
      obtain ⟨x38, hx38, h⟩ := bindE h
      refine .appL (f := (PV.int .u8)) hx38 ?_
      refine .assign ?_
      refine .nil ?_
      refine .region ?_
      refine .move ?_
      refine .val ?_
      refine .assign ?_
      refine .nil ?_
      exact ⟨m32, _, Nat.lt_succ_self m32, ⟨_, _, rfl, h⟩, (Imp.trans (Imp.swap (.row 5 7) (.row 9024 0) rfl rfl rfl) (imp_of (.cons rfl (.cons rfl (.cons rfl (.cons rfl (.nil))))) (.nil)))⟩
    · replace h := (if_neg (nt hc34)).symm.trans h
      refine .exit (.hit ?_)
      exact ⟨_, ⟨_, rfl, h⟩, (Imp.trans (Imp.swap (.row 9024 0) (.row 9018 0) rfl rfl rfl) (imp_of (.cons rfl (.nil)) (.nil)))⟩
  · rintro T ⟨v17, rfl, h⟩
    subst hj19
    refine .seq ?_
    refine .region ?_
    refine .move ?_
    refine .assign ?_
    refine .nil ?_
    cases h
    exact .ret (fin_gen0 (some (.row 9018 0)))
theorem g60r {n : Nat} {a0 : (List Int)} {a1 : Int} {a2 : Int} {r : (List Int)} (h : f60 n a0 a1 a2 = some r) :
    Ab.Can Try.prog 60 [.sl 5 .ro (a0.map (PV.int .u8)), .int .u64 a1, .int .i64 a2] H0 (.sl 5 .ro (r.map (PV.int .u8))) H0 := Can.frzR (hq := []) (g60 h)

/- soundservice/wire.put[uint32] -/
def f62_l1 (n : Nat) (a2 : Int) (j19 : (List Int) → Option (List Int)) : Nat → Int → (List Int) → Int → Option (List Int)
  | 0, _, _, _ => none
  | m32 + 1, v22, v23, v25 =>
    if decide (v25 < a2) then (
    (lApp v23 ([IntKind.wrap .u8 (v22)] : List Int)).bind fun x36 =>
    f62_l1 n a2 j19 m32 (iShrT .u32 v22 (8 : Int)) x36 (w64 (v25 + (1 : Int))))
    else (
    j19 v23)
def f62 (n : Nat) (a0 : (List Int)) (a1 : Int) (a2 : Int) : Option (List Int) :=
  (lMake (0 : Int) (w64 ((a0.length : Int) + a2)) (0 : Int)).bind fun x1 =>
  (lApp x1 a0).bind fun x2 =>
  joinK (fun (v17 : (List Int)) =>
  some v17) fun j19 =>
  f62_l1 n a2 j19 n a1 x2 0
set_option maxHeartbeats 4000000 in
set_option maxRecDepth 100000 in
theorem g62 {n : Nat} {a0 : (List Int)} {a1 : Int} {a2 : Int} {r : (List Int)} (h : f62 n a0 a1 a2 = some r) :
    Ab.Can Try.prog 62 [.sl 5 .ro (a0.map (PV.int .u8)), .int .u32 a1, .int .i64 a2] H0 (.sl 5 (.own (.rrow 0)) (r.map (PV.int .u8))) H0 := by
  refine can_of tabOK mix Try.call62 Try.func62 rfl (by kernel_rfl) (by show _ ≤ 27; simp) fun _ => ?_
  rw [f62] at h
  refine .seq ?_
  refine .region ?_
  refine .assign ?_
  refine .nil ?_
  refine .seq ?_
  refine .region ?_
  refine .move ?_
  refine .lenL (f := (PV.int .u8)) ?_
  refine .move ?_
  refine .val ?_
  obtain ⟨x1, hx1, h⟩ := bindE h
  refine .makeL (f := (PV.int .u8)) hx1 ?_
  refine .move ?_
  obtain ⟨x2, hx2, h⟩ := bindE h
  refine .appL (f := (PV.int .u8)) hx2 ?_
  refine .assign ?_
  refine .nil ?_
  obtain ⟨j19, hj19, h⟩ := joinE h
  refine .cutI (fun T => (∃ (v17 : (List Int)), T = St.of [(7, .sl 5 (.own (.row 9018 0)) (v17.map (PV.int .u8)))] [] ∧ j19 v17 = some r)) ?_ ?_
  · refine .seq ?_
    refine .region ?_
    refine .move ?_
    refine .move ?_
    refine .nil ?_
    refine .block ?_
    refine .loopI (fun m T => ∃ (v22 : Int) (v23 : (List Int)) (v25 : Int), T = St.of [(1, .int .u32 v22), (7, .sl 5 (.own (.row 9024 0)) (v23.map (PV.int .u8))), (15, .int .i64 a2), (16, .int .i64 v25)] [] ∧ f62_l1 n a2 j19 m v22 v23 v25 = some r) _ _ ⟨_, _, _, rfl, h⟩ (Imp.trans (Imp.swap (.row 1 6) (.row 9024 0) rfl rfl rfl) (imp_of (.cons rfl (.cons rfl (.cons rfl (.cons rfl (.nil))))) (.nil))) ?_
    rintro m32 T ⟨v22, v23, v25, rfl, h⟩
    obtain _ | m32 := m32
    · rw [f62_l1] at h; cases h
    rw [f62_l1] at h
    refine .seq ?_
    refine .region ?_
    refine .val ?_
    refine .nil ?_
    refine .seq ?_
    refine .cond (fun hc34 => ?_) (fun hc34 => ?_)
    · replace h := (if_pos hc34).symm.trans h
      refine .skip ?_
      refine .seq ?_
      refine .block ?_
      refine .seq ?_
      refine .region ?_
      refine .move ?_
      refine .move ?_
      refine .val ?_
      refine .litR (f := (PV.int .u8)) ([IntKind.wrap .u8 (v22)] : List Int) ?_
      obtain ⟨x36, hx36, h⟩ := bindE h
      refine .appL (f := (PV.int .u8)) hx36 ?_
      refine .assign ?_
      refine .nil ?_
      refine .region ?_
      refine .move ?_
      refine .val ?_ (hc := by decide)
      refine .assign ?_
      refine .nil ?_
      refine .region ?_
      refine .val ?_
      refine .move ?_
      refine .nil ?_
      exact ⟨m32, _, Nat.lt_succ_self m32, ⟨_, _, _, rfl, h⟩, (Imp.trans (Imp.swap (.row 4 4) (.row 9024 0) rfl rfl rfl) (imp_of (.cons rfl (.cons rfl (.cons rfl (.cons rfl (.nil))))) (.nil)))⟩
    · replace h := (if_neg (nt hc34)).symm.trans h
      refine .exit (.hit ?_)
      exact ⟨_, ⟨_, rfl, h⟩, (Imp.trans (Imp.swap (.row 9024 0) (.row 9018 0) rfl rfl rfl) (imp_of (.cons rfl (.nil)) (.nil)))⟩
  · rintro T ⟨v17, rfl, h⟩
    subst hj19
    refine .seq ?_
    refine .region ?_
    refine .move ?_
    refine .assign ?_
    refine .nil ?_
    cases h
    exact .ret (fin_gen0 (some (.row 9018 0)))
theorem g62r {n : Nat} {a0 : (List Int)} {a1 : Int} {a2 : Int} {r : (List Int)} (h : f62 n a0 a1 a2 = some r) :
    Ab.Can Try.prog 62 [.sl 5 .ro (a0.map (PV.int .u8)), .int .u32 a1, .int .i64 a2] H0 (.sl 5 .ro (r.map (PV.int .u8))) H0 := Can.frzR (hq := []) (g62 h)

/- soundservice/wire.put[uint64] -/
def f63_l1 (n : Nat) (a2 : Int) (j19 : (List Int) → Option (List Int)) : Nat → Int → (List Int) → Int → Option (List Int)
  | 0, _, _, _ => none
  | m32 + 1, v22, v23, v25 =>
    if decide (v25 < a2) then (
    (lApp v23 ([IntKind.wrap .u8 (v22)] : List Int)).bind fun x36 =>
    f63_l1 n a2 j19 m32 (iShrT .u64 v22 (8 : Int)) x36 (w64 (v25 + (1 : Int))))
    else (
    j19 v23)
def f63 (n : Nat) (a0 : (List Int)) (a1 : Int) (a2 : Int) : Option (List Int) :=
  (lMake (0 : Int) (w64 ((a0.length : Int) + a2)) (0 : Int)).bind fun x1 =>
  (lApp x1 a0).bind fun x2 =>
  joinK (fun (v17 : (List Int)) =>
  some v17) fun j19 =>
  f63_l1 n a2 j19 n a1 x2 0
set_option maxHeartbeats 4000000 in
set_option maxRecDepth 100000 in
theorem g63 {n : Nat} {a0 : (List Int)} {a1 : Int} {a2 : Int} {r : (List Int)} (h : f63 n a0 a1 a2 = some r) :
    Ab.Can Try.prog 63 [.sl 5 .ro (a0.map (PV.int .u8)), .int .u64 a1, .int .i64 a2] H0 (.sl 5 (.own (.rrow 0)) (r.map (PV.int .u8))) H0 := by
  refine can_of tabOK mix Try.call63 Try.func63 rfl (by kernel_rfl) (by show _ ≤ 27; simp) fun _ => ?_
  rw [f63] at h
  refine .seq ?_
  refine .region ?_
  refine .assign ?_
  refine .nil ?_
  refine .seq ?_
  refine .region ?_
  refine .move ?_
  refine .lenL (f := (PV.int .u8)) ?_
  refine .move ?_
  refine .val ?_
  obtain ⟨x1, hx1, h⟩ := bindE h
  refine .makeL (f := (PV.int .u8)) hx1 ?_
  refine .move ?_
  obtain ⟨x2, hx2, h⟩ := bindE h
  refine .appL (f := (PV.int .u8)) hx2 ?_
  refine .assign ?_
  refine .nil ?_
  obtain ⟨j19, hj19, h⟩ := joinE h
  refine .cutI (fun T => (∃ (v17 : (List Int)), T = St.of [(7, .sl 5 (.own (.row 9018 0)) (v17.map (PV.int .u8)))] [] ∧ j19 v17 = some r)) ?_ ?_
  · refine .seq ?_
    refine .region ?_
    refine .move ?_
    refine .move ?_
    refine .nil ?_
    refine .block ?_
    refine .loopI (fun m T => ∃ (v22 : Int) (v23 : (List Int)) (v25 : Int), T = St.of [(1, .int .u64 v22), (7, .sl 5 (.own (.row 9024 0)) (v23.map (PV.int .u8))), (15, .int .i64 a2), (16, .int .i64 v25)] [] ∧ f63_l1 n a2 j19 m v22 v23 v25 = some r) _ _ ⟨_, _, _, rfl, h⟩ (Imp.trans (Imp.swap (.row 1 6) (.row 9024 0) rfl rfl rfl) (imp_of (.cons rfl (.cons rfl (.cons rfl (.cons rfl (.nil))))) (.nil))) ?_
    rintro m32 T ⟨v22, v23, v25, rfl, h⟩
    obtain _ | m32 := m32
    · rw [f63_l1] at h; cases h
    rw [f63_l1] at h
    refine .seq ?_
    refine .region ?_
    refine .val ?_
    refine .nil ?_
    refine .seq ?_
    refine .cond (fun hc34 => ?_) (fun hc34 => ?_)
    · replace h := (if_pos hc34).symm.trans h
      refine .skip ?_
      refine .seq ?_
      refine .block ?_
      refine .seq ?_
      refine .region ?_
      refine .move ?_
      refine .move ?_
      refine .val ?_
      refine .litR (f := (PV.int .u8)) ([IntKind.wrap .u8 (v22)] : List Int) ?_
      obtain ⟨x36, hx36, h⟩ := bindE h
      refine .appL (f := (PV.int .u8)) hx36 ?_
      refine .assign ?_
      refine .nil ?_
      refine .region ?_
      refine .move ?_
      refine .val ?_ (hc := by decide)
      refine .assign ?_
      refine .nil ?_
      refine .region ?_
      refine .val ?_
      refine .move ?_
      refine .nil ?_
      exact ⟨m32, _, Nat.lt_succ_self m32, ⟨_, _, _, rfl, h⟩, (Imp.trans (Imp.swap (.row 4 4) (.row 9024 0) rfl rfl rfl) (imp_of (.cons rfl (.cons rfl (.cons rfl (.cons rfl (.nil))))) (.nil)))⟩
    · replace h := (if_neg (nt hc34)).symm.trans h
      refine .exit (.hit ?_)
      exact ⟨_, ⟨_, rfl, h⟩, (Imp.trans (Imp.swap (.row 9024 0) (.row 9018 0) rfl rfl rfl) (imp_of (.cons rfl (.nil)) (.nil)))⟩
  · rintro T ⟨v17, rfl, h⟩
    subst hj19
    refine .seq ?_
    refine .region ?_
    refine .move ?_
    refine .assign ?_
    refine .nil ?_
    cases h
    exact .ret (fin_gen0 (some (.row 9018 0)))
theorem g63r {n : Nat} {a0 : (List Int)} {a1 : Int} {a2 : Int} {r : (List Int)} (h : f63 n a0 a1 a2 = some r) :
    Ab.Can Try.prog 63 [.sl 5 .ro (a0.map (PV.int .u8)), .int .u64 a1, .int .i64 a2] H0 (.sl 5 .ro (r.map (PV.int .u8))) H0 := Can.frzR (hq := []) (g63 h)

/- soundservice/wire.get[uint32] -/
def f64_l1 (n : Nat) (a0 : (List Int)) (a1 : Int) (a2 : Int) (j26 : Int → Option (Int × Int × Int)) : Nat → Int → Int → Option (Int × Int × Int)
  | 0, _, _ => none
  | m37 + 1, v30, v31 =>
    if decide (v31 < a2) then (
    (lAt a0 (w64 (a1 + v31))).bind fun x42 =>
    (iShl .u32 (IntKind.wrap .u32 (x42)) (w64 ((8 : Int) * v31))).bind fun x43 =>
    f64_l1 n a0 a1 a2 j26 m37 (bitsI .or .u32 v30 x43) (w64 (v31 + (1 : Int))))
    else (
    j26 v30)
def f64 (n : Nat) (a0 : (List Int)) (a1 : Int) (a2 : Int) : Option (Int × Int × Int) :=
  joinK (fun (_ : Unit) =>
  some (0, 0, 2)) fun j7 =>
  joinK (fun (_ : Unit) =>
  if decide (a1 > (a0.length : Int)) then (
  some (0, 0, 2))
  else (
  if decide ((w64 ((a0.length : Int) - a1)) < a2) then (
  some (0, 0, 4))
  else (
  joinK (fun (v25 : Int) =>
  some (v25, w64 (a1 + a2), 0)) fun j26 =>
  f64_l1 n a0 a1 a2 j26 n 0 0))) fun j8 =>
  if decide (a1 < (0 : Int)) then (
  j7 ())
  else (
  j8 ())
set_option maxHeartbeats 4000000 in
set_option maxRecDepth 100000 in
theorem g64 {n : Nat} {a0 : (List Int)} {a1 : Int} {a2 : Int} {r : (Int × Int × Int)} (h : f64 n a0 a1 a2 = some r) :
    Ab.Can Try.prog 64 [.sl 5 .ro (a0.map (PV.int .u8)), .int .i64 a1, .int .i64 a2] H0 (.tup [.int .u32 r.1, .int .i64 r.2.1, .int .i64 r.2.2]) H0 := by
  refine can_of tabOK mix Try.call64 Try.func64 rfl (by kernel_rfl) (by show _ ≤ 48; simp) fun _ => ?_
  rw [f64] at h
  refine .seq ?_
  refine .region ?_
  refine .assign ?_
  refine .assign ?_
  refine .assign ?_
  refine .nil ?_
  refine .seq ?_
  refine .region ?_
  refine .assign ?_
  refine .nil ?_
  refine .seq ?_
  refine .block ?_
  obtain ⟨j7, hj7, h⟩ := joinE h
  obtain ⟨j8, hj8, h⟩ := joinE h
  refine .cutI (fun T => (T = St.of [(0, .sl 5 .ro (a0.map (PV.int .u8))), (1, .int .i64 a1), (2, .int .i64 a2), (9, .int .u32 0), (11, .bool true)] [] ∧ j7 () = some r) ∨ (T = St.of [(0, .sl 5 .ro (a0.map (PV.int .u8))), (1, .int .i64 a1), (2, .int .i64 a2), (9, .int .u32 0), (11, .bool (decide (a1 > (a0.length : Int))))] [] ∧ j8 () = some r)) ?_ ?_
  · refine .region ?_
    refine .move ?_
    refine .val ?_
    refine .move ?_
    refine .caseG (fun hc9 => ?_) (fun hc9 => ?_)
    · replace h := (if_pos hc9).symm.trans h
      refine .skip ?_
      refine .skip ?_
      refine .skip ?_
      refine .skip ?_
      refine .brT ?_
      refine .assign ?_
      refine .nil ?_
      exact ⟨_, (.inl ⟨rfl, h⟩), (imp_of (.cons rfl (.cons rfl (.cons rfl (.cons rfl (.cons rfl (.nil)))))) (.nil))⟩
    · replace h := (if_neg (nt hc9)).symm.trans h
      refine .move ?_
      refine .move ?_
      refine .lenL (f := (PV.int .u8)) ?_
      refine .val ?_
      refine .brF ?_
      refine .assign ?_
      refine .nil ?_
      exact ⟨_, (.inr (⟨rfl, h⟩)), (imp_of (.cons rfl (.cons rfl (.cons rfl (.cons rfl (.cons rfl (.nil)))))) (.nil))⟩
  · rintro T (⟨rfl, h⟩ | ⟨rfl, h⟩)
    · subst hj7
      refine .condT ?_
      refine .seq ?_
      refine .region ?_
      refine .assign ?_
      refine .assign ?_
      refine .assign ?_
      refine .nil ?_
      cases h
      exact .ret (fin_gen0 none)
    · subst hj8
      refine .cond (fun hc10 => ?_) (fun hc10 => ?_)
      · replace h := (if_pos hc10).symm.trans h
        refine .seq ?_
        refine .region ?_
        refine .assign ?_
        refine .assign ?_
        refine .assign ?_
        refine .nil ?_
        cases h
        exact .ret (fin_gen0 none)
      · replace h := (if_neg (nt hc10)).symm.trans h
        refine .seq ?_
        refine .region ?_
        refine .move ?_
        refine .lenL (f := (PV.int .u8)) ?_
        refine .move ?_
        refine .val ?_
        refine .move ?_
        refine .val ?_
        refine .assign ?_
        refine .nil ?_
        refine .cond (fun hc11 => ?_) (fun hc11 => ?_)
        · replace h := (if_pos hc11).symm.trans h
          refine .seq ?_
          refine .region ?_
          refine .assign ?_
          refine .assign ?_
          refine .assign ?_
          refine .nil ?_
          cases h
          exact .ret (fin_gen0 none)
        · replace h := (if_neg (nt hc11)).symm.trans h
          refine .skip ?_
          obtain ⟨j26, hj26, h⟩ := joinE h
          refine .cutI (fun T => (∃ (v25 : Int), T = St.of [(1, .int .i64 a1), (2, .int .i64 a2), (9, .int .u32 v25)] [] ∧ j26 v25 = some r)) ?_ ?_
          · refine .seq ?_
            refine .region ?_
            refine .move ?_
            refine .move ?_
            refine .nil ?_
            refine .block ?_
            refine .loopI (fun m T => ∃ (v30 : Int) (v31 : Int), T = St.of [(0, .sl 5 .ro (a0.map (PV.int .u8))), (1, .int .i64 a1), (2, .int .i64 a2), (9, .int .u32 v30), (27, .int .i64 a2), (28, .int .i64 v31)] [] ∧ f64_l1 n a0 a1 a2 j26 m v30 v31 = some r) _ _ ⟨_, _, rfl, h⟩ (imp_of (.cons rfl (.cons rfl (.cons rfl (.cons rfl (.cons rfl (.cons rfl (.nil))))))) (.nil)) ?_
            rintro m37 T ⟨v30, v31, rfl, h⟩
            obtain _ | m37 := m37
            · rw [f64_l1] at h; cases h
            rw [f64_l1] at h
            refine .seq ?_
            refine .region ?_
            refine .val ?_
            refine .nil ?_
            refine .seq ?_
            refine .cond (fun hc39 => ?_) (fun hc39 => ?_)
            · replace h := (if_pos hc39).symm.trans h
              refine .skip ?_
              refine .seq ?_
              refine .block ?_
              refine .seq ?_
              refine .region ?_
              refine .move ?_
              refine .assign ?_
              refine .nil ?_
              refine .region ?_
              refine .move ?_
              refine .move ?_
              refine .move ?_
              refine .move ?_
              refine .val ?_
              obtain ⟨x42, hx42, h⟩ := bindE h
              refine .idxL (f := (PV.int .u8)) hx42 ?_
              refine .ldL hx42 (y := .int .u8 x42) ?_
              refine .val ?_
              refine .move ?_
              refine .val ?_
              obtain ⟨x43, hx43, h⟩ := bindE h
              refine .shlL hx43 ?_
              refine .val ?_
              refine .assign ?_
              refine .nil ?_
              refine .region ?_
              refine .val ?_
              refine .move ?_
              refine .nil ?_
              exact ⟨m37, _, Nat.lt_succ_self m37, ⟨_, _, rfl, h⟩, (imp_of (.cons rfl (.cons rfl (.cons rfl (.cons rfl (.cons rfl (.cons rfl (.nil))))))) (.nil))⟩
            · replace h := (if_neg (nt hc39)).symm.trans h
              refine .exit (.hit ?_)
              exact ⟨_, ⟨_, rfl, h⟩, (imp_of (.cons rfl (.cons rfl (.cons rfl (.nil)))) (.nil))⟩
          · rintro T ⟨v25, rfl, h⟩
            subst hj26
            refine .seq ?_
            refine .region ?_
            refine .move ?_
            refine .move ?_
            refine .move ?_
            refine .val ?_
            refine .assign ?_
            refine .assign ?_
            refine .assign ?_
            refine .nil ?_
            cases h
            exact .ret (fin_gen0 none)

/- soundservice/wire.get[uint16] -/
def f65_l1 (n : Nat) (a0 : (List Int)) (a1 : Int) (a2 : Int) (j26 : Int → Option (Int × Int × Int)) : Nat → Int → Int → Option (Int × Int × Int)
  | 0, _, _ => none
  | m37 + 1, v30, v31 =>
    if decide (v31 < a2) then (
    (lAt a0 (w64 (a1 + v31))).bind fun x42 =>
    (iShl .u16 (IntKind.wrap .u16 (x42)) (w64 ((8 : Int) * v31))).bind fun x43 =>
    f65_l1 n a0 a1 a2 j26 m37 (bitsI .or .u16 v30 x43) (w64 (v31 + (1 : Int))))
    else (
    j26 v30)
def f65 (n : Nat) (a0 : (List Int)) (a1 : Int) (a2 : Int) : Option (Int × Int × Int) :=
  joinK (fun (_ : Unit) =>
  some (0, 0, 2)) fun j7 =>
  joinK (fun (_ : Unit) =>
  if decide (a1 > (a0.length : Int)) then (
  some (0, 0, 2))
  else (
  if decide ((w64 ((a0.length : Int) - a1)) < a2) then (
  some (0, 0, 4))
  else (
  joinK (fun (v25 : Int) =>
  some (v25, w64 (a1 + a2), 0)) fun j26 =>
  f65_l1 n a0 a1 a2 j26 n 0 0))) fun j8 =>
  if decide (a1 < (0 : Int)) then (
  j7 ())
  else (
  j8 ())
set_option maxHeartbeats 4000000 in
set_option maxRecDepth 100000 in
theorem g65 {n : Nat} {a0 : (List Int)} {a1 : Int} {a2 : Int} {r : (Int × Int × Int)} (h : f65 n a0 a1 a2 = some r) :
    Ab.Can Try.prog 65 [.sl 5 .ro (a0.map (PV.int .u8)), .int .i64 a1, .int .i64 a2] H0 (.tup [.int .u16 r.1, .int .i64 r.2.1, .int .i64 r.2.2]) H0 := by
  refine can_of tabOK mix Try.call65 Try.func65 rfl (by kernel_rfl) (by show _ ≤ 48; simp) fun _ => ?_
  rw [f65] at h
  refine .seq ?_
  refine .region ?_
  refine .assign ?_
  refine .assign ?_
  refine .assign ?_
  refine .nil ?_
  refine .seq ?_
  refine .region ?_
  refine .assign ?_
  refine .nil ?_
  refine .seq ?_
  refine .block ?_
  obtain ⟨j7, hj7, h⟩ := joinE h
  obtain ⟨j8, hj8, h⟩ := joinE h
  refine .cutI (fun T => (T = St.of [(0, .sl 5 .ro (a0.map (PV.int .u8))), (1, .int .i64 a1), (2, .int .i64 a2), (9, .int .u16 0), (11, .bool true)] [] ∧ j7 () = some r) ∨ (T = St.of [(0, .sl 5 .ro (a0.map (PV.int .u8))), (1, .int .i64 a1), (2, .int .i64 a2), (9, .int .u16 0), (11, .bool (decide (a1 > (a0.length : Int))))] [] ∧ j8 () = some r)) ?_ ?_
  · refine .region ?_
    refine .move ?_
    refine .val ?_
    refine .move ?_
    refine .caseG (fun hc9 => ?_) (fun hc9 => ?_)
    · replace h := (if_pos hc9).symm.trans h
      refine .skip ?_
      refine .skip ?_
      refine .skip ?_
      refine .skip ?_
      refine .brT ?_
      refine .assign ?_
      refine .nil ?_
      exact ⟨_, (.inl ⟨rfl, h⟩), (imp_of (.cons rfl (.cons rfl (.cons rfl (.cons rfl (.cons rfl (.nil)))))) (.nil))⟩
    · replace h := (if_neg (nt hc9)).symm.trans h
      refine .move ?_
      refine .move ?_
      refine .lenL (f := (PV.int .u8)) ?_
      refine .val ?_
      refine .brF ?_
      refine .assign ?_
      refine .nil ?_
      exact ⟨_, (.inr (⟨rfl, h⟩)), (imp_of (.cons rfl (.cons rfl (.cons rfl (.cons rfl (.cons rfl (.nil)))))) (.nil))⟩
  · rintro T (⟨rfl, h⟩ | ⟨rfl, h⟩)
    · subst hj7
      refine .condT ?_
      refine .seq ?_
      refine .region ?_
      refine .assign ?_
      refine .assign ?_
      refine .assign ?_
      refine .nil ?_
      cases h
      exact .ret (fin_gen0 none)
    · subst hj8
      refine .cond (fun hc10 => ?_) (fun hc10 => ?_)
      · replace h := (if_pos hc10).symm.trans h
        refine .seq ?_
        refine .region ?_
        refine .assign ?_
        refine .assign ?_
        refine .assign ?_
        refine .nil ?_
        cases h
        exact .ret (fin_gen0 none)
      · replace h := (if_neg (nt hc10)).symm.trans h
        refine .seq ?_
        refine .region ?_
        refine .move ?_
        refine .lenL (f := (PV.int .u8)) ?_
        refine .move ?_
        refine .val ?_
        refine .move ?_
        refine .val ?_
        refine .assign ?_
        refine .nil ?_
        refine .cond (fun hc11 => ?_) (fun hc11 => ?_)
        · replace h := (if_pos hc11).symm.trans h
          refine .seq ?_
          refine .region ?_
          refine .assign ?_
          refine .assign ?_
          refine .assign ?_
          refine .nil ?_
          cases h
          exact .ret (fin_gen0 none)
        · replace h := (if_neg (nt hc11)).symm.trans h
          refine .skip ?_
          obtain ⟨j26, hj26, h⟩ := joinE h
          refine .cutI (fun T => (∃ (v25 : Int), T = St.of [(1, .int .i64 a1), (2, .int .i64 a2), (9, .int .u16 v25)] [] ∧ j26 v25 = some r)) ?_ ?_
          · refine .seq ?_
            refine .region ?_
            refine .move ?_
            refine .move ?_
            refine .nil ?_
            refine .block ?_
            refine .loopI (fun m T => ∃ (v30 : Int) (v31 : Int), T = St.of [(0, .sl 5 .ro (a0.map (PV.int .u8))), (1, .int .i64 a1), (2, .int .i64 a2), (9, .int .u16 v30), (27, .int .i64 a2), (28, .int .i64 v31)] [] ∧ f65_l1 n a0 a1 a2 j26 m v30 v31 = some r) _ _ ⟨_, _, rfl, h⟩ (imp_of (.cons rfl (.cons rfl (.cons rfl (.cons rfl (.cons rfl (.cons rfl (.nil))))))) (.nil)) ?_
            rintro m37 T ⟨v30, v31, rfl, h⟩
            obtain _ | m37 := m37
            · rw [f65_l1] at h; cases h
            rw [f65_l1] at h
            refine .seq ?_
            refine .region ?_
            refine .val ?_
            refine .nil ?_
            refine .seq ?_
            refine .cond (fun hc39 => ?_) (fun hc39 => ?_)
            · replace h := (if_pos hc39).symm.trans h
              refine .skip ?_
              refine .seq ?_
              refine .block ?_
              refine .seq ?_
              refine .region ?_
              refine .move ?_
              refine .assign ?_
              refine .nil ?_
              refine .region ?_
              refine .move ?_
              refine .move ?_
              refine .move ?_
              refine .move ?_
              refine .val ?_
              obtain ⟨x42, hx42, h⟩ := bindE h
              refine .idxL (f := (PV.int .u8)) hx42 ?_
              refine .ldL hx42 (y := .int .u8 x42) ?_
              refine .val ?_
              refine .move ?_
              refine .val ?_
              obtain ⟨x43, hx43, h⟩ := bindE h
              refine .shlL hx43 ?_
              refine .val ?_
              refine .assign ?_
              refine .nil ?_
              refine .region ?_
              refine .val ?_
              refine .move ?_
              refine .nil ?_
              exact ⟨m37, _, Nat.lt_succ_self m37, ⟨_, _, rfl, h⟩, (imp_of (.cons rfl (.cons rfl (.cons rfl (.cons rfl (.cons rfl (.cons rfl (.nil))))))) (.nil))⟩
            · replace h := (if_neg (nt hc39)).symm.trans h
              refine .exit (.hit ?_)
              exact ⟨_, ⟨_, rfl, h⟩, (imp_of (.cons rfl (.cons rfl (.cons rfl (.nil)))) (.nil))⟩
          · rintro T ⟨v25, rfl, h⟩
            subst hj26
            refine .seq ?_
            refine .region ?_
            refine .move ?_
            refine .move ?_
            refine .move ?_
            refine .val ?_
            refine .assign ?_
            refine .assign ?_
            refine .assign ?_
            refine .nil ?_
            cases h
            exact .ret (fin_gen0 none)

/- soundservice/soundserviceref01.get -/
def f66_l1 (n : Nat) (a0 : (List Int)) (a1 : Int) (j23 : Int → Option (Int × Int × Int)) : Nat → Int → Int → Option (Int × Int × Int)
  | 0, _, _ => none
  | m32 + 1, v26, v27 =>
    if decide (v27 ≥ (0 : Int)) then (
    (lAt a0 (w64 (a1 + v27))).bind fun x36 =>
    f66_l1 n a0 a1 j23 m32 (bitsI .or .u64 (iShlT .u64 v26 (8 : Int)) (IntKind.wrap .u64 (x36))) (w64 (v27 - (1 : Int))))
    else (
    j23 v26)
def f66 (n : Nat) (a0 : (List Int)) (a1 : Int) (a2 : Int) : Option (Int × Int × Int) :=
  joinK (fun (_ : Unit) =>
  some (0, 0, 2)) fun j6 =>
  joinK (fun (_ : Unit) =>
  if decide (a1 > (a0.length : Int)) then (
  some (0, 0, 2))
  else (
  if decide ((w64 ((a0.length : Int) - a1)) < a2) then (
  some (0, 0, 4))
  else (
  joinK (fun (v22 : Int) =>
  some (v22, w64 (a1 + a2), 0)) fun j23 =>
  f66_l1 n a0 a1 j23 n 0 (w64 (a2 - (1 : Int)))))) fun j7 =>
  if decide (a1 < (0 : Int)) then (
  j6 ())
  else (
  j7 ())
set_option maxHeartbeats 4000000 in
set_option maxRecDepth 100000 in
theorem g66 {n : Nat} {a0 : (List Int)} {a1 : Int} {a2 : Int} {r : (Int × Int × Int)} (h : f66 n a0 a1 a2 = some r) :
    Ab.Can Try.prog 66 [.sl 5 .ro (a0.map (PV.int .u8)), .int .i64 a1, .int .i64 a2] H0 (.tup [.int .u64 r.1, .int .i64 r.2.1, .int .i64 r.2.2]) H0 := by
  refine can_of tabOK mix Try.call66 Try.func66 rfl (by kernel_rfl) (by show _ ≤ 45; simp) fun _ => ?_
  rw [f66] at h
  refine .seq ?_
  refine .region ?_
  refine .assign ?_
  refine .assign ?_
  refine .assign ?_
  refine .nil ?_
  refine .seq ?_
  obtain ⟨j6, hj6, h⟩ := joinE h
  obtain ⟨j7, hj7, h⟩ := joinE h
  refine .cutI (fun T => (T = St.of [(0, .sl 5 .ro (a0.map (PV.int .u8))), (1, .int .i64 a1), (2, .int .i64 a2), (18, .bool true)] [] ∧ j6 () = some r) ∨ (T = St.of [(0, .sl 5 .ro (a0.map (PV.int .u8))), (1, .int .i64 a1), (2, .int .i64 a2), (18, .bool (decide (a1 > (a0.length : Int))))] [] ∧ j7 () = some r)) ?_ ?_
  · refine .region ?_
    refine .move ?_
    refine .val ?_
    refine .move ?_
    refine .caseG (fun hc8 => ?_) (fun hc8 => ?_)
    · replace h := (if_pos hc8).symm.trans h
      refine .skip ?_
      refine .skip ?_
      refine .skip ?_
      refine .skip ?_
      refine .brT ?_
      refine .nil ?_
      exact ⟨_, (.inl ⟨rfl, h⟩), (imp_of (.cons rfl (.cons rfl (.cons rfl (.cons rfl (.nil))))) (.nil))⟩
    · replace h := (if_neg (nt hc8)).symm.trans h
      refine .move ?_
      refine .move ?_
      refine .lenL (f := (PV.int .u8)) ?_
      refine .val ?_
      refine .brF ?_
      refine .nil ?_
      exact ⟨_, (.inr (⟨rfl, h⟩)), (imp_of (.cons rfl (.cons rfl (.cons rfl (.cons rfl (.nil))))) (.nil))⟩
  · rintro T (⟨rfl, h⟩ | ⟨rfl, h⟩)
    · subst hj6
      refine .condT ?_
      refine .seq ?_
      refine .region ?_
      refine .assign ?_
      refine .assign ?_
      refine .assign ?_
      refine .nil ?_
      cases h
      exact .ret (fin_gen0 none)
    · subst hj7
      refine .cond (fun hc9 => ?_) (fun hc9 => ?_)
      · replace h := (if_pos hc9).symm.trans h
        refine .seq ?_
        refine .region ?_
        refine .assign ?_
        refine .assign ?_
        refine .assign ?_
        refine .nil ?_
        cases h
        exact .ret (fin_gen0 none)
      · replace h := (if_neg (nt hc9)).symm.trans h
        refine .skip ?_
        refine .seq ?_
        refine .seq ?_
        refine .region ?_
        refine .move ?_
        refine .lenL (f := (PV.int .u8)) ?_
        refine .move ?_
        refine .val ?_
        refine .move ?_
        refine .val ?_
        refine .nil ?_
        refine .cond (fun hc11 => ?_) (fun hc11 => ?_)
        · replace h := (if_pos hc11).symm.trans h
          refine .seq ?_
          refine .region ?_
          refine .assign ?_
          refine .assign ?_
          refine .assign ?_
          refine .nil ?_
          cases h
          exact .ret (fin_gen0 none)
        · replace h := (if_neg (nt hc11)).symm.trans h
          refine .skip ?_
          refine .seq ?_
          refine .region ?_
          refine .assign ?_
          refine .nil ?_
          obtain ⟨j23, hj23, h⟩ := joinE h
          refine .cutI (fun T => (∃ (v22 : Int), T = St.of [(1, .int .i64 a1), (2, .int .i64 a2), (9, .int .u64 v22)] [] ∧ j23 v22 = some r)) ?_ ?_
          · refine .seq ?_
            refine .region ?_
            refine .move ?_
            refine .val ?_
            refine .assign ?_
            refine .nil ?_
            refine .block ?_
            refine .loopI (fun m T => ∃ (v26 : Int) (v27 : Int), T = St.of [(0, .sl 5 .ro (a0.map (PV.int .u8))), (1, .int .i64 a1), (2, .int .i64 a2), (9, .int .u64 v26), (10, .int .i64 v27)] [] ∧ f66_l1 n a0 a1 j23 m v26 v27 = some r) _ _ ⟨_, _, rfl, h⟩ (imp_of (.cons rfl (.cons rfl (.cons rfl (.cons rfl (.cons rfl (.nil)))))) (.nil)) ?_
            rintro m32 T ⟨v26, v27, rfl, h⟩
            obtain _ | m32 := m32
            · rw [f66_l1] at h; cases h
            rw [f66_l1] at h
            refine .seq ?_
            refine .seq ?_
            refine .region ?_
            refine .move ?_
            refine .val ?_
            refine .nil ?_
            refine .cond (fun hc34 => ?_) (fun hc34 => ?_)
            · replace h := (if_pos hc34).symm.trans h
              refine .skip ?_
              refine .seq ?_
              refine .block ?_
              refine .region ?_
              refine .move ?_
              refine .val ?_ (hc := by decide)
              refine .move ?_
              refine .move ?_
              refine .move ?_
              refine .val ?_
              obtain ⟨x36, hx36, h⟩ := bindE h
              refine .idxL (f := (PV.int .u8)) hx36 ?_
              refine .ldL hx36 (y := .int .u8 x36) ?_
              refine .val ?_
              refine .val ?_
              refine .assign ?_
              refine .nil ?_
              refine .region ?_
              refine .move ?_
              refine .val ?_
              refine .assign ?_
              refine .nil ?_
              exact ⟨m32, _, Nat.lt_succ_self m32, ⟨_, _, rfl, h⟩, (imp_of (.cons rfl (.cons rfl (.cons rfl (.cons rfl (.cons rfl (.nil)))))) (.nil))⟩
            · replace h := (if_neg (nt hc34)).symm.trans h
              refine .exit (.hit ?_)
              exact ⟨_, ⟨_, rfl, h⟩, (imp_of (.cons rfl (.cons rfl (.cons rfl (.nil)))) (.nil))⟩
          · rintro T ⟨v22, rfl, h⟩
            subst hj23
            refine .seq ?_
            refine .region ?_
            refine .move ?_
            refine .move ?_
            refine .move ?_
            refine .val ?_
            refine .assign ?_
            refine .assign ?_
            refine .assign ?_
            refine .nil ?_
            cases h
            exact .ret (fin_gen0 none)

/- soundservice/wire.get[uint64] -/
def f67_l1 (n : Nat) (a0 : (List Int)) (a1 : Int) (a2 : Int) (j26 : Int → Option (Int × Int × Int)) : Nat → Int → Int → Option (Int × Int × Int)
  | 0, _, _ => none
  | m37 + 1, v30, v31 =>
    if decide (v31 < a2) then (
    (lAt a0 (w64 (a1 + v31))).bind fun x42 =>
    (iShl .u64 (IntKind.wrap .u64 (x42)) (w64 ((8 : Int) * v31))).bind fun x43 =>
    f67_l1 n a0 a1 a2 j26 m37 (bitsI .or .u64 v30 x43) (w64 (v31 + (1 : Int))))
    else (
    j26 v30)
def f67 (n : Nat) (a0 : (List Int)) (a1 : Int) (a2 : Int) : Option (Int × Int × Int) :=
  joinK (fun (_ : Unit) =>
  some (0, 0, 2)) fun j7 =>
  joinK (fun (_ : Unit) =>
  if decide (a1 > (a0.length : Int)) then (
  some (0, 0, 2))
  else (
  if decide ((w64 ((a0.length : Int) - a1)) < a2) then (
  some (0, 0, 4))
  else (
  joinK (fun (v25 : Int) =>
  some (v25, w64 (a1 + a2), 0)) fun j26 =>
  f67_l1 n a0 a1 a2 j26 n 0 0))) fun j8 =>
  if decide (a1 < (0 : Int)) then (
  j7 ())
  else (
  j8 ())
set_option maxHeartbeats 4000000 in
set_option maxRecDepth 100000 in
theorem g67 {n : Nat} {a0 : (List Int)} {a1 : Int} {a2 : Int} {r : (Int × Int × Int)} (h : f67 n a0 a1 a2 = some r) :
    Ab.Can Try.prog 67 [.sl 5 .ro (a0.map (PV.int .u8)), .int .i64 a1, .int .i64 a2] H0 (.tup [.int .u64 r.1, .int .i64 r.2.1, .int .i64 r.2.2]) H0 := by
  refine can_of tabOK mix Try.call67 Try.func67 rfl (by kernel_rfl) (by show _ ≤ 48; simp) fun _ => ?_
  rw [f67] at h
  refine .seq ?_
  refine .region ?_
  refine .assign ?_
  refine .assign ?_
  refine .assign ?_
  refine .nil ?_
  refine .seq ?_
  refine .region ?_
  refine .assign ?_
  refine .nil ?_
  refine .seq ?_
  refine .block ?_
  obtain ⟨j7, hj7, h⟩ := joinE h
  obtain ⟨j8, hj8, h⟩ := joinE h
  refine .cutI (fun T => (T = St.of [(0, .sl 5 .ro (a0.map (PV.int .u8))), (1, .int .i64 a1), (2, .int .i64 a2), (9, .int .u64 0), (11, .bool true)] [] ∧ j7 () = some r) ∨ (T = St.of [(0, .sl 5 .ro (a0.map (PV.int .u8))), (1, .int .i64 a1), (2, .int .i64 a2), (9, .int .u64 0), (11, .bool (decide (a1 > (a0.length : Int))))] [] ∧ j8 () = some r)) ?_ ?_
  · refine .region ?_
    refine .move ?_
    refine .val ?_
    refine .move ?_
    refine .caseG (fun hc9 => ?_) (fun hc9 => ?_)
    · replace h := (if_pos hc9).symm.trans h
      refine .skip ?_
      refine .skip ?_
      refine .skip ?_
      refine .skip ?_
      refine .brT ?_
      refine .assign ?_
      refine .nil ?_
      exact ⟨_, (.inl ⟨rfl, h⟩), (imp_of (.cons rfl (.cons rfl (.cons rfl (.cons rfl (.cons rfl (.nil)))))) (.nil))⟩
    · replace h := (if_neg (nt hc9)).symm.trans h
      refine .move ?_
      refine .move ?_
      refine .lenL (f := (PV.int .u8)) ?_
      refine .val ?_
      refine .brF ?_
      refine .assign ?_
      refine .nil ?_
      exact ⟨_, (.inr (⟨rfl, h⟩)), (imp_of (.cons rfl (.cons rfl (.cons rfl (.cons rfl (.cons rfl (.nil)))))) (.nil))⟩
  · rintro T (⟨rfl, h⟩ | ⟨rfl, h⟩)
    · subst hj7
      refine .condT ?_
      refine .seq ?_
      refine .region ?_
      refine .assign ?_
      refine .assign ?_
      refine .assign ?_
      refine .nil ?_
      cases h
      exact .ret (fin_gen0 none)
    · subst hj8
      refine .cond (fun hc10 => ?_) (fun hc10 => ?_)
      · replace h := (if_pos hc10).symm.trans h
        refine .seq ?_
        refine .region ?_
        refine .assign ?_
        refine .assign ?_
        refine .assign ?_
        refine .nil ?_
        cases h
        exact .ret (fin_gen0 none)
      · replace h := (if_neg (nt hc10)).symm.trans h
        refine .seq ?_
        refine .region ?_
        refine .move ?_
        refine .lenL (f := (PV.int .u8)) ?_
        refine .move ?_
        refine .val ?_
        refine .move ?_
        refine .val ?_
        refine .assign ?_
        refine .nil ?_
        refine .cond (fun hc11 => ?_) (fun hc11 => ?_)
        · replace h := (if_pos hc11).symm.trans h
          refine .seq ?_
          refine .region ?_
          refine .assign ?_
          refine .assign ?_
          refine .assign ?_
          refine .nil ?_
          cases h
          exact .ret (fin_gen0 none)
        · replace h := (if_neg (nt hc11)).symm.trans h
          refine .skip ?_
          obtain ⟨j26, hj26, h⟩ := joinE h
          refine .cutI (fun T => (∃ (v25 : Int), T = St.of [(1, .int .i64 a1), (2, .int .i64 a2), (9, .int .u64 v25)] [] ∧ j26 v25 = some r)) ?_ ?_
          · refine .seq ?_
            refine .region ?_
            refine .move ?_
            refine .move ?_
            refine .nil ?_
            refine .block ?_
            refine .loopI (fun m T => ∃ (v30 : Int) (v31 : Int), T = St.of [(0, .sl 5 .ro (a0.map (PV.int .u8))), (1, .int .i64 a1), (2, .int .i64 a2), (9, .int .u64 v30), (27, .int .i64 a2), (28, .int .i64 v31)] [] ∧ f67_l1 n a0 a1 a2 j26 m v30 v31 = some r) _ _ ⟨_, _, rfl, h⟩ (imp_of (.cons rfl (.cons rfl (.cons rfl (.cons rfl (.cons rfl (.cons rfl (.nil))))))) (.nil)) ?_
            rintro m37 T ⟨v30, v31, rfl, h⟩
            obtain _ | m37 := m37
            · rw [f67_l1] at h; cases h
            rw [f67_l1] at h
            refine .seq ?_
            refine .region ?_
            refine .val ?_
            refine .nil ?_
            refine .seq ?_
            refine .cond (fun hc39 => ?_) (fun hc39 => ?_)
            · replace h := (if_pos hc39).symm.trans h
              refine .skip ?_
              refine .seq ?_
              refine .block ?_
              refine .seq ?_
              refine .region ?_
              refine .move ?_
              refine .assign ?_
              refine .nil ?_
              refine .region ?_
              refine .move ?_
              refine .move ?_
              refine .move ?_
              refine .move ?_
              refine .val ?_
              obtain ⟨x42, hx42, h⟩ := bindE h
              refine .idxL (f := (PV.int .u8)) hx42 ?_
              refine .ldL hx42 (y := .int .u8 x42) ?_
              refine .val ?_
              refine .move ?_
              refine .val ?_
              obtain ⟨x43, hx43, h⟩ := bindE h
              refine .shlL hx43 ?_
              refine .val ?_
              refine .assign ?_
              refine .nil ?_
              refine .region ?_
              refine .val ?_
              refine .move ?_
              refine .nil ?_
              exact ⟨m37, _, Nat.lt_succ_self m37, ⟨_, _, rfl, h⟩, (imp_of (.cons rfl (.cons rfl (.cons rfl (.cons rfl (.cons rfl (.cons rfl (.nil))))))) (.nil))⟩
            · replace h := (if_neg (nt hc39)).symm.trans h
              refine .exit (.hit ?_)
              exact ⟨_, ⟨_, rfl, h⟩, (imp_of (.cons rfl (.cons rfl (.cons rfl (.nil)))) (.nil))⟩
          · rintro T ⟨v25, rfl, h⟩
            subst hj26
            refine .seq ?_
            refine .region ?_
            refine .move ?_
            refine .move ?_
            refine .move ?_
            refine .val ?_
            refine .assign ?_
            refine .assign ?_
            refine .assign ?_
            refine .nil ?_
            cases h
            exact .ret (fin_gen0 none)
end Go.Proofs.Ytcahjpkmldmjdaa
