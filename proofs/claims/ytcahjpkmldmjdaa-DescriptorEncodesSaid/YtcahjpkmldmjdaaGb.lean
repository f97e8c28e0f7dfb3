/-
  Plain functions of soundservicelaw01, soundserviceref01, wire, and that the code does what they say.
-/
import Derived.Test.YtcahjpkmldmjdaaGa
namespace Go.Proofs.Ytcahjpkmldmjdaa
open Go Ab
/- soundservice/wire.Put16 -/
def f24 (n : Nat) (a0 : (List Int)) (a1 : Int) : Option (List Int) :=
  (f61 n a0 a1 (2 : Int)).bind fun y1 =>
  some y1
set_option maxHeartbeats 4000000 in
set_option maxRecDepth 100000 in
theorem g24 {n : Nat} {a0 : (List Int)} {a1 : Int} {r : (List Int)} (h : f24 n a0 a1 = some r) :
    Ab.Can Try.prog 24 [.sl 5 .ro (a0.map (PV.int .u8)), .int .u16 a1] H0 (.sl 5 (.own (.rrow 0)) (r.map (PV.int .u8))) H0 := by
  refine can_of tabOK mix Try.call24 Try.func24 rfl (by kernel_rfl) (by show _ ≤ 8; simp) fun _ => ?_
  rw [f24] at h
  refine .seq ?_
  refine .region ?_
  refine .assign ?_
  refine .nil ?_
  refine .seq ?_
  refine .region ?_
  refine .move ?_
  refine .move ?_
  obtain ⟨y1, hy1, h⟩ := bindE h
  refine .cO (.row 1 2) (g61 hy1) (u := .sl 5 (.own (.row 1 2)) (y1.map (PV.int .u8))) ?_
  refine .assign ?_
  refine .nil ?_
  cases h
  exact .ret (fin_gen0 (some (.row 1 2)))
theorem g24r {n : Nat} {a0 : (List Int)} {a1 : Int} {r : (List Int)} (h : f24 n a0 a1 = some r) :
    Ab.Can Try.prog 24 [.sl 5 .ro (a0.map (PV.int .u8)), .int .u16 a1] H0 (.sl 5 .ro (r.map (PV.int .u8))) H0 := Can.frzR (hq := []) (g24 h)

/- soundservice/wire.Sum -/
def f18_l2 (n : Nat) (j132 : Int → Option Int) : Nat → Int → Int → Option Int
  | 0, _, _ => none
  | m146 + 1, v138, v139 =>
    if decide (v139 < (8 : Int)) then (
    joinK (fun (v150 : Int) =>
    f18_l2 n j132 m146 v150 (w64 (v139 + (1 : Int)))) fun j151 =>
    if ((bitsI .and .u32 v138 (1 : Int)) == (1 : Int)) then (
    j151 (bitsI .xor .u32 (iShrT .u32 v138 (1 : Int)) (3988292384 : Int)))
    else (
    j151 (iShrT .u32 v138 (1 : Int))))
    else (
    j132 v138)
def f18_l1 (n : Nat) (a0 : (List Int)) (j66 : Int → Option Int) : Nat → Int → Int → Option Int
  | 0, _, _ => none
  | m111 + 1, v87, v88 =>
    if decide (v88 < (a0.length : Int)) then (
    joinK (fun (v131 : Int) =>
    f18_l1 n a0 j66 m111 v131 (w64 (v88 + (1 : Int)))) fun j132 =>
    (lAt a0 v88).bind fun x133 =>
    f18_l2 n j132 n (bitsI .xor .u32 v87 (IntKind.wrap .u32 (x133))) 0)
    else (
    j66 v87)
def f18 (n : Nat) (a0 : (List Int)) : Option Int :=
  joinK (fun (v65 : Int) =>
  some (iNot .u32 v65)) fun j66 =>
  f18_l1 n a0 j66 n 4294967295 0
set_option maxHeartbeats 4000000 in
set_option maxRecDepth 100000 in
theorem g18 {n : Nat} {a0 : (List Int)} {r : Int} (h : f18 n a0 = some r) :
    Ab.Can Try.prog 18 [.sl 5 .ro (a0.map (PV.int .u8))] H0 (.int .u32 r) H0 := by
  refine can_of tabOK mix Try.call18 Try.func18 rfl (by kernel_rfl) (by show _ ≤ 31; simp) fun _ => ?_
  rw [f18] at h
  refine .seq ?_
  refine .region ?_
  refine .assign ?_
  refine .nil ?_
  refine .seq ?_
  refine .region ?_
  refine .assign ?_
  refine .nil ?_
  obtain ⟨j66, hj66, h⟩ := joinE h
  refine .cutI (fun T => (∃ (v65 : Int), T = St.of [(3, .int .u32 v65)] [] ∧ j66 v65 = some r)) ?_ ?_
  · refine .seq ?_
    refine .region ?_
    refine .move ?_
    refine .lenL (f := (PV.int .u8)) ?_
    refine .move ?_
    refine .nil ?_
    refine .block ?_
    refine .loopI (fun m T => ∃ (v87 : Int) (v88 : Int), T = St.of [(3, .int .u32 v87), (7, .sl 5 .ro (a0.map (PV.int .u8))), (8, .int .i64 (a0.length : Int)), (9, .int .i64 v88)] [] ∧ f18_l1 n a0 j66 m v87 v88 = some r) _ _ ⟨_, _, rfl, h⟩ (imp_of (.cons rfl (.cons rfl (.cons rfl (.cons rfl (.nil))))) (.nil)) ?_
    rintro m111 T ⟨v87, v88, rfl, h⟩
    obtain _ | m111 := m111
    · rw [f18_l1] at h; cases h
    rw [f18_l1] at h
    refine .seq ?_
    refine .region ?_
    refine .val ?_
    refine .nil ?_
    refine .seq ?_
    refine .cond (fun hc113 => ?_) (fun hc113 => ?_)
    · replace h := (if_pos hc113).symm.trans h
      refine .skip ?_
      obtain ⟨j132, hj132, h⟩ := joinE h
      refine .cutI (fun T => (∃ (v131 : Int), T = St.of [(3, .int .u32 v131), (7, .sl 5 .ro (a0.map (PV.int .u8))), (8, .int .i64 (a0.length : Int)), (9, .int .i64 v88)] [] ∧ j132 v131 = some r)) ?_ ?_
      · refine .block ?_
        refine .seq ?_
        refine .region ?_
        obtain ⟨x133, hx133, h⟩ := bindE h
        refine .idxL (f := (PV.int .u8)) hx133 ?_
        refine .ldL hx133 (y := .int .u8 x133) ?_
        refine .assign ?_
        refine .nil ?_
        refine .seq ?_
        refine .region ?_
        refine .move ?_
        refine .move ?_
        refine .val ?_
        refine .val ?_
        refine .assign ?_
        refine .nil ?_
        refine .seq ?_
        refine .region ?_
        refine .move ?_
        refine .nil ?_
        refine .block ?_
        refine .loopI (fun m T => ∃ (v138 : Int) (v139 : Int), T = St.of [(3, .int .u32 v138), (7, .sl 5 .ro (a0.map (PV.int .u8))), (8, .int .i64 (a0.length : Int)), (9, .int .i64 v88), (17, .int .i64 v139)] [] ∧ f18_l2 n j132 m v138 v139 = some r) _ _ ⟨_, _, rfl, h⟩ (imp_of (.cons rfl (.cons rfl (.cons rfl (.cons rfl (.cons rfl (.nil)))))) (.nil)) ?_
        rintro m146 T ⟨v138, v139, rfl, h⟩
        obtain _ | m146 := m146
        · rw [f18_l2] at h; cases h
        rw [f18_l2] at h
        refine .seq ?_
        refine .region ?_
        refine .val ?_
        refine .nil ?_
        refine .seq ?_
        refine .cond (fun hc148 => ?_) (fun hc148 => ?_)
        · replace h := (if_pos hc148).symm.trans h
          refine .skip ?_
          obtain ⟨j151, hj151, h⟩ := joinE h
          refine .cutI (fun T => (∃ (v150 : Int), T = St.of [(3, .int .u32 v150), (7, .sl 5 .ro (a0.map (PV.int .u8))), (8, .int .i64 (a0.length : Int)), (9, .int .i64 v88), (17, .int .i64 v139)] [] ∧ j151 v150 = some r)) ?_ ?_
          · refine .block ?_
            refine .seq ?_
            refine .region ?_
            refine .move ?_
            refine .val ?_
            refine .assign ?_
            refine .nil ?_
            refine .seq ?_
            refine .region ?_
            refine .move ?_
            refine .val ?_ (hc := by decide)
            refine .assign ?_
            refine .nil ?_
            refine .seq ?_
            refine .region ?_
            refine .move ?_
            refine .val ?_
            refine .nil ?_
            refine .cond (fun hc152 => ?_) (fun hc152 => ?_)
            · replace h := (if_pos hc152).symm.trans h
              refine .region ?_
              refine .move ?_
              refine .val ?_
              refine .assign ?_
              refine .nil ?_
              exact ⟨_, ⟨_, rfl, h⟩, (imp_of (.cons rfl (.cons rfl (.cons rfl (.cons rfl (.cons rfl (.nil)))))) (.nil))⟩
            · replace h := (if_neg (nt hc152)).symm.trans h
              refine .skip ?_
              exact ⟨_, ⟨_, rfl, h⟩, (imp_of (.cons rfl (.cons rfl (.cons rfl (.cons rfl (.cons rfl (.nil)))))) (.nil))⟩
          · rintro T ⟨v150, rfl, h⟩
            subst hj151
            refine .region ?_
            refine .val ?_
            refine .move ?_
            refine .nil ?_
            exact ⟨m146, _, Nat.lt_succ_self m146, ⟨_, _, rfl, h⟩, (imp_of (.cons rfl (.cons rfl (.cons rfl (.cons rfl (.cons rfl (.nil)))))) (.nil))⟩
        · replace h := (if_neg (nt hc148)).symm.trans h
          refine .exit (.hit ?_)
          exact ⟨_, ⟨_, rfl, h⟩, (imp_of (.cons rfl (.cons rfl (.cons rfl (.cons rfl (.nil))))) (.nil))⟩
      · rintro T ⟨v131, rfl, h⟩
        subst hj132
        refine .region ?_
        refine .val ?_
        refine .move ?_
        refine .nil ?_
        exact ⟨m111, _, Nat.lt_succ_self m111, ⟨_, _, rfl, h⟩, (imp_of (.cons rfl (.cons rfl (.cons rfl (.cons rfl (.nil))))) (.nil))⟩
    · replace h := (if_neg (nt hc113)).symm.trans h
      refine .exit (.hit ?_)
      exact ⟨_, ⟨_, rfl, h⟩, (imp_of (.cons rfl (.nil)) (.nil))⟩
  · rintro T ⟨v65, rfl, h⟩
    subst hj66
    refine .seq ?_
    refine .region ?_
    refine .move ?_
    refine .val ?_
    refine .assign ?_
    refine .nil ?_
    cases h
    exact .ret (fin_gen0 none)

/- soundservice/wire.Hash -/
def f20_l1 (n : Nat) (a0 : (List Int)) (j12 : Int → Option Int) : Nat → Int → Int → Option Int
  | 0, _, _ => none
  | m21 + 1, v15, v16 =>
    if decide (v16 < (a0.length : Int)) then (
    (lAt a0 v16).bind fun x25 =>
    f20_l1 n a0 j12 m21 (IntKind.wrap .u64 ((bitsI .xor .u64 v15 (IntKind.wrap .u64 (x25))) * (1099511628211 : Int))) (w64 (v16 + (1 : Int))))
    else (
    j12 v15)
def f20 (n : Nat) (a0 : (List Int)) : Option Int :=
  joinK (fun (v11 : Int) =>
  some v11) fun j12 =>
  f20_l1 n a0 j12 n 14695981039346656037 0
set_option maxHeartbeats 4000000 in
set_option maxRecDepth 100000 in
theorem g20 {n : Nat} {a0 : (List Int)} {r : Int} (h : f20 n a0 = some r) :
    Ab.Can Try.prog 20 [.sl 5 .ro (a0.map (PV.int .u8))] H0 (.int .u64 r) H0 := by
  refine can_of tabOK mix Try.call20 Try.func20 rfl (by kernel_rfl) (by show _ ≤ 20; simp) fun _ => ?_
  rw [f20] at h
  refine .seq ?_
  refine .region ?_
  refine .assign ?_
  refine .nil ?_
  refine .seq ?_
  refine .region ?_
  refine .assign ?_
  refine .nil ?_
  obtain ⟨j12, hj12, h⟩ := joinE h
  refine .cutI (fun T => (∃ (v11 : Int), T = St.of [(3, .int .u64 v11)] [] ∧ j12 v11 = some r)) ?_ ?_
  · refine .seq ?_
    refine .region ?_
    refine .move ?_
    refine .lenL (f := (PV.int .u8)) ?_
    refine .move ?_
    refine .nil ?_
    refine .block ?_
    refine .loopI (fun m T => ∃ (v15 : Int) (v16 : Int), T = St.of [(3, .int .u64 v15), (6, .sl 5 .ro (a0.map (PV.int .u8))), (7, .int .i64 (a0.length : Int)), (8, .int .i64 v16)] [] ∧ f20_l1 n a0 j12 m v15 v16 = some r) _ _ ⟨_, _, rfl, h⟩ (imp_of (.cons rfl (.cons rfl (.cons rfl (.cons rfl (.nil))))) (.nil)) ?_
    rintro m21 T ⟨v15, v16, rfl, h⟩
    obtain _ | m21 := m21
    · rw [f20_l1] at h; cases h
    rw [f20_l1] at h
    refine .seq ?_
    refine .region ?_
    refine .val ?_
    refine .nil ?_
    refine .seq ?_
    refine .cond (fun hc23 => ?_) (fun hc23 => ?_)
    · replace h := (if_pos hc23).symm.trans h
      refine .skip ?_
      refine .seq ?_
      refine .block ?_
      refine .seq ?_
      refine .region ?_
      obtain ⟨x25, hx25, h⟩ := bindE h
      refine .idxL (f := (PV.int .u8)) hx25 ?_
      refine .ldL hx25 (y := .int .u8 x25) ?_
      refine .assign ?_
      refine .nil ?_
      refine .seq ?_
      refine .region ?_
      refine .move ?_
      refine .move ?_
      refine .val ?_
      refine .val ?_
      refine .assign ?_
      refine .nil ?_
      refine .region ?_
      refine .move ?_
      refine .val ?_
      refine .assign ?_
      refine .nil ?_
      refine .region ?_
      refine .val ?_
      refine .move ?_
      refine .nil ?_
      exact ⟨m21, _, Nat.lt_succ_self m21, ⟨_, _, rfl, h⟩, (imp_of (.cons rfl (.cons rfl (.cons rfl (.cons rfl (.nil))))) (.nil))⟩
    · replace h := (if_neg (nt hc23)).symm.trans h
      refine .exit (.hit ?_)
      exact ⟨_, ⟨_, rfl, h⟩, (imp_of (.cons rfl (.nil)) (.nil))⟩
  · rintro T ⟨v11, rfl, h⟩
    subst hj12
    refine .seq ?_
    refine .region ?_
    refine .move ?_
    refine .assign ?_
    refine .nil ?_
    cases h
    exact .ret (fin_gen0 none)

/- soundservice/soundservicelaw01.sane -/
def f17 (n : Nat)  : Option Bool :=
  (f24 n ([] : List Int) (258 : Int)).bind fun y1 =>
  if sEq (mkStr y1) (⟨#[2, 1]⟩ : ByteArray) then (
  (f18 n ([49, 50, 51, 52, 53, 54, 55, 56, 57] : List Int)).bind fun y9 =>
  if (y9 == (3421780262 : Int)) then (
  (f18 n ([] : List Int)).bind fun y11 =>
  if (y11 == (0 : Int)) then (
  (f20 n ([] : List Int)).bind fun y13 =>
  some (y13 == (14695981039346656037 : Int)))
  else (
  some false))
  else (
  some false))
  else (
  some false)
set_option maxHeartbeats 4000000 in
set_option maxRecDepth 100000 in
theorem g17 {n : Nat}  {r : Bool} (h : f17 n  = some r) :
    Ab.Can Try.prog 17 [] H0 (.bool r) H0 := by
  refine can_of tabOK mix Try.call17 Try.func17 rfl (by kernel_rfl) (by show _ ≤ 20; simp) fun _ => ?_
  rw [f17] at h
  refine .seq ?_
  refine .region ?_
  refine .assign ?_
  refine .nil ?_
  refine .seq ?_
  refine .region ?_
  obtain ⟨y1, hy1, h⟩ := bindE h
  refine .cP (g24r hy1) ?_
  refine .assign ?_
  refine .nil ?_
  refine .seq ?_
  refine .region ?_
  refine .move ?_
  refine .toStr ?_
  refine .val ?_
  refine .move ?_
  refine .caseG (fun hc8 => ?_) (fun hc8 => ?_)
  · replace h := (if_pos hc8).symm.trans h
    refine .litL (f := (PV.int .u8)) ([49, 50, 51, 52, 53, 54, 55, 56, 57] : List Int) ?_
    refine .sameL (f := (PV.int .u8)) (xs := ([49, 50, 51, 52, 53, 54, 55, 56, 57] : List Int)) ?_
    obtain ⟨y9, hy9, h⟩ := bindE h
    refine .cP (g18 hy9) ?_
    refine .val ?_
    refine .brT ?_
    refine .move ?_
    refine .caseG (fun hc10 => ?_) (fun hc10 => ?_)
    · replace h := (if_pos hc10).symm.trans h
      obtain ⟨y11, hy11, h⟩ := bindE h
      refine .cP (g18 hy11) ?_
      refine .val ?_
      refine .brT ?_
      refine .move ?_
      refine .caseG (fun hc12 => ?_) (fun hc12 => ?_)
      · replace h := (if_pos hc12).symm.trans h
        obtain ⟨y13, hy13, h⟩ := bindE h
        refine .cP (g20 hy13) ?_
        refine .val ?_
        refine .brT ?_
        refine .assign ?_
        refine .nil ?_
        cases h
        exact .ret (fin_gen0 none)
      · replace h := (if_neg (nt hc12)).symm.trans h
        refine .skip ?_
        refine .skip ?_
        refine .brF ?_
        refine .assign ?_
        refine .nil ?_
        cases h
        exact .ret (fin_gen0 none)
    · replace h := (if_neg (nt hc10)).symm.trans h
      refine .skip ?_
      refine .skip ?_
      refine .brF ?_
      refine .move ?_
      refine .skip ?_
      refine .skip ?_
      refine .brF ?_
      refine .assign ?_
      refine .nil ?_
      cases h
      exact .ret (fin_gen0 none)
  · replace h := (if_neg (nt hc8)).symm.trans h
    refine .skip ?_
    refine .skip ?_
    refine .skip ?_
    refine .skip ?_
    refine .brF ?_
    refine .move ?_
    refine .skip ?_
    refine .skip ?_
    refine .brF ?_
    refine .move ?_
    refine .skip ?_
    refine .skip ?_
    refine .brF ?_
    refine .assign ?_
    refine .nil ?_
    cases h
    exact .ret (fin_gen0 none)

/- soundservice/soundserviceref01.Sum -/
def f19_l2 (n : Nat) (j132 : Int → Option Int) : Nat → Int → Int → Option Int
  | 0, _, _ => none
  | m146 + 1, v138, v139 =>
    if decide (v139 < (8 : Int)) then (
    joinK (fun (v150 : Int) =>
    f19_l2 n j132 m146 v150 (w64 (v139 + (1 : Int)))) fun j151 =>
    if ((bitsI .and .u32 v138 (1 : Int)) == (1 : Int)) then (
    j151 (bitsI .xor .u32 (iShrT .u32 v138 (1 : Int)) (3988292384 : Int)))
    else (
    j151 (iShrT .u32 v138 (1 : Int))))
    else (
    j132 v138)
def f19_l1 (n : Nat) (a0 : (List Int)) (j66 : Int → Option Int) : Nat → Int → Int → Option Int
  | 0, _, _ => none
  | m111 + 1, v87, v88 =>
    if decide (v88 < (a0.length : Int)) then (
    joinK (fun (v131 : Int) =>
    f19_l1 n a0 j66 m111 v131 (w64 (v88 + (1 : Int)))) fun j132 =>
    (lAt a0 v88).bind fun x133 =>
    f19_l2 n j132 n (bitsI .xor .u32 v87 (IntKind.wrap .u32 (x133))) 0)
    else (
    j66 v87)
def f19 (n : Nat) (a0 : (List Int)) : Option Int :=
  joinK (fun (v65 : Int) =>
  some (iNot .u32 v65)) fun j66 =>
  f19_l1 n a0 j66 n 4294967295 0
set_option maxHeartbeats 4000000 in
set_option maxRecDepth 100000 in
theorem g19 {n : Nat} {a0 : (List Int)} {r : Int} (h : f19 n a0 = some r) :
    Ab.Can Try.prog 19 [.sl 5 .ro (a0.map (PV.int .u8))] H0 (.int .u32 r) H0 := by
  refine can_of tabOK mix Try.call19 Try.func19 rfl (by kernel_rfl) (by show _ ≤ 33; simp) fun _ => ?_
  rw [f19] at h
  refine .seq ?_
  refine .region ?_
  refine .assign ?_
  refine .nil ?_
  refine .seq ?_
  refine .region ?_
  refine .assign ?_
  refine .nil ?_
  obtain ⟨j66, hj66, h⟩ := joinE h
  refine .cutI (fun T => (∃ (v65 : Int), T = St.of [(3, .int .u32 v65)] [] ∧ j66 v65 = some r)) ?_ ?_
  · refine .seq ?_
    refine .region ?_
    refine .move ?_
    refine .lenL (f := (PV.int .u8)) ?_
    refine .move ?_
    refine .nil ?_
    refine .block ?_
    refine .loopI (fun m T => ∃ (v87 : Int) (v88 : Int), T = St.of [(3, .int .u32 v87), (8, .sl 5 .ro (a0.map (PV.int .u8))), (9, .int .i64 (a0.length : Int)), (10, .int .i64 v88)] [] ∧ f19_l1 n a0 j66 m v87 v88 = some r) _ _ ⟨_, _, rfl, h⟩ (imp_of (.cons rfl (.cons rfl (.cons rfl (.cons rfl (.nil))))) (.nil)) ?_
    rintro m111 T ⟨v87, v88, rfl, h⟩
    obtain _ | m111 := m111
    · rw [f19_l1] at h; cases h
    rw [f19_l1] at h
    refine .seq ?_
    refine .region ?_
    refine .val ?_
    refine .nil ?_
    refine .seq ?_
    refine .cond (fun hc113 => ?_) (fun hc113 => ?_)
    · replace h := (if_pos hc113).symm.trans h
      refine .skip ?_
      obtain ⟨j132, hj132, h⟩ := joinE h
      refine .cutI (fun T => (∃ (v131 : Int), T = St.of [(3, .int .u32 v131), (8, .sl 5 .ro (a0.map (PV.int .u8))), (9, .int .i64 (a0.length : Int)), (10, .int .i64 v88)] [] ∧ j132 v131 = some r)) ?_ ?_
      · refine .block ?_
        refine .seq ?_
        refine .region ?_
        obtain ⟨x133, hx133, h⟩ := bindE h
        refine .idxL (f := (PV.int .u8)) hx133 ?_
        refine .ldL hx133 (y := .int .u8 x133) ?_
        refine .assign ?_
        refine .nil ?_
        refine .seq ?_
        refine .region ?_
        refine .move ?_
        refine .move ?_
        refine .val ?_
        refine .val ?_
        refine .assign ?_
        refine .nil ?_
        refine .seq ?_
        refine .region ?_
        refine .assign ?_
        refine .nil ?_
        refine .block ?_
        refine .loopI (fun m T => ∃ (v138 : Int) (v139 : Int), T = St.of [(3, .int .u32 v138), (6, .int .i64 v139), (8, .sl 5 .ro (a0.map (PV.int .u8))), (9, .int .i64 (a0.length : Int)), (10, .int .i64 v88)] [] ∧ f19_l2 n j132 m v138 v139 = some r) _ _ ⟨_, _, rfl, h⟩ (imp_of (.cons rfl (.cons rfl (.cons rfl (.cons rfl (.cons rfl (.nil)))))) (.nil)) ?_
        rintro m146 T ⟨v138, v139, rfl, h⟩
        obtain _ | m146 := m146
        · rw [f19_l2] at h; cases h
        rw [f19_l2] at h
        refine .seq ?_
        refine .seq ?_
        refine .region ?_
        refine .move ?_
        refine .val ?_
        refine .nil ?_
        refine .cond (fun hc148 => ?_) (fun hc148 => ?_)
        · replace h := (if_pos hc148).symm.trans h
          refine .skip ?_
          obtain ⟨j151, hj151, h⟩ := joinE h
          refine .cutI (fun T => (∃ (v150 : Int), T = St.of [(3, .int .u32 v150), (6, .int .i64 v139), (8, .sl 5 .ro (a0.map (PV.int .u8))), (9, .int .i64 (a0.length : Int)), (10, .int .i64 v88)] [] ∧ j151 v150 = some r)) ?_ ?_
          · refine .block ?_
            refine .seq ?_
            refine .region ?_
            refine .move ?_
            refine .val ?_
            refine .assign ?_
            refine .nil ?_
            refine .seq ?_
            refine .region ?_
            refine .move ?_
            refine .val ?_ (hc := by decide)
            refine .assign ?_
            refine .nil ?_
            refine .seq ?_
            refine .region ?_
            refine .move ?_
            refine .val ?_
            refine .nil ?_
            refine .cond (fun hc152 => ?_) (fun hc152 => ?_)
            · replace h := (if_pos hc152).symm.trans h
              refine .region ?_
              refine .move ?_
              refine .val ?_
              refine .assign ?_
              refine .nil ?_
              exact ⟨_, ⟨_, rfl, h⟩, (imp_of (.cons rfl (.cons rfl (.cons rfl (.cons rfl (.cons rfl (.nil)))))) (.nil))⟩
            · replace h := (if_neg (nt hc152)).symm.trans h
              refine .skip ?_
              exact ⟨_, ⟨_, rfl, h⟩, (imp_of (.cons rfl (.cons rfl (.cons rfl (.cons rfl (.cons rfl (.nil)))))) (.nil))⟩
          · rintro T ⟨v150, rfl, h⟩
            subst hj151
            refine .region ?_
            refine .move ?_
            refine .val ?_
            refine .assign ?_
            refine .nil ?_
            exact ⟨m146, _, Nat.lt_succ_self m146, ⟨_, _, rfl, h⟩, (imp_of (.cons rfl (.cons rfl (.cons rfl (.cons rfl (.cons rfl (.nil)))))) (.nil))⟩
        · replace h := (if_neg (nt hc148)).symm.trans h
          refine .exit (.hit ?_)
          exact ⟨_, ⟨_, rfl, h⟩, (imp_of (.cons rfl (.cons rfl (.cons rfl (.cons rfl (.nil))))) (.nil))⟩
      · rintro T ⟨v131, rfl, h⟩
        subst hj132
        refine .region ?_
        refine .val ?_
        refine .move ?_
        refine .nil ?_
        exact ⟨m111, _, Nat.lt_succ_self m111, ⟨_, _, rfl, h⟩, (imp_of (.cons rfl (.cons rfl (.cons rfl (.cons rfl (.nil))))) (.nil))⟩
    · replace h := (if_neg (nt hc113)).symm.trans h
      refine .exit (.hit ?_)
      exact ⟨_, ⟨_, rfl, h⟩, (imp_of (.cons rfl (.nil)) (.nil))⟩
  · rintro T ⟨v65, rfl, h⟩
    subst hj66
    refine .seq ?_
    refine .region ?_
    refine .move ?_
    refine .val ?_
    refine .assign ?_
    refine .nil ?_
    cases h
    exact .ret (fin_gen0 none)

/- soundservice/soundserviceref01.Hash -/
def f21_l1 (n : Nat) (a0 : (List Int)) (j12 : Int → Option Int) : Nat → Int → Int → Option Int
  | 0, _, _ => none
  | m21 + 1, v15, v16 =>
    if decide (v16 < (a0.length : Int)) then (
    (lAt a0 v16).bind fun x25 =>
    f21_l1 n a0 j12 m21 (IntKind.wrap .u64 ((bitsI .xor .u64 v15 (IntKind.wrap .u64 (x25))) * (1099511628211 : Int))) (w64 (v16 + (1 : Int))))
    else (
    j12 v15)
def f21 (n : Nat) (a0 : (List Int)) : Option Int :=
  joinK (fun (v11 : Int) =>
  some v11) fun j12 =>
  f21_l1 n a0 j12 n 14695981039346656037 0
set_option maxHeartbeats 4000000 in
set_option maxRecDepth 100000 in
theorem g21 {n : Nat} {a0 : (List Int)} {r : Int} (h : f21 n a0 = some r) :
    Ab.Can Try.prog 21 [.sl 5 .ro (a0.map (PV.int .u8))] H0 (.int .u64 r) H0 := by
  refine can_of tabOK mix Try.call21 Try.func21 rfl (by kernel_rfl) (by show _ ≤ 19; simp) fun _ => ?_
  rw [f21] at h
  refine .seq ?_
  refine .region ?_
  refine .assign ?_
  refine .nil ?_
  refine .seq ?_
  refine .region ?_
  refine .assign ?_
  refine .nil ?_
  obtain ⟨j12, hj12, h⟩ := joinE h
  refine .cutI (fun T => (∃ (v11 : Int), T = St.of [(3, .int .u64 v11)] [] ∧ j12 v11 = some r)) ?_ ?_
  · refine .seq ?_
    refine .region ?_
    refine .move ?_
    refine .lenL (f := (PV.int .u8)) ?_
    refine .move ?_
    refine .nil ?_
    refine .block ?_
    refine .loopI (fun m T => ∃ (v15 : Int) (v16 : Int), T = St.of [(3, .int .u64 v15), (6, .sl 5 .ro (a0.map (PV.int .u8))), (7, .int .i64 (a0.length : Int)), (8, .int .i64 v16)] [] ∧ f21_l1 n a0 j12 m v15 v16 = some r) _ _ ⟨_, _, rfl, h⟩ (imp_of (.cons rfl (.cons rfl (.cons rfl (.cons rfl (.nil))))) (.nil)) ?_
    rintro m21 T ⟨v15, v16, rfl, h⟩
    obtain _ | m21 := m21
    · rw [f21_l1] at h; cases h
    rw [f21_l1] at h
    refine .seq ?_
    refine .region ?_
    refine .val ?_
    refine .nil ?_
    refine .seq ?_
    refine .cond (fun hc23 => ?_) (fun hc23 => ?_)
    · replace h := (if_pos hc23).symm.trans h
      refine .skip ?_
      refine .seq ?_
      refine .block ?_
      refine .seq ?_
      refine .region ?_
      obtain ⟨x25, hx25, h⟩ := bindE h
      refine .idxL (f := (PV.int .u8)) hx25 ?_
      refine .ldL hx25 (y := .int .u8 x25) ?_
      refine .assign ?_
      refine .nil ?_
      refine .region ?_
      refine .move ?_
      refine .move ?_
      refine .val ?_
      refine .val ?_
      refine .val ?_
      refine .assign ?_
      refine .nil ?_
      refine .region ?_
      refine .val ?_
      refine .move ?_
      refine .nil ?_
      exact ⟨m21, _, Nat.lt_succ_self m21, ⟨_, _, rfl, h⟩, (imp_of (.cons rfl (.cons rfl (.cons rfl (.cons rfl (.nil))))) (.nil))⟩
    · replace h := (if_neg (nt hc23)).symm.trans h
      refine .exit (.hit ?_)
      exact ⟨_, ⟨_, rfl, h⟩, (imp_of (.cons rfl (.nil)) (.nil))⟩
  · rintro T ⟨v11, rfl, h⟩
    subst hj12
    refine .seq ?_
    refine .region ?_
    refine .move ?_
    refine .assign ?_
    refine .nil ?_
    cases h
    exact .ret (fin_gen0 none)

/- soundservice/wire.PutText -/
def f22 (_n : Nat) (a0 : (List Int)) (a1 : ByteArray) : Option ((List Int) × Int) :=
  if decide ((a1.size : Int) > (64 : Int)) then (
  some (([] : List Int), 3))
  else (
  (lMake (0 : Int) (w64 ((w64 ((a0.length : Int) + (1 : Int))) + (a1.size : Int))) (0 : Int)).bind fun x3 =>
  (lApp x3 a0).bind fun x4 =>
  (lApp x4 ([IntKind.wrap .u8 ((a1.size : Int))] : List Int)).bind fun x5 =>
  (lApp x5 (strNums a1)).bind fun x6 =>
  some (x6, 0))
set_option maxHeartbeats 4000000 in
set_option maxRecDepth 100000 in
theorem g22 {n : Nat} {a0 : (List Int)} {a1 : ByteArray} {r : ((List Int) × Int)} (h : f22 n a0 a1 = some r) :
    Ab.Can Try.prog 22 [.sl 5 .ro (a0.map (PV.int .u8)), .str a1] H0 (.tup [.sl 5 (.own (.rrow 0)) (r.1.map (PV.int .u8)), .int .i64 r.2]) H0 := by
  refine can_of tabOK mix Try.call22 Try.func22 rfl (by kernel_rfl) (by show _ ≤ 27; simp) fun _ => ?_
  rw [f22] at h
  refine .seq ?_
  refine .region ?_
  refine .assign ?_
  refine .assign ?_
  refine .nil ?_
  refine .seq ?_
  refine .seq ?_
  refine .region ?_
  refine .move ?_
  refine .val ?_
  refine .val ?_
  refine .nil ?_
  refine .cond (fun hc2 => ?_) (fun hc2 => ?_)
  · replace h := (if_pos hc2).symm.trans h
    refine .seq ?_
    refine .region ?_
    refine .assign ?_
    refine .assign ?_
    refine .nil ?_
    cases h
    refine .imp (Imp.slot 4 (v := .sl 5 (.own (.row 0 0)) (([] : List Int).map (PV.int .u8))) (.own _ (.row 0 0)) rfl) ?_
    exact .ret (fin_gen0 (some (.row 0 0)))
  · replace h := (if_neg (nt hc2)).symm.trans h
    refine .skip ?_
    refine .seq ?_
    refine .region ?_
    refine .move ?_
    refine .lenL (f := (PV.int .u8)) ?_
    refine .val ?_
    refine .move ?_
    refine .val ?_
    refine .val ?_
    obtain ⟨x3, hx3, h⟩ := bindE h
    refine .makeL (f := (PV.int .u8)) hx3 ?_
    refine .move ?_
    obtain ⟨x4, hx4, h⟩ := bindE h
    refine .appL (f := (PV.int .u8)) hx4 ?_
    refine .assign ?_
    refine .nil ?_
    refine .seq ?_
    refine .region ?_
    refine .move ?_
    refine .move ?_
    refine .val ?_
    refine .val ?_
    refine .litR (f := (PV.int .u8)) ([IntKind.wrap .u8 ((a1.size : Int))] : List Int) ?_
    obtain ⟨x5, hx5, h⟩ := bindE h
    refine .appL (f := (PV.int .u8)) hx5 ?_
    refine .move ?_
    obtain ⟨x6, hx6, h⟩ := bindE h
    refine .appSL hx6 ?_
    refine .assign ?_
    refine .assign ?_
    refine .nil ?_
    cases h
    exact .ret (fin_gen0 (some (.row 4 7)))
theorem g22r {n : Nat} {a0 : (List Int)} {a1 : ByteArray} {r : ((List Int) × Int)} (h : f22 n a0 a1 = some r) :
    Ab.Can Try.prog 22 [.sl 5 .ro (a0.map (PV.int .u8)), .str a1] H0 (.tup [.sl 5 .ro (r.1.map (PV.int .u8)), .int .i64 r.2]) H0 := Can.frzR (hq := []) (g22 h)

/- soundservice/soundserviceref01.PutText -/
def f23 (n : Nat) (a0 : (List Int)) (a1 : ByteArray) : Option ((List Int) × Int) :=
  if decide ((a1.size : Int) > (64 : Int)) then (
  some (([] : List Int), 3))
  else (
  (f60 n a0 (IntKind.wrap .u64 ((a1.size : Int))) (1 : Int)).bind fun y3 =>
  (lApp y3 (strNums a1)).bind fun x4 =>
  some (x4, 0))
set_option maxHeartbeats 4000000 in
set_option maxRecDepth 100000 in
theorem g23 {n : Nat} {a0 : (List Int)} {a1 : ByteArray} {r : ((List Int) × Int)} (h : f23 n a0 a1 = some r) :
    Ab.Can Try.prog 23 [.sl 5 .ro (a0.map (PV.int .u8)), .str a1] H0 (.tup [.sl 5 (.own (.rrow 0)) (r.1.map (PV.int .u8)), .int .i64 r.2]) H0 := by
  refine can_of tabOK mix Try.call23 Try.func23 rfl (by kernel_rfl) (by show _ ≤ 16; simp) fun _ => ?_
  rw [f23] at h
  refine .seq ?_
  refine .region ?_
  refine .assign ?_
  refine .assign ?_
  refine .nil ?_
  refine .seq ?_
  refine .seq ?_
  refine .region ?_
  refine .move ?_
  refine .val ?_
  refine .val ?_
  refine .nil ?_
  refine .cond (fun hc2 => ?_) (fun hc2 => ?_)
  · replace h := (if_pos hc2).symm.trans h
    refine .seq ?_
    refine .region ?_
    refine .assign ?_
    refine .assign ?_
    refine .nil ?_
    cases h
    refine .imp (Imp.slot 4 (v := .sl 5 (.own (.row 0 0)) (([] : List Int).map (PV.int .u8))) (.own _ (.row 0 0)) rfl) ?_
    exact .ret (fin_gen0 (some (.row 0 0)))
  · replace h := (if_neg (nt hc2)).symm.trans h
    refine .skip ?_
    refine .seq ?_
    refine .region ?_
    refine .move ?_
    refine .move ?_
    refine .val ?_
    refine .val ?_
    obtain ⟨y3, hy3, h⟩ := bindE h
    refine .cO (.row 3 4) (g60 hy3) (u := .sl 5 (.own (.row 3 4)) (y3.map (PV.int .u8))) ?_
    refine .move ?_
    obtain ⟨x4, hx4, h⟩ := bindE h
    refine .appSL hx4 ?_
    refine .assign ?_
    refine .assign ?_
    refine .nil ?_
    cases h
    exact .ret (fin_gen0 (some (.row 3 6)))
theorem g23r {n : Nat} {a0 : (List Int)} {a1 : ByteArray} {r : ((List Int) × Int)} (h : f23 n a0 a1 = some r) :
    Ab.Can Try.prog 23 [.sl 5 .ro (a0.map (PV.int .u8)), .str a1] H0 (.tup [.sl 5 .ro (r.1.map (PV.int .u8)), .int .i64 r.2]) H0 := Can.frzR (hq := []) (g23 h)

/- soundservice/soundserviceref01.Put16 -/
def f25 (n : Nat) (a0 : (List Int)) (a1 : Int) : Option (List Int) :=
  (f60 n a0 (IntKind.wrap .u64 (a1)) (2 : Int)).bind fun y1 =>
  some y1
set_option maxHeartbeats 4000000 in
set_option maxRecDepth 100000 in
theorem g25 {n : Nat} {a0 : (List Int)} {a1 : Int} {r : (List Int)} (h : f25 n a0 a1 = some r) :
    Ab.Can Try.prog 25 [.sl 5 .ro (a0.map (PV.int .u8)), .int .u16 a1] H0 (.sl 5 (.own (.rrow 0)) (r.map (PV.int .u8))) H0 := by
  refine can_of tabOK mix Try.call25 Try.func25 rfl (by kernel_rfl) (by show _ ≤ 9; simp) fun _ => ?_
  rw [f25] at h
  refine .seq ?_
  refine .region ?_
  refine .assign ?_
  refine .nil ?_
  refine .seq ?_
  refine .region ?_
  refine .move ?_
  refine .move ?_
  refine .val ?_
  obtain ⟨y1, hy1, h⟩ := bindE h
  refine .cO (.row 1 3) (g60 hy1) (u := .sl 5 (.own (.row 1 3)) (y1.map (PV.int .u8))) ?_
  refine .assign ?_
  refine .nil ?_
  cases h
  exact .ret (fin_gen0 (some (.row 1 3)))
theorem g25r {n : Nat} {a0 : (List Int)} {a1 : Int} {r : (List Int)} (h : f25 n a0 a1 = some r) :
    Ab.Can Try.prog 25 [.sl 5 .ro (a0.map (PV.int .u8)), .int .u16 a1] H0 (.sl 5 .ro (r.map (PV.int .u8))) H0 := Can.frzR (hq := []) (g25 h)

/- soundservice/wire.Put32 -/
def f26 (n : Nat) (a0 : (List Int)) (a1 : Int) : Option (List Int) :=
  (f62 n a0 a1 (4 : Int)).bind fun y1 =>
  some y1
set_option maxHeartbeats 4000000 in
set_option maxRecDepth 100000 in
theorem g26 {n : Nat} {a0 : (List Int)} {a1 : Int} {r : (List Int)} (h : f26 n a0 a1 = some r) :
    Ab.Can Try.prog 26 [.sl 5 .ro (a0.map (PV.int .u8)), .int .u32 a1] H0 (.sl 5 (.own (.rrow 0)) (r.map (PV.int .u8))) H0 := by
  refine can_of tabOK mix Try.call26 Try.func26 rfl (by kernel_rfl) (by show _ ≤ 8; simp) fun _ => ?_
  rw [f26] at h
  refine .seq ?_
  refine .region ?_
  refine .assign ?_
  refine .nil ?_
  refine .seq ?_
  refine .region ?_
  refine .move ?_
  refine .move ?_
  obtain ⟨y1, hy1, h⟩ := bindE h
  refine .cO (.row 1 2) (g62 hy1) (u := .sl 5 (.own (.row 1 2)) (y1.map (PV.int .u8))) ?_
  refine .assign ?_
  refine .nil ?_
  cases h
  exact .ret (fin_gen0 (some (.row 1 2)))
theorem g26r {n : Nat} {a0 : (List Int)} {a1 : Int} {r : (List Int)} (h : f26 n a0 a1 = some r) :
    Ab.Can Try.prog 26 [.sl 5 .ro (a0.map (PV.int .u8)), .int .u32 a1] H0 (.sl 5 .ro (r.map (PV.int .u8))) H0 := Can.frzR (hq := []) (g26 h)

/- soundservice/soundserviceref01.Put32 -/
def f27 (n : Nat) (a0 : (List Int)) (a1 : Int) : Option (List Int) :=
  (f60 n a0 (IntKind.wrap .u64 (a1)) (4 : Int)).bind fun y1 =>
  some y1
set_option maxHeartbeats 4000000 in
set_option maxRecDepth 100000 in
theorem g27 {n : Nat} {a0 : (List Int)} {a1 : Int} {r : (List Int)} (h : f27 n a0 a1 = some r) :
    Ab.Can Try.prog 27 [.sl 5 .ro (a0.map (PV.int .u8)), .int .u32 a1] H0 (.sl 5 (.own (.rrow 0)) (r.map (PV.int .u8))) H0 := by
  refine can_of tabOK mix Try.call27 Try.func27 rfl (by kernel_rfl) (by show _ ≤ 9; simp) fun _ => ?_
  rw [f27] at h
  refine .seq ?_
  refine .region ?_
  refine .assign ?_
  refine .nil ?_
  refine .seq ?_
  refine .region ?_
  refine .move ?_
  refine .move ?_
  refine .val ?_
  obtain ⟨y1, hy1, h⟩ := bindE h
  refine .cO (.row 1 3) (g60 hy1) (u := .sl 5 (.own (.row 1 3)) (y1.map (PV.int .u8))) ?_
  refine .assign ?_
  refine .nil ?_
  cases h
  exact .ret (fin_gen0 (some (.row 1 3)))
theorem g27r {n : Nat} {a0 : (List Int)} {a1 : Int} {r : (List Int)} (h : f27 n a0 a1 = some r) :
    Ab.Can Try.prog 27 [.sl 5 .ro (a0.map (PV.int .u8)), .int .u32 a1] H0 (.sl 5 .ro (r.map (PV.int .u8))) H0 := Can.frzR (hq := []) (g27 h)

/- soundservice/wire.Put64 -/
def f28 (n : Nat) (a0 : (List Int)) (a1 : Int) : Option (List Int) :=
  (f63 n a0 a1 (8 : Int)).bind fun y1 =>
  some y1
set_option maxHeartbeats 4000000 in
set_option maxRecDepth 100000 in
theorem g28 {n : Nat} {a0 : (List Int)} {a1 : Int} {r : (List Int)} (h : f28 n a0 a1 = some r) :
    Ab.Can Try.prog 28 [.sl 5 .ro (a0.map (PV.int .u8)), .int .u64 a1] H0 (.sl 5 (.own (.rrow 0)) (r.map (PV.int .u8))) H0 := by
  refine can_of tabOK mix Try.call28 Try.func28 rfl (by kernel_rfl) (by show _ ≤ 8; simp) fun _ => ?_
  rw [f28] at h
  refine .seq ?_
  refine .region ?_
  refine .assign ?_
  refine .nil ?_
  refine .seq ?_
  refine .region ?_
  refine .move ?_
  refine .move ?_
  obtain ⟨y1, hy1, h⟩ := bindE h
  refine .cO (.row 1 2) (g63 hy1) (u := .sl 5 (.own (.row 1 2)) (y1.map (PV.int .u8))) ?_
  refine .assign ?_
  refine .nil ?_
  cases h
  exact .ret (fin_gen0 (some (.row 1 2)))
theorem g28r {n : Nat} {a0 : (List Int)} {a1 : Int} {r : (List Int)} (h : f28 n a0 a1 = some r) :
    Ab.Can Try.prog 28 [.sl 5 .ro (a0.map (PV.int .u8)), .int .u64 a1] H0 (.sl 5 .ro (r.map (PV.int .u8))) H0 := Can.frzR (hq := []) (g28 h)

/- soundservice/soundserviceref01.Put64 -/
def f29 (n : Nat) (a0 : (List Int)) (a1 : Int) : Option (List Int) :=
  (f60 n a0 a1 (8 : Int)).bind fun y1 =>
  some y1
set_option maxHeartbeats 4000000 in
set_option maxRecDepth 100000 in
theorem g29 {n : Nat} {a0 : (List Int)} {a1 : Int} {r : (List Int)} (h : f29 n a0 a1 = some r) :
    Ab.Can Try.prog 29 [.sl 5 .ro (a0.map (PV.int .u8)), .int .u64 a1] H0 (.sl 5 (.own (.rrow 0)) (r.map (PV.int .u8))) H0 := by
  refine can_of tabOK mix Try.call29 Try.func29 rfl (by kernel_rfl) (by show _ ≤ 8; simp) fun _ => ?_
  rw [f29] at h
  refine .seq ?_
  refine .region ?_
  refine .assign ?_
  refine .nil ?_
  refine .seq ?_
  refine .region ?_
  refine .move ?_
  refine .move ?_
  obtain ⟨y1, hy1, h⟩ := bindE h
  refine .cO (.row 1 2) (g60 hy1) (u := .sl 5 (.own (.row 1 2)) (y1.map (PV.int .u8))) ?_
  refine .assign ?_
  refine .nil ?_
  cases h
  exact .ret (fin_gen0 (some (.row 1 2)))
theorem g29r {n : Nat} {a0 : (List Int)} {a1 : Int} {r : (List Int)} (h : f29 n a0 a1 = some r) :
    Ab.Can Try.prog 29 [.sl 5 .ro (a0.map (PV.int .u8)), .int .u64 a1] H0 (.sl 5 .ro (r.map (PV.int .u8))) H0 := Can.frzR (hq := []) (g29 h)

/- soundservice/wire.Get32 -/
def f30 (n : Nat) (a0 : (List Int)) (a1 : Int) : Option (Int × Int × Int) :=
  (f64 n a0 a1 (4 : Int)).bind fun y1 =>
  some (y1.1, y1.2.1, y1.2.2)
set_option maxHeartbeats 4000000 in
set_option maxRecDepth 100000 in
theorem g30 {n : Nat} {a0 : (List Int)} {a1 : Int} {r : (Int × Int × Int)} (h : f30 n a0 a1 = some r) :
    Ab.Can Try.prog 30 [.sl 5 .ro (a0.map (PV.int .u8)), .int .i64 a1] H0 (.tup [.int .u32 r.1, .int .i64 r.2.1, .int .i64 r.2.2]) H0 := by
  refine can_of tabOK mix Try.call30 Try.func30 rfl (by kernel_rfl) (by show _ ≤ 13; simp) fun _ => ?_
  rw [f30] at h
  refine .seq ?_
  refine .region ?_
  refine .assign ?_
  refine .assign ?_
  refine .assign ?_
  refine .nil ?_
  refine .seq ?_
  refine .region ?_
  refine .move ?_
  refine .move ?_
  obtain ⟨y1, hy1, h⟩ := bindE h
  refine .cP (g64 hy1) ?_
  refine .val ?_
  refine .val ?_
  refine .val ?_
  refine .assign ?_
  refine .assign ?_
  refine .assign ?_
  refine .nil ?_
  cases h
  exact .ret (fin_gen0 none)

/- soundservice/wire.GetText -/
def f31 (_n : Nat) (a0 : (List Int)) (a1 : Int) : Option (ByteArray × Int × Int) :=
  joinK (fun (_ : Unit) =>
  some ((⟨#[]⟩ : ByteArray), 0, 2)) fun j6 =>
  joinK (fun (_ : Unit) =>
  if decide (a1 > (a0.length : Int)) then (
  some ((⟨#[]⟩ : ByteArray), 0, 2))
  else (
  if (a1 == (a0.length : Int)) then (
  some ((⟨#[]⟩ : ByteArray), 0, 4))
  else (
  (lAt a0 a1).bind fun x12 =>
  if decide ((w64 (x12)) > (64 : Int)) then (
  some ((⟨#[]⟩ : ByteArray), 0, 3))
  else (
  if decide ((w64 ((w64 ((a0.length : Int) - a1)) - (1 : Int))) < (w64 (x12))) then (
  some ((⟨#[]⟩ : ByteArray), 0, 4))
  else (
  (lPart a0 (w64 (a1 + (1 : Int))) (w64 ((w64 (a1 + (1 : Int))) + (w64 (x12))))).bind fun x17 =>
  some (mkStr x17, w64 ((w64 (a1 + (1 : Int))) + (w64 (x12))), 0)))))) fun j7 =>
  if decide (a1 < (0 : Int)) then (
  j6 ())
  else (
  j7 ())
set_option maxHeartbeats 4000000 in
set_option maxRecDepth 100000 in
theorem g31 {n : Nat} {a0 : (List Int)} {a1 : Int} {r : (ByteArray × Int × Int)} (h : f31 n a0 a1 = some r) :
    Ab.Can Try.prog 31 [.sl 5 .ro (a0.map (PV.int .u8)), .int .i64 a1] H0 (.tup [.str r.1, .int .i64 r.2.1, .int .i64 r.2.2]) H0 := by
  refine can_of tabOK mix Try.call31 Try.func31 rfl (by kernel_rfl) (by show _ ≤ 47; simp) fun _ => ?_
  rw [f31] at h
  refine .seq ?_
  refine .region ?_
  refine .assign ?_
  refine .assign ?_
  refine .assign ?_
  refine .nil ?_
  refine .seq ?_
  obtain ⟨j6, hj6, h⟩ := joinE h
  obtain ⟨j7, hj7, h⟩ := joinE h
  refine .cutI (fun T => (T = St.of [(0, .sl 5 .ro (a0.map (PV.int .u8))), (1, .int .i64 a1), (15, .bool true)] [] ∧ j6 () = some r) ∨ (T = St.of [(0, .sl 5 .ro (a0.map (PV.int .u8))), (1, .int .i64 a1), (15, .bool (decide (a1 > (a0.length : Int))))] [] ∧ j7 () = some r)) ?_ ?_
  · refine .region ?_
    refine .move ?_
    refine .val ?_
    refine .move ?_
    refine .caseG (fun hc8 => ?_) (fun hc8 => ?_)
    · replace h := (if_pos hc8).symm.trans h
      refine .skip ?_
      refine .skip ?_
      refine .skip ?_
      refine .skip ?_
      refine .brT ?_
      refine .nil ?_
      exact ⟨_, (.inl ⟨rfl, h⟩), (imp_of (.cons rfl (.cons rfl (.cons rfl (.nil)))) (.nil))⟩
    · replace h := (if_neg (nt hc8)).symm.trans h
      refine .move ?_
      refine .move ?_
      refine .lenL (f := (PV.int .u8)) ?_
      refine .val ?_
      refine .brF ?_
      refine .nil ?_
      exact ⟨_, (.inr (⟨rfl, h⟩)), (imp_of (.cons rfl (.cons rfl (.cons rfl (.nil)))) (.nil))⟩
  · rintro T (⟨rfl, h⟩ | ⟨rfl, h⟩)
    · subst hj6
      refine .condT ?_
      refine .seq ?_
      refine .region ?_
      refine .assign ?_
      refine .assign ?_
      refine .assign ?_
      refine .nil ?_
      cases h
      exact .ret (fin_gen0 none)
    · subst hj7
      refine .cond (fun hc9 => ?_) (fun hc9 => ?_)
      · replace h := (if_pos hc9).symm.trans h
        refine .seq ?_
        refine .region ?_
        refine .assign ?_
        refine .assign ?_
        refine .assign ?_
        refine .nil ?_
        cases h
        exact .ret (fin_gen0 none)
      · replace h := (if_neg (nt hc9)).symm.trans h
        refine .skip ?_
        refine .seq ?_
        refine .seq ?_
        refine .region ?_
        refine .move ?_
        refine .move ?_
        refine .lenL (f := (PV.int .u8)) ?_
        refine .val ?_
        refine .nil ?_
        refine .cond (fun hc11 => ?_) (fun hc11 => ?_)
        · replace h := (if_pos hc11).symm.trans h
          refine .seq ?_
          refine .region ?_
          refine .assign ?_
          refine .assign ?_
          refine .assign ?_
          refine .nil ?_
          cases h
          exact .ret (fin_gen0 none)
        · replace h := (if_neg (nt hc11)).symm.trans h
          refine .skip ?_
          refine .seq ?_
          refine .region ?_
          refine .move ?_
          refine .move ?_
          obtain ⟨x12, hx12, h⟩ := bindE h
          refine .idxL (f := (PV.int .u8)) hx12 ?_
          refine .ldL hx12 (y := .int .u8 x12) ?_
          refine .val ?_
          refine .assign ?_
          refine .nil ?_
          refine .seq ?_
          refine .seq ?_
          refine .region ?_
          refine .move ?_
          refine .val ?_
          refine .nil ?_
          refine .cond (fun hc14 => ?_) (fun hc14 => ?_)
          · replace h := (if_pos hc14).symm.trans h
            refine .seq ?_
            refine .region ?_
            refine .assign ?_
            refine .assign ?_
            refine .assign ?_
            refine .nil ?_
            cases h
            exact .ret (fin_gen0 none)
          · replace h := (if_neg (nt hc14)).symm.trans h
            refine .skip ?_
            refine .seq ?_
            refine .seq ?_
            refine .region ?_
            refine .move ?_
            refine .lenL (f := (PV.int .u8)) ?_
            refine .move ?_
            refine .val ?_
            refine .val ?_
            refine .move ?_
            refine .val ?_
            refine .nil ?_
            refine .cond (fun hc16 => ?_) (fun hc16 => ?_)
            · replace h := (if_pos hc16).symm.trans h
              refine .seq ?_
              refine .region ?_
              refine .assign ?_
              refine .assign ?_
              refine .assign ?_
              refine .nil ?_
              cases h
              exact .ret (fin_gen0 none)
            · replace h := (if_neg (nt hc16)).symm.trans h
              refine .skip ?_
              refine .seq ?_
              refine .region ?_
              refine .move ?_
              refine .move ?_
              refine .val ?_
              refine .move ?_
              refine .val ?_
              refine .move ?_
              refine .val ?_
              obtain ⟨x17, hx17, h⟩ := bindE h
              refine .partL (f := (PV.int .u8)) hx17 ?_
              refine .toStr ?_
              refine .move ?_
              refine .val ?_
              refine .move ?_
              refine .val ?_
              refine .assign ?_
              refine .assign ?_
              refine .assign ?_
              refine .nil ?_
              cases h
              exact .ret (fin_gen0 none)

/- soundservice/wire.Get16 -/
def f32 (n : Nat) (a0 : (List Int)) (a1 : Int) : Option (Int × Int × Int) :=
  (f65 n a0 a1 (2 : Int)).bind fun y1 =>
  some (y1.1, y1.2.1, y1.2.2)
set_option maxHeartbeats 4000000 in
set_option maxRecDepth 100000 in
theorem g32 {n : Nat} {a0 : (List Int)} {a1 : Int} {r : (Int × Int × Int)} (h : f32 n a0 a1 = some r) :
    Ab.Can Try.prog 32 [.sl 5 .ro (a0.map (PV.int .u8)), .int .i64 a1] H0 (.tup [.int .u16 r.1, .int .i64 r.2.1, .int .i64 r.2.2]) H0 := by
  refine can_of tabOK mix Try.call32 Try.func32 rfl (by kernel_rfl) (by show _ ≤ 13; simp) fun _ => ?_
  rw [f32] at h
  refine .seq ?_
  refine .region ?_
  refine .assign ?_
  refine .assign ?_
  refine .assign ?_
  refine .nil ?_
  refine .seq ?_
  refine .region ?_
  refine .move ?_
  refine .move ?_
  obtain ⟨y1, hy1, h⟩ := bindE h
  refine .cP (g65 hy1) ?_
  refine .val ?_
  refine .val ?_
  refine .val ?_
  refine .assign ?_
  refine .assign ?_
  refine .assign ?_
  refine .nil ?_
  cases h
  exact .ret (fin_gen0 none)

/- soundservice/soundserviceref01.Get16 -/
def f33 (n : Nat) (a0 : (List Int)) (a1 : Int) : Option (Int × Int × Int) :=
  (f66 n a0 a1 (2 : Int)).bind fun y1 =>
  some (IntKind.wrap .u16 (y1.1), y1.2.1, y1.2.2)
set_option maxHeartbeats 4000000 in
set_option maxRecDepth 100000 in
theorem g33 {n : Nat} {a0 : (List Int)} {a1 : Int} {r : (Int × Int × Int)} (h : f33 n a0 a1 = some r) :
    Ab.Can Try.prog 33 [.sl 5 .ro (a0.map (PV.int .u8)), .int .i64 a1] H0 (.tup [.int .u16 r.1, .int .i64 r.2.1, .int .i64 r.2.2]) H0 := by
  refine can_of tabOK mix Try.call33 Try.func33 rfl (by kernel_rfl) (by show _ ≤ 21; simp) fun _ => ?_
  rw [f33] at h
  refine .seq ?_
  refine .region ?_
  refine .assign ?_
  refine .assign ?_
  refine .assign ?_
  refine .nil ?_
  refine .seq ?_
  refine .region ?_
  refine .move ?_
  refine .move ?_
  obtain ⟨y1, hy1, h⟩ := bindE h
  refine .cP (g66 hy1) ?_
  refine .move ?_
  refine .val ?_
  refine .val ?_
  refine .val ?_
  refine .assign ?_
  refine .assign ?_
  refine .assign ?_
  refine .nil ?_
  refine .seq ?_
  refine .region ?_
  refine .move ?_
  refine .val ?_
  refine .move ?_
  refine .move ?_
  refine .assign ?_
  refine .assign ?_
  refine .assign ?_
  refine .nil ?_
  cases h
  exact .ret (fin_gen0 none)

/- soundservice/soundserviceref01.Get32 -/
def f34 (n : Nat) (a0 : (List Int)) (a1 : Int) : Option (Int × Int × Int) :=
  (f66 n a0 a1 (4 : Int)).bind fun y1 =>
  some (IntKind.wrap .u32 (y1.1), y1.2.1, y1.2.2)
set_option maxHeartbeats 4000000 in
set_option maxRecDepth 100000 in
theorem g34 {n : Nat} {a0 : (List Int)} {a1 : Int} {r : (Int × Int × Int)} (h : f34 n a0 a1 = some r) :
    Ab.Can Try.prog 34 [.sl 5 .ro (a0.map (PV.int .u8)), .int .i64 a1] H0 (.tup [.int .u32 r.1, .int .i64 r.2.1, .int .i64 r.2.2]) H0 := by
  refine can_of tabOK mix Try.call34 Try.func34 rfl (by kernel_rfl) (by show _ ≤ 21; simp) fun _ => ?_
  rw [f34] at h
  refine .seq ?_
  refine .region ?_
  refine .assign ?_
  refine .assign ?_
  refine .assign ?_
  refine .nil ?_
  refine .seq ?_
  refine .region ?_
  refine .move ?_
  refine .move ?_
  obtain ⟨y1, hy1, h⟩ := bindE h
  refine .cP (g66 hy1) ?_
  refine .move ?_
  refine .val ?_
  refine .val ?_
  refine .val ?_
  refine .assign ?_
  refine .assign ?_
  refine .assign ?_
  refine .nil ?_
  refine .seq ?_
  refine .region ?_
  refine .move ?_
  refine .val ?_
  refine .move ?_
  refine .move ?_
  refine .assign ?_
  refine .assign ?_
  refine .assign ?_
  refine .nil ?_
  cases h
  exact .ret (fin_gen0 none)

/- soundservice/wire.Get64 -/
def f35 (n : Nat) (a0 : (List Int)) (a1 : Int) : Option (Int × Int × Int) :=
  (f67 n a0 a1 (8 : Int)).bind fun y1 =>
  some (y1.1, y1.2.1, y1.2.2)
set_option maxHeartbeats 4000000 in
set_option maxRecDepth 100000 in
theorem g35 {n : Nat} {a0 : (List Int)} {a1 : Int} {r : (Int × Int × Int)} (h : f35 n a0 a1 = some r) :
    Ab.Can Try.prog 35 [.sl 5 .ro (a0.map (PV.int .u8)), .int .i64 a1] H0 (.tup [.int .u64 r.1, .int .i64 r.2.1, .int .i64 r.2.2]) H0 := by
  refine can_of tabOK mix Try.call35 Try.func35 rfl (by kernel_rfl) (by show _ ≤ 13; simp) fun _ => ?_
  rw [f35] at h
  refine .seq ?_
  refine .region ?_
  refine .assign ?_
  refine .assign ?_
  refine .assign ?_
  refine .nil ?_
  refine .seq ?_
  refine .region ?_
  refine .move ?_
  refine .move ?_
  obtain ⟨y1, hy1, h⟩ := bindE h
  refine .cP (g67 hy1) ?_
  refine .val ?_
  refine .val ?_
  refine .val ?_
  refine .assign ?_
  refine .assign ?_
  refine .assign ?_
  refine .nil ?_
  cases h
  exact .ret (fin_gen0 none)

/- soundservice/soundserviceref01.Get64 -/
def f36 (n : Nat) (a0 : (List Int)) (a1 : Int) : Option (Int × Int × Int) :=
  (f66 n a0 a1 (8 : Int)).bind fun y1 =>
  some (y1.1, y1.2.1, y1.2.2)
set_option maxHeartbeats 4000000 in
set_option maxRecDepth 100000 in
theorem g36 {n : Nat} {a0 : (List Int)} {a1 : Int} {r : (Int × Int × Int)} (h : f36 n a0 a1 = some r) :
    Ab.Can Try.prog 36 [.sl 5 .ro (a0.map (PV.int .u8)), .int .i64 a1] H0 (.tup [.int .u64 r.1, .int .i64 r.2.1, .int .i64 r.2.2]) H0 := by
  refine can_of tabOK mix Try.call36 Try.func36 rfl (by kernel_rfl) (by show _ ≤ 13; simp) fun _ => ?_
  rw [f36] at h
  refine .seq ?_
  refine .region ?_
  refine .assign ?_
  refine .assign ?_
  refine .assign ?_
  refine .nil ?_
  refine .seq ?_
  refine .region ?_
  refine .move ?_
  refine .move ?_
  obtain ⟨y1, hy1, h⟩ := bindE h
  refine .cP (g66 hy1) ?_
  refine .val ?_
  refine .val ?_
  refine .val ?_
  refine .assign ?_
  refine .assign ?_
  refine .assign ?_
  refine .nil ?_
  cases h
  exact .ret (fin_gen0 none)

/- soundservice/soundserviceref01.GetText -/
def f37 (n : Nat) (a0 : (List Int)) (a1 : Int) : Option (ByteArray × Int × Int) :=
  (f66 n a0 a1 (1 : Int)).bind fun y1 =>
  if (y1.2.2 != (0 : Int)) then (
  some ((⟨#[]⟩ : ByteArray), 0, y1.2.2))
  else (
  if decide (y1.1 > (64 : Int)) then (
  some ((⟨#[]⟩ : ByteArray), 0, 3))
  else (
  if decide ((IntKind.wrap .u64 (w64 ((a0.length : Int) - y1.2.1))) < y1.1) then (
  some ((⟨#[]⟩ : ByteArray), 0, 4))
  else (
  (lPart a0 y1.2.1 (w64 (y1.2.1 + (w64 (y1.1))))).bind fun x8 =>
  some (mkStr x8, w64 (y1.2.1 + (w64 (y1.1))), 0))))
set_option maxHeartbeats 4000000 in
set_option maxRecDepth 100000 in
theorem g37 {n : Nat} {a0 : (List Int)} {a1 : Int} {r : (ByteArray × Int × Int)} (h : f37 n a0 a1 = some r) :
    Ab.Can Try.prog 37 [.sl 5 .ro (a0.map (PV.int .u8)), .int .i64 a1] H0 (.tup [.str r.1, .int .i64 r.2.1, .int .i64 r.2.2]) H0 := by
  refine can_of tabOK mix Try.call37 Try.func37 rfl (by kernel_rfl) (by show _ ≤ 44; simp) fun _ => ?_
  rw [f37] at h
  refine .seq ?_
  refine .region ?_
  refine .assign ?_
  refine .assign ?_
  refine .assign ?_
  refine .nil ?_
  refine .seq ?_
  refine .region ?_
  refine .move ?_
  refine .move ?_
  obtain ⟨y1, hy1, h⟩ := bindE h
  refine .cP (g66 hy1) ?_
  refine .move ?_
  refine .val ?_
  refine .val ?_
  refine .val ?_
  refine .assign ?_
  refine .assign ?_
  refine .assign ?_
  refine .nil ?_
  refine .seq ?_
  refine .block ?_
  refine .seq ?_
  refine .region ?_
  refine .move ?_
  refine .val ?_
  refine .assign ?_
  refine .nil ?_
  refine .cond (fun hc5 => ?_) (fun hc5 => ?_)
  · replace h := (if_pos hc5).symm.trans h
    refine .seq ?_
    refine .region ?_
    refine .move ?_
    refine .assign ?_
    refine .assign ?_
    refine .assign ?_
    refine .nil ?_
    cases h
    exact .ret (fin_gen0 none)
  · replace h := (if_neg (nt hc5)).symm.trans h
    refine .seq ?_
    refine .region ?_
    refine .move ?_
    refine .val ?_
    refine .assign ?_
    refine .nil ?_
    refine .cond (fun hc6 => ?_) (fun hc6 => ?_)
    · replace h := (if_pos hc6).symm.trans h
      refine .seq ?_
      refine .region ?_
      refine .assign ?_
      refine .assign ?_
      refine .assign ?_
      refine .nil ?_
      cases h
      exact .ret (fin_gen0 none)
    · replace h := (if_neg (nt hc6)).symm.trans h
      refine .seq ?_
      refine .region ?_
      refine .move ?_
      refine .lenL (f := (PV.int .u8)) ?_
      refine .move ?_
      refine .val ?_
      refine .val ?_
      refine .move ?_
      refine .val ?_
      refine .assign ?_
      refine .nil ?_
      refine .cond (fun hc7 => ?_) (fun hc7 => ?_)
      · replace h := (if_pos hc7).symm.trans h
        refine .seq ?_
        refine .region ?_
        refine .assign ?_
        refine .assign ?_
        refine .assign ?_
        refine .nil ?_
        cases h
        exact .ret (fin_gen0 none)
      · replace h := (if_neg (nt hc7)).symm.trans h
        refine .skip ?_
        refine .seq ?_
        refine .region ?_
        refine .move ?_
        refine .move ?_
        refine .move ?_
        refine .move ?_
        refine .val ?_
        refine .val ?_
        obtain ⟨x8, hx8, h⟩ := bindE h
        refine .partL (f := (PV.int .u8)) hx8 ?_
        refine .toStr ?_
        refine .move ?_
        refine .move ?_
        refine .val ?_
        refine .val ?_
        refine .assign ?_
        refine .assign ?_
        refine .assign ?_
        refine .nil ?_
        cases h
        exact .ret (fin_gen0 none)
end Go.Proofs.Ytcahjpkmldmjdaa
