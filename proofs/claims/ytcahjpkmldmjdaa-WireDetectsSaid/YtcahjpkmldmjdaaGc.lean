/-
  Plain functions of soundservicelaw01, and that the code does what they say.
-/
import Derived.Test.YtcahjpkmldmjdaaGb
namespace Go.Proofs.Ytcahjpkmldmjdaa
open Go Ab
/- soundservice/soundservicelaw01.WireSums -/
def f3 (n : Nat) (a0 : (List Int)) : Option Bool :=
  (f17 n ).bind fun y3 =>
  if !y3 then (
  some false)
  else (
  if decide ((a0.length : Int) > (500 : Int)) then (
  some true)
  else (
  (f18 n a0).bind fun y12 =>
  (f19 n a0).bind fun y13 =>
  if (y12 == y13) then (
  (f20 n a0).bind fun y15 =>
  (f21 n a0).bind fun y16 =>
  some (y15 == y16))
  else (
  some false)))
set_option maxHeartbeats 4000000 in
set_option maxRecDepth 100000 in
theorem g3 {n : Nat} {a0 : (List Int)} {r : Bool} (h : f3 n a0 = some r) :
    Ab.Can Try.prog 3 [.sl 5 .ro (a0.map (PV.int .u8))] H0 (.bool r) H0 := by
  refine can_of tabOK mix Try.call3 Try.func3 rfl (by kernel_rfl) (by show _ ≤ 22; simp) fun _ => ?_
  rw [f3] at h
  refine .seq ?_
  refine .region ?_
  refine .assign ?_
  refine .nil ?_
  refine .seq ?_
  refine .seq ?_
  refine .region ?_
  obtain ⟨y3, hy3, h⟩ := bindE h
  refine .cP (g17 hy3) ?_
  refine .val ?_
  refine .nil ?_
  refine .cond (fun hc4 => ?_) (fun hc4 => ?_)
  · replace h := (if_pos hc4).symm.trans h
    refine .seq ?_
    refine .region ?_
    refine .assign ?_
    refine .nil ?_
    cases h
    exact .ret (fin_gen0 none)
  · replace h := (if_neg (nt hc4)).symm.trans h
    refine .skip ?_
    refine .seq ?_
    refine .region ?_
    refine .move ?_
    refine .lenL (f := (PV.int .u8)) ?_
    refine .val ?_
    refine .move ?_
    refine .caseG (fun hc11 => ?_) (fun hc11 => ?_)
    · replace h := (if_pos hc11).symm.trans h
      refine .skip ?_
      refine .skip ?_
      refine .skip ?_
      refine .skip ?_
      refine .skip ?_
      refine .skip ?_
      refine .skip ?_
      refine .skip ?_
      refine .skip ?_
      refine .skip ?_
      refine .skip ?_
      refine .skip ?_
      refine .brT ?_
      refine .assign ?_
      refine .nil ?_
      cases h
      exact .ret (fin_gen0 none)
    · replace h := (if_neg (nt hc11)).symm.trans h
      refine .move ?_
      obtain ⟨y12, hy12, h⟩ := bindE h
      refine .cP (g18 hy12) ?_
      refine .move ?_
      obtain ⟨y13, hy13, h⟩ := bindE h
      refine .cP (g19 hy13) ?_
      refine .val ?_
      refine .move ?_
      refine .caseG (fun hc14 => ?_) (fun hc14 => ?_)
      · replace h := (if_pos hc14).symm.trans h
        refine .move ?_
        obtain ⟨y15, hy15, h⟩ := bindE h
        refine .cP (g20 hy15) ?_
        refine .move ?_
        obtain ⟨y16, hy16, h⟩ := bindE h
        refine .cP (g21 hy16) ?_
        refine .val ?_
        refine .brT ?_
        refine .brF ?_
        refine .assign ?_
        refine .nil ?_
        cases h
        exact .ret (fin_gen0 none)
      · replace h := (if_neg (nt hc14)).symm.trans h
        refine .skip ?_
        refine .skip ?_
        refine .skip ?_
        refine .skip ?_
        refine .skip ?_
        refine .brF ?_
        refine .brF ?_
        refine .assign ?_
        refine .nil ?_
        cases h
        exact .ret (fin_gen0 none)

/- soundservice/soundservicelaw01.WireDetects -/
def f4 (n : Nat) (a0 : (List Int)) (a1 : Int) (a2 : Int) (a3 : Int) : Option Bool :=
  (f17 n ).bind fun y3 =>
  if !y3 then (
  some false)
  else (
  joinK (fun (_ : Unit) =>
  some true) fun j12 =>
  joinK (fun (_ : Unit) =>
  if ((Int.tmod a2 (256 : Int)) == (0 : Int)) then (
  some true)
  else (
  (iRem (w64 (a1)) (a0.length : Int)).bind fun x17 =>
  (iRem (w64 (a3)) (a0.length : Int)).bind fun x18 =>
  (lApp ([] : List Int) a0).bind fun x19 =>
  (lApp ([] : List Int) a0).bind fun x20 =>
  (lApp ([] : List Int) a0).bind fun x21 =>
  (lAt x19 x17).bind fun x22 =>
  (lAt x19 x17).bind fun x23 =>
  (lAt x20 x18).bind fun x24 =>
  (lAt x20 x18).bind fun x25 =>
  (lAt x21 x17).bind fun x26 =>
  (lAt x21 x17).bind fun x27 =>
  (lAt (x21.set (x17 : Int).toNat (bitsI .xor .u8 x26 (IntKind.wrap .u8 (a2)))) x18).bind fun x28 =>
  (lAt (x21.set (x17 : Int).toNat (bitsI .xor .u8 x26 (IntKind.wrap .u8 (a2)))) x18).bind fun x29 =>
  (f18 n (x19.set (x17 : Int).toNat (bitsI .xor .u8 x22 (IntKind.wrap .u8 (a2))))).bind fun y37 =>
  (f18 n a0).bind fun y38 =>
  if (y37 != y38) then (
  (f18 n (x19.set (x17 : Int).toNat (bitsI .xor .u8 x22 (IntKind.wrap .u8 (a2))))).bind fun y40 =>
  (f18 n (x20.set (x18 : Int).toNat (bitsI .xor .u8 x24 (IntKind.wrap .u8 (iShrT .u16 a2 (8 : Int)))))).bind fun y41 =>
  (f18 n a0).bind fun y42 =>
  (f18 n ((x21.set (x17 : Int).toNat (bitsI .xor .u8 x26 (IntKind.wrap .u8 (a2)))).set (x18 : Int).toNat (bitsI .xor .u8 x28 (IntKind.wrap .u8 (iShrT .u16 a2 (8 : Int)))))).bind fun y43 =>
  some ((bitsI .xor .u32 (bitsI .xor .u32 y40 y41) y42) == y43))
  else (
  some false))) fun j13 =>
  if ((a0.length : Int) == (0 : Int)) then (
  j12 ())
  else (
  if decide ((a0.length : Int) > (300 : Int)) then (
  j12 ())
  else (
  j13 ())))
set_option maxHeartbeats 4000000 in
set_option maxRecDepth 100000 in
theorem g4 {n : Nat} {a0 : (List Int)} {a1 : Int} {a2 : Int} {a3 : Int} {r : Bool} (h : f4 n a0 a1 a2 a3 = some r) :
    Ab.Can Try.prog 4 [.sl 5 .ro (a0.map (PV.int .u8)), .int .u16 a1, .int .u16 a2, .int .u16 a3] H0 (.bool r) H0 := by
  refine can_of tabOK mix Try.call4 Try.func4 rfl (by kernel_rfl) (by show _ ≤ 97; simp) fun _ => ?_
  rw [f4] at h
  refine .seq ?_
  refine .region ?_
  refine .assign ?_
  refine .nil ?_
  refine .seq ?_
  refine .seq ?_
  refine .region ?_
  obtain ⟨y3, hy3, h⟩ := bindE h
  refine .cP (g17 hy3) ?_
  refine .val ?_
  refine .nil ?_
  refine .cond (fun hc4 => ?_) (fun hc4 => ?_)
  · replace h := (if_pos hc4).symm.trans h
    refine .seq ?_
    refine .region ?_
    refine .assign ?_
    refine .nil ?_
    cases h
    exact .ret (fin_gen0 none)
  · replace h := (if_neg (nt hc4)).symm.trans h
    refine .skip ?_
    refine .seq ?_
    obtain ⟨j12, hj12, h⟩ := joinE h
    obtain ⟨j13, hj13, h⟩ := joinE h
    refine .cutI (fun T => (T = St.of [(0, .sl 5 .ro (a0.map (PV.int .u8))), (1, .int .u16 a1), (2, .int .u16 a2), (3, .int .u16 a3), (28, .bool true)] [] ∧ j12 () = some r) ∨ (T = St.of [(0, .sl 5 .ro (a0.map (PV.int .u8))), (1, .int .u16 a1), (2, .int .u16 a2), (3, .int .u16 a3), (28, .bool ((Int.tmod a2 (256 : Int)) == (0 : Int)))] [] ∧ j13 () = some r)) ?_ ?_
    · refine .region ?_
      refine .move ?_
      refine .lenL (f := (PV.int .u8)) ?_
      refine .val ?_
      refine .move ?_
      refine .caseG (fun hc14 => ?_) (fun hc14 => ?_)
      · replace h := (if_pos hc14).symm.trans h
        refine .skip ?_
        refine .skip ?_
        refine .skip ?_
        refine .brT ?_
        refine .move ?_
        refine .skip ?_
        refine .skip ?_
        refine .skip ?_
        refine .brT ?_
        refine .nil ?_
        exact ⟨_, (.inl ⟨rfl, h⟩), (imp_of (.cons rfl (.cons rfl (.cons rfl (.cons rfl (.cons rfl (.nil)))))) (.nil))⟩
      · replace h := (if_neg (nt hc14)).symm.trans h
        refine .move ?_
        refine .lenL (f := (PV.int .u8)) ?_
        refine .val ?_
        refine .brF ?_
        refine .move ?_
        refine .caseG (fun hc15 => ?_) (fun hc15 => ?_)
        · replace h := (if_pos hc15).symm.trans h
          refine .skip ?_
          refine .skip ?_
          refine .skip ?_
          refine .brT ?_
          refine .nil ?_
          exact ⟨_, (.inl ⟨rfl, h⟩), (imp_of (.cons rfl (.cons rfl (.cons rfl (.cons rfl (.cons rfl (.nil)))))) (.nil))⟩
        · replace h := (if_neg (nt hc15)).symm.trans h
          refine .move ?_
          refine .val ?_ (hc := by decide)
          refine .val ?_
          refine .brF ?_
          refine .nil ?_
          exact ⟨_, (.inr (⟨rfl, h⟩)), (imp_of (.cons rfl (.cons rfl (.cons rfl (.cons rfl (.cons rfl (.nil)))))) (.nil))⟩
    · rintro T (⟨rfl, h⟩ | ⟨rfl, h⟩)
      · subst hj12
        refine .condT ?_
        refine .seq ?_
        refine .region ?_
        refine .assign ?_
        refine .nil ?_
        cases h
        exact .ret (fin_gen0 none)
      · subst hj13
        refine .cond (fun hc16 => ?_) (fun hc16 => ?_)
        · replace h := (if_pos hc16).symm.trans h
          refine .seq ?_
          refine .region ?_
          refine .assign ?_
          refine .nil ?_
          cases h
          exact .ret (fin_gen0 none)
        · replace h := (if_neg (nt hc16)).symm.trans h
          refine .skip ?_
          refine .seq ?_
          obtain ⟨x17, hx17, h⟩ := bindE h
          obtain ⟨x18, hx18, h⟩ := bindE h
          refine .draw [] [[], [], [], [], [], [], [], [], [], [], [], []] [[], [], [], [], [], [], [], [], [], [], [], []] [[]]
            [(0, 0), (1, 0), (2, 0), (3, 0), (4, 0), (5, 0), (6, 0), (7, 0), (8, 0), (9, 0), (10, 0), (11, 0)] [] 0
            [⟨[(29, .int .u16 a1), (30, .int .i64 (w64 (a1))), (31, .sl 5 .ro (a0.map (PV.int .u8))), (32, .int .i64 (a0.length : Int)), (33, .int .i64 x17), (34, .int .u16 a3), (35, .int .i64 (w64 (a3))), (36, .sl 5 .ro (a0.map (PV.int .u8))), (37, .int .i64 (a0.length : Int)), (38, .int .i64 x18), (9, .int .i64 x17), (10, .int .i64 x18), (0, .sl 5 .ro (a0.map (PV.int .u8))), (1, .int .u16 a1), (2, .int .u16 a2), (3, .int .u16 a3)], [], []⟩]
            [(0, .sl 5 .ro (a0.map (PV.int .u8))), (1, .int .u16 a1), (2, .int .u16 a2), (3, .int .u16 a3)]
            (.cons [1] [] (fun _ _ h => .move (h _)) rfl rfl <|
            .cons [29] [] (fun _ _ h => .val (h _)) rfl rfl <|
            .cons [0] [] (fun _ _ h => .move (h _)) rfl rfl <|
            .cons [31] [] (fun _ _ h => .lenL (f := (PV.int .u8)) (h _)) rfl rfl <|
            .cons [30, 32] [] (fun _ _ h => .remL hx17 (h _)) rfl rfl <|
            .cons [3] [] (fun _ _ h => .move (h _)) rfl rfl <|
            .cons [34] [] (fun _ _ h => .val (h _)) rfl rfl <|
            .cons [0] [] (fun _ _ h => .move (h _)) rfl rfl <|
            .cons [36] [] (fun _ _ h => .lenL (f := (PV.int .u8)) (h _)) rfl rfl <|
            .cons [35, 37] [] (fun _ _ h => .remL hx18 (h _)) rfl rfl <|
            .cons [33] [] (fun _ _ h => .assign (h _)) rfl rfl <|
            .cons [38] [] (fun _ _ h => .assign (h _)) rfl rfl <|
            .nil)
            (.nil)
            (by kernel_rfl) rfl (.cons rfl (.cons rfl (.cons rfl (.cons rfl (.nil))))) (.nil) (.nil) ?_
          refine .imp (T := St.of [(0, .sl 5 .ro (a0.map (PV.int .u8))), (2, .int .u16 a2), (9, .int .i64 x17), (10, .int .i64 x18)] []) (imp_of (.cons rfl (.cons rfl (.cons rfl (.cons rfl (.nil))))) (.nil)) ?_
          refine .seq ?_
          refine .region ?_
          refine .move ?_
          obtain ⟨x19, hx19, h⟩ := bindE h
          refine .appN (f := (PV.int .u8)) hx19 ?_
          refine .move ?_
          obtain ⟨x20, hx20, h⟩ := bindE h
          refine .appN (f := (PV.int .u8)) hx20 ?_
          refine .move ?_
          obtain ⟨x21, hx21, h⟩ := bindE h
          refine .appN (f := (PV.int .u8)) hx21 ?_
          refine .assign ?_
          refine .assign ?_
          refine .assign ?_
          refine .nil ?_
          refine .seq ?_
          refine .region ?_
          refine .move ?_
          refine .move ?_
          obtain ⟨x22, hx22, h⟩ := bindE h
          refine .idxL (f := (PV.int .u8)) hx22 ?_
          refine .ldL hx22 (y := .int .u8 x22) ?_
          refine .move ?_
          refine .val ?_
          refine .val ?_
          obtain ⟨x23, hx23, h⟩ := bindE h
          refine .idxL (f := (PV.int .u8)) hx23 ?_
          refine .stL hx23 (z' := bitsI .xor .u8 x22 (IntKind.wrap .u8 (a2))) ?_
          refine .now 40 (congrArg (PV.sl 5 (.own (.row 6 1))) (List.map_set (f := (PV.int .u8))).symm) ?_
          refine .now 11 (congrArg (PV.sl 5 (.own (.row 6 1))) (List.map_set (f := (PV.int .u8))).symm) ?_
          refine .now 45 (congrArg (PV.sl 5 (.own (.row 6 1))) (List.map_set (f := (PV.int .u8))).symm) ?_
          refine .nil ?_
          refine .imp (T := St.of [(0, .sl 5 .ro (a0.map (PV.int .u8))), (2, .int .u16 a2), (9, .int .i64 x17), (10, .int .i64 x18), (11, .sl 5 (.own (.row 6 1)) ((x19.set (x17 : Int).toNat (bitsI .xor .u8 x22 (IntKind.wrap .u8 (a2)))).map (PV.int .u8))), (12, .sl 5 (.own (.row 6 3)) (x20.map (PV.int .u8))), (13, .sl 5 (.own (.row 6 5)) (x21.map (PV.int .u8)))] []) (imp_of (.cons rfl (.cons rfl (.cons rfl (.cons rfl (.cons rfl (.cons rfl (.cons rfl (.nil)))))))) (.nil)) ?_
          refine .seq ?_
          refine .region ?_
          refine .move ?_
          refine .move ?_
          obtain ⟨x24, hx24, h⟩ := bindE h
          refine .idxL (f := (PV.int .u8)) hx24 ?_
          refine .ldL hx24 (y := .int .u8 x24) ?_
          refine .move ?_
          refine .val ?_ (hc := by decide)
          refine .val ?_
          refine .val ?_
          obtain ⟨x25, hx25, h⟩ := bindE h
          refine .idxL (f := (PV.int .u8)) hx25 ?_
          refine .stL hx25 (z' := bitsI .xor .u8 x24 (IntKind.wrap .u8 (iShrT .u16 a2 (8 : Int)))) ?_
          refine .now 12 (congrArg (PV.sl 5 (.own (.row 6 3))) (List.map_set (f := (PV.int .u8))).symm) ?_
          refine .now 53 (congrArg (PV.sl 5 (.own (.row 6 3))) (List.map_set (f := (PV.int .u8))).symm) ?_
          refine .nil ?_
          refine .seq ?_
          refine .region ?_
          refine .move ?_
          refine .move ?_
          obtain ⟨x26, hx26, h⟩ := bindE h
          refine .idxL (f := (PV.int .u8)) hx26 ?_
          refine .ldL hx26 (y := .int .u8 x26) ?_
          refine .move ?_
          refine .val ?_
          refine .val ?_
          obtain ⟨x27, hx27, h⟩ := bindE h
          refine .idxL (f := (PV.int .u8)) hx27 ?_
          refine .stL hx27 (z' := bitsI .xor .u8 x26 (IntKind.wrap .u8 (a2))) ?_
          refine .now 13 (congrArg (PV.sl 5 (.own (.row 6 5))) (List.map_set (f := (PV.int .u8))).symm) ?_
          refine .now 62 (congrArg (PV.sl 5 (.own (.row 6 5))) (List.map_set (f := (PV.int .u8))).symm) ?_
          refine .nil ?_
          refine .seq ?_
          refine .region ?_
          refine .move ?_
          refine .move ?_
          obtain ⟨x28, hx28, h⟩ := bindE h
          refine .idxL (f := (PV.int .u8)) hx28 ?_
          refine .ldL hx28 (y := .int .u8 x28) ?_
          refine .move ?_
          refine .val ?_ (hc := by decide)
          refine .val ?_
          refine .val ?_
          obtain ⟨x29, hx29, h⟩ := bindE h
          refine .idxL (f := (PV.int .u8)) hx29 ?_
          refine .stL hx29 (z' := bitsI .xor .u8 x28 (IntKind.wrap .u8 (iShrT .u16 a2 (8 : Int)))) ?_
          refine .now 13 (congrArg (PV.sl 5 (.own (.row 6 5))) (List.map_set (f := (PV.int .u8))).symm) ?_
          refine .now 62 (congrArg (PV.sl 5 (.own (.row 6 5))) (List.map_set (f := (PV.int .u8))).symm) ?_
          refine .now 70 (congrArg (PV.sl 5 (.own (.row 6 5))) (List.map_set (f := (PV.int .u8))).symm) ?_
          refine .nil ?_
          refine .imp (T := St.of [(0, .sl 5 .ro (a0.map (PV.int .u8))), (11, .sl 5 (.own (.row 6 1)) ((x19.set (x17 : Int).toNat (bitsI .xor .u8 x22 (IntKind.wrap .u8 (a2)))).map (PV.int .u8))), (12, .sl 5 (.own (.row 6 3)) ((x20.set (x18 : Int).toNat (bitsI .xor .u8 x24 (IntKind.wrap .u8 (iShrT .u16 a2 (8 : Int))))).map (PV.int .u8))), (13, .sl 5 (.own (.row 6 5)) (((x21.set (x17 : Int).toNat (bitsI .xor .u8 x26 (IntKind.wrap .u8 (a2)))).set (x18 : Int).toNat (bitsI .xor .u8 x28 (IntKind.wrap .u8 (iShrT .u16 a2 (8 : Int))))).map (PV.int .u8)))] []) (imp_of (.cons rfl (.cons rfl (.cons rfl (.cons rfl (.nil))))) (.nil)) ?_
          refine .seq ?_
          refine .region ?_
          refine .move ?_
          obtain ⟨y37, hy37, h⟩ := bindE h
          refine .freeze (.row 6 1) ?_
          refine .cP (g18 hy37) ?_
          refine .move ?_
          obtain ⟨y38, hy38, h⟩ := bindE h
          refine .cP (g18 hy38) ?_
          refine .val ?_
          refine .move ?_
          refine .caseG (fun hc39 => ?_) (fun hc39 => ?_)
          · replace h := (if_pos hc39).symm.trans h
            refine .move ?_
            obtain ⟨y40, hy40, h⟩ := bindE h
            refine .cP (g18 hy40) ?_
            refine .move ?_
            obtain ⟨y41, hy41, h⟩ := bindE h
            refine .freeze (.row 6 3) ?_
            refine .cP (g18 hy41) ?_
            refine .val ?_
            refine .move ?_
            obtain ⟨y42, hy42, h⟩ := bindE h
            refine .cP (g18 hy42) ?_
            refine .val ?_
            refine .move ?_
            obtain ⟨y43, hy43, h⟩ := bindE h
            refine .freeze (.row 6 5) ?_
            refine .cP (g18 hy43) ?_
            refine .val ?_
            refine .brT ?_
            refine .assign ?_
            refine .nil ?_
            cases h
            exact .ret (fin_gen0 none)
          · replace h := (if_neg (nt hc39)).symm.trans h
            refine .skip ?_
            refine .skip ?_
            refine .skip ?_
            refine .skip ?_
            refine .skip ?_
            refine .skip ?_
            refine .skip ?_
            refine .skip ?_
            refine .skip ?_
            refine .skip ?_
            refine .skip ?_
            refine .brF ?_
            refine .assign ?_
            refine .nil ?_
            cases h
            exact .ret (fin_gen0 none)

/- soundservice/soundservicelaw01.WirePuts -/
def f5 (n : Nat) (a0 : (List Int)) (a1 : Int) (a2 : ByteArray) : Option Bool :=
  (f17 n ).bind fun y3 =>
  if !y3 then (
  some false)
  else (
  joinK (fun (_ : Unit) =>
  some true) fun j10 =>
  joinK (fun (_ : Unit) =>
  if decide ((a2.size : Int) > (500 : Int)) then (
  some true)
  else (
  (f22 n a0 a2).bind fun y14 =>
  (f23 n a0 a2).bind fun y15 =>
  (f24 n a0 (IntKind.wrap .u16 (a1))).bind fun y26 =>
  (f25 n a0 (IntKind.wrap .u16 (a1))).bind fun y27 =>
  if sEq (mkStr y26) (mkStr y27) then (
  (f26 n a0 (IntKind.wrap .u32 (a1))).bind fun y29 =>
  (f27 n a0 (IntKind.wrap .u32 (a1))).bind fun y30 =>
  if sEq (mkStr y29) (mkStr y30) then (
  (f28 n a0 a1).bind fun y32 =>
  (f29 n a0 a1).bind fun y33 =>
  if sEq (mkStr y32) (mkStr y33) then (
  if sEq (mkStr y14.1) (mkStr y15.1) then (
  some (y14.2 == y15.2))
  else (
  some false))
  else (
  some false))
  else (
  some false))
  else (
  some false))) fun j11 =>
  if decide ((a0.length : Int) > (500 : Int)) then (
  j10 ())
  else (
  j11 ()))
set_option maxHeartbeats 4000000 in
set_option maxRecDepth 100000 in
theorem g5 {n : Nat} {a0 : (List Int)} {a1 : Int} {a2 : ByteArray} {r : Bool} (h : f5 n a0 a1 a2 = some r) :
    Ab.Can Try.prog 5 [.sl 5 .ro (a0.map (PV.int .u8)), .int .u64 a1, .str a2] H0 (.bool r) H0 := by
  refine can_of tabOK mix Try.call5 Try.func5 rfl (by kernel_rfl) (by show _ ≤ 80; simp) fun _ => ?_
  rw [f5] at h
  refine .seq ?_
  refine .region ?_
  refine .assign ?_
  refine .nil ?_
  refine .seq ?_
  refine .seq ?_
  refine .region ?_
  obtain ⟨y3, hy3, h⟩ := bindE h
  refine .cP (g17 hy3) ?_
  refine .val ?_
  refine .nil ?_
  refine .cond (fun hc4 => ?_) (fun hc4 => ?_)
  · replace h := (if_pos hc4).symm.trans h
    refine .seq ?_
    refine .region ?_
    refine .assign ?_
    refine .nil ?_
    cases h
    exact .ret (fin_gen0 none)
  · replace h := (if_neg (nt hc4)).symm.trans h
    refine .skip ?_
    refine .seq ?_
    obtain ⟨j10, hj10, h⟩ := joinE h
    obtain ⟨j11, hj11, h⟩ := joinE h
    refine .cutI (fun T => (T = St.of [(0, .sl 5 .ro (a0.map (PV.int .u8))), (1, .int .u64 a1), (2, .str a2), (20, .bool true)] [] ∧ j10 () = some r) ∨ (T = St.of [(0, .sl 5 .ro (a0.map (PV.int .u8))), (1, .int .u64 a1), (2, .str a2), (20, .bool (decide ((a2.size : Int) > (500 : Int))))] [] ∧ j11 () = some r)) ?_ ?_
    · refine .region ?_
      refine .move ?_
      refine .lenL (f := (PV.int .u8)) ?_
      refine .val ?_
      refine .move ?_
      refine .caseG (fun hc12 => ?_) (fun hc12 => ?_)
      · replace h := (if_pos hc12).symm.trans h
        refine .skip ?_
        refine .skip ?_
        refine .skip ?_
        refine .brT ?_
        refine .nil ?_
        exact ⟨_, (.inl ⟨rfl, h⟩), (imp_of (.cons rfl (.cons rfl (.cons rfl (.cons rfl (.nil))))) (.nil))⟩
      · replace h := (if_neg (nt hc12)).symm.trans h
        refine .move ?_
        refine .val ?_
        refine .val ?_
        refine .brF ?_
        refine .nil ?_
        exact ⟨_, (.inr (⟨rfl, h⟩)), (imp_of (.cons rfl (.cons rfl (.cons rfl (.cons rfl (.nil))))) (.nil))⟩
    · rintro T (⟨rfl, h⟩ | ⟨rfl, h⟩)
      · subst hj10
        refine .condT ?_
        refine .seq ?_
        refine .region ?_
        refine .assign ?_
        refine .nil ?_
        cases h
        exact .ret (fin_gen0 none)
      · subst hj11
        refine .cond (fun hc13 => ?_) (fun hc13 => ?_)
        · replace h := (if_pos hc13).symm.trans h
          refine .seq ?_
          refine .region ?_
          refine .assign ?_
          refine .nil ?_
          cases h
          exact .ret (fin_gen0 none)
        · replace h := (if_neg (nt hc13)).symm.trans h
          refine .skip ?_
          refine .seq ?_
          refine .region ?_
          refine .move ?_
          refine .move ?_
          obtain ⟨y14, hy14, h⟩ := bindE h
          refine .cP (g22r hy14) ?_
          refine .move ?_
          refine .val ?_
          refine .val ?_
          refine .assign ?_
          refine .assign ?_
          refine .nil ?_
          refine .seq ?_
          refine .region ?_
          refine .move ?_
          refine .move ?_
          obtain ⟨y15, hy15, h⟩ := bindE h
          refine .cP (g23r hy15) ?_
          refine .move ?_
          refine .val ?_
          refine .val ?_
          refine .assign ?_
          refine .assign ?_
          refine .nil ?_
          refine .seq ?_
          obtain ⟨y26, hy26, h⟩ := bindE h
          obtain ⟨y27, hy27, h⟩ := bindE h
          rcases bool_em (sEq (mkStr y26) (mkStr y27)) with hc28 | hc28
          · replace h := (if_pos hc28).symm.trans h
            obtain ⟨y29, hy29, h⟩ := bindE h
            obtain ⟨y30, hy30, h⟩ := bindE h
            rcases bool_em (sEq (mkStr y29) (mkStr y30)) with hc31 | hc31
            · replace h := (if_pos hc31).symm.trans h
              obtain ⟨y32, hy32, h⟩ := bindE h
              obtain ⟨y33, hy33, h⟩ := bindE h
              rcases bool_em (sEq (mkStr y32) (mkStr y33)) with hc34 | hc34
              · replace h := (if_pos hc34).symm.trans h
                rcases bool_em (sEq (mkStr y14.1) (mkStr y15.1)) with hc35 | hc35
                · replace h := (if_pos hc35).symm.trans h
                  refine .draw [] [[], [], [], [], [], [], [], [], [], [], [], [], [], [], [], [], [], [], [], [], [], [], [], [], [], [], [], [], [], [], [], [], [], [], [], [], [], [], [], [], [], [], [], [], [], [], [], []] [[], [], [], [], [], [], [], [], [], [], [], [], [], [], [], [], [], [], [], [], [], [], [], [], [], [], [], [], [], [], [], [], [], [], [], [], [], [], [], [], [], [], [], [], [], [], [], []] [[]]
                    [(0, 0), (1, 0), (2, 0), (3, 0), (4, 0), (5, 0), (6, 0), (7, 0), (8, 0), (9, 0), (10, 0), (11, 0), (12, 0), (13, 0), (14, 0), (15, 0), (16, 0), (17, 0), (18, 0), (19, 0), (20, 0), (21, 0), (22, 0), (23, 0), (24, 0), (25, 0), (26, 0), (27, 0), (28, 0), (29, 0), (30, 0), (31, 0), (32, 0), (33, 0), (34, 0), (35, 0), (36, 0), (37, 0), (38, 0), (39, 0), (40, 0), (41, 0), (42, 0), (43, 0), (44, 0), (45, 0), (46, 0), (47, 0)] [] 0
                    [⟨[(33, .sl 5 .ro (a0.map (PV.int .u8))), (34, .int .u64 a1), (35, .int .u16 (IntKind.wrap .u16 (a1))), (36, .sl 5 .ro (y26.map (PV.int .u8))), (37, .str (mkStr y26)), (38, .sl 5 .ro (a0.map (PV.int .u8))), (39, .int .u64 a1), (40, .int .u16 (IntKind.wrap .u16 (a1))), (41, .sl 5 .ro (y27.map (PV.int .u8))), (42, .str (mkStr y27)), (43, .bool true), (44, .bool true), (45, .sl 5 .ro (a0.map (PV.int .u8))), (46, .int .u64 a1), (47, .int .u32 (IntKind.wrap .u32 (a1))), (48, .sl 5 .ro (y29.map (PV.int .u8))), (49, .str (mkStr y29)), (50, .sl 5 .ro (a0.map (PV.int .u8))), (51, .int .u64 a1), (52, .int .u32 (IntKind.wrap .u32 (a1))), (53, .sl 5 .ro (y30.map (PV.int .u8))), (54, .str (mkStr y30)), (55, .bool true), (56, .bool true), (57, .bool true), (58, .sl 5 .ro (a0.map (PV.int .u8))), (59, .int .u64 a1), (60, .sl 5 .ro (y32.map (PV.int .u8))), (61, .str (mkStr y32)), (62, .sl 5 .ro (a0.map (PV.int .u8))), (63, .int .u64 a1), (64, .sl 5 .ro (y33.map (PV.int .u8))), (65, .str (mkStr y33)), (66, .bool true), (67, .bool true), (68, .bool true), (69, .sl 5 .ro (y14.1.map (PV.int .u8))), (70, .str (mkStr y14.1)), (71, .sl 5 .ro (y15.1.map (PV.int .u8))), (72, .str (mkStr y15.1)), (73, .bool true), (74, .bool true), (75, .bool true), (76, .int .i64 y14.2), (77, .int .i64 y15.2), (78, .bool (y14.2 == y15.2)), (79, .bool (y14.2 == y15.2)), (6, .bool (y14.2 == y15.2)), (0, .sl 5 .ro (a0.map (PV.int .u8))), (1, .int .u64 a1), (7, .sl 5 .ro (y14.1.map (PV.int .u8))), (8, .int .i64 y14.2), (9, .sl 5 .ro (y15.1.map (PV.int .u8))), (10, .int .i64 y15.2)], [], []⟩]
                    [(0, .sl 5 .ro (a0.map (PV.int .u8))), (1, .int .u64 a1), (7, .sl 5 .ro (y14.1.map (PV.int .u8))), (8, .int .i64 y14.2), (9, .sl 5 .ro (y15.1.map (PV.int .u8))), (10, .int .i64 y15.2)]
                    (.cons [0] [] (fun _ _ h => .move (h _)) rfl rfl <|
                    .cons [1] [] (fun _ _ h => .move (h _)) rfl rfl <|
                    .cons [34] [] (fun _ _ h => .val (h _)) rfl rfl <|
                    .cons [33, 35] [] (fun _ _ h => .cP (g24r hy26) (h _)) rfl rfl <|
                    .cons [36] [] (fun _ _ h => .toStr (h _)) rfl rfl <|
                    .cons [0] [] (fun _ _ h => .move (h _)) rfl rfl <|
                    .cons [1] [] (fun _ _ h => .move (h _)) rfl rfl <|
                    .cons [39] [] (fun _ _ h => .val (h _)) rfl rfl <|
                    .cons [38, 40] [] (fun _ _ h => .cP (g25r hy27) (h _)) rfl rfl <|
                    .cons [41] [] (fun _ _ h => .toStr (h _)) rfl rfl <|
                    .cons [37, 42] [] (fun _ _ h => .valB hc28 (h _)) rfl rfl <|
                    .cons [43] [] (fun _ _ h => .move (h _)) rfl rfl <|
                    .cons [0, 44] [] (fun _ _ h => .move (h _)) rfl rfl <|
                    .cons [1, 44] [] (fun _ _ h => .move (h _)) rfl rfl <|
                    .cons [46, 44] [] (fun _ _ h => .val (h _)) rfl rfl <|
                    .cons [45, 47, 44] [] (fun _ _ h => .cP (g26r hy29) (h _)) rfl rfl <|
                    .cons [48, 44] [] (fun _ _ h => .toStr (h _)) rfl rfl <|
                    .cons [0, 44] [] (fun _ _ h => .move (h _)) rfl rfl <|
                    .cons [1, 44] [] (fun _ _ h => .move (h _)) rfl rfl <|
                    .cons [51, 44] [] (fun _ _ h => .val (h _)) rfl rfl <|
                    .cons [50, 52, 44] [] (fun _ _ h => .cP (g27r hy30) (h _)) rfl rfl <|
                    .cons [53, 44] [] (fun _ _ h => .toStr (h _)) rfl rfl <|
                    .cons [49, 54, 44] [] (fun _ _ h => .valB hc31 (h _)) rfl rfl <|
                    .cons [44, 55] [] (fun _ _ h => .brT (h _)) rfl rfl <|
                    .cons [56] [] (fun _ _ h => .move (h _)) rfl rfl <|
                    .cons [0, 57] [] (fun _ _ h => .move (h _)) rfl rfl <|
                    .cons [1, 57] [] (fun _ _ h => .move (h _)) rfl rfl <|
                    .cons [58, 59, 57] [] (fun _ _ h => .cP (g28r hy32) (h _)) rfl rfl <|
                    .cons [60, 57] [] (fun _ _ h => .toStr (h _)) rfl rfl <|
                    .cons [0, 57] [] (fun _ _ h => .move (h _)) rfl rfl <|
                    .cons [1, 57] [] (fun _ _ h => .move (h _)) rfl rfl <|
                    .cons [62, 63, 57] [] (fun _ _ h => .cP (g29r hy33) (h _)) rfl rfl <|
                    .cons [64, 57] [] (fun _ _ h => .toStr (h _)) rfl rfl <|
                    .cons [61, 65, 57] [] (fun _ _ h => .valB hc34 (h _)) rfl rfl <|
                    .cons [57, 66] [] (fun _ _ h => .brT (h _)) rfl rfl <|
                    .cons [67] [] (fun _ _ h => .move (h _)) rfl rfl <|
                    .cons [7, 68] [] (fun _ _ h => .move (h _)) rfl rfl <|
                    .cons [69, 68] [] (fun _ _ h => .toStr (h _)) rfl rfl <|
                    .cons [9, 68] [] (fun _ _ h => .move (h _)) rfl rfl <|
                    .cons [71, 68] [] (fun _ _ h => .toStr (h _)) rfl rfl <|
                    .cons [70, 72, 68] [] (fun _ _ h => .valB hc35 (h _)) rfl rfl <|
                    .cons [68, 73] [] (fun _ _ h => .brT (h _)) rfl rfl <|
                    .cons [74] [] (fun _ _ h => .move (h _)) rfl rfl <|
                    .cons [8, 75] [] (fun _ _ h => .move (h _)) rfl rfl <|
                    .cons [10, 75] [] (fun _ _ h => .move (h _)) rfl rfl <|
                    .cons [76, 77, 75] [] (fun _ _ h => .val (h _)) rfl rfl <|
                    .cons [75, 78] [] (fun _ _ h => .brT (h _)) rfl rfl <|
                    .cons [79] [] (fun _ _ h => .assign (h _)) rfl rfl <|
                    .nil)
                    (.nil)
                    (by kernel_rfl) rfl (.cons rfl (.cons rfl (.cons rfl (.cons rfl (.cons rfl (.cons rfl (.nil))))))) (.nil) (.nil) ?_
                  cases h
                  exact .ret (fin_gen0 none)
                · replace h := (if_neg (nt hc35)).symm.trans h
                  refine .draw [] [[], [], [], [], [], [], [], [], [], [], [], [], [], [], [], [], [], [], [], [], [], [], [], [], [], [], [], [], [], [], [], [], [], [], [], [], [], [], [], [], [], [], [], [], [], [], [], []] [[], [], [], [], [], [], [], [], [], [], [], [], [], [], [], [], [], [], [], [], [], [], [], [], [], [], [], [], [], [], [], [], [], [], [], [], [], [], [], [], [], [], [], [], [], [], [], []] [[]]
                    [(0, 0), (1, 0), (2, 0), (3, 0), (4, 0), (5, 0), (6, 0), (7, 0), (8, 0), (9, 0), (10, 0), (11, 0), (12, 0), (13, 0), (14, 0), (15, 0), (16, 0), (17, 0), (18, 0), (19, 0), (20, 0), (21, 0), (22, 0), (23, 0), (24, 0), (25, 0), (26, 0), (27, 0), (28, 0), (29, 0), (30, 0), (31, 0), (32, 0), (33, 0), (34, 0), (35, 0), (36, 0), (37, 0), (38, 0), (39, 0), (40, 0), (41, 0), (42, 0), (43, 0), (44, 0), (45, 0), (46, 0), (47, 0)] [] 0
                    [⟨[(33, .sl 5 .ro (a0.map (PV.int .u8))), (34, .int .u64 a1), (35, .int .u16 (IntKind.wrap .u16 (a1))), (36, .sl 5 .ro (y26.map (PV.int .u8))), (37, .str (mkStr y26)), (38, .sl 5 .ro (a0.map (PV.int .u8))), (39, .int .u64 a1), (40, .int .u16 (IntKind.wrap .u16 (a1))), (41, .sl 5 .ro (y27.map (PV.int .u8))), (42, .str (mkStr y27)), (43, .bool true), (44, .bool true), (45, .sl 5 .ro (a0.map (PV.int .u8))), (46, .int .u64 a1), (47, .int .u32 (IntKind.wrap .u32 (a1))), (48, .sl 5 .ro (y29.map (PV.int .u8))), (49, .str (mkStr y29)), (50, .sl 5 .ro (a0.map (PV.int .u8))), (51, .int .u64 a1), (52, .int .u32 (IntKind.wrap .u32 (a1))), (53, .sl 5 .ro (y30.map (PV.int .u8))), (54, .str (mkStr y30)), (55, .bool true), (56, .bool true), (57, .bool true), (58, .sl 5 .ro (a0.map (PV.int .u8))), (59, .int .u64 a1), (60, .sl 5 .ro (y32.map (PV.int .u8))), (61, .str (mkStr y32)), (62, .sl 5 .ro (a0.map (PV.int .u8))), (63, .int .u64 a1), (64, .sl 5 .ro (y33.map (PV.int .u8))), (65, .str (mkStr y33)), (66, .bool true), (67, .bool true), (68, .bool true), (69, .sl 5 .ro (y14.1.map (PV.int .u8))), (70, .str (mkStr y14.1)), (71, .sl 5 .ro (y15.1.map (PV.int .u8))), (72, .str (mkStr y15.1)), (73, .bool false), (74, .bool false), (75, .bool false), (76, .tup []), (77, .tup []), (78, .tup []), (79, .bool false), (6, .bool false), (0, .sl 5 .ro (a0.map (PV.int .u8))), (1, .int .u64 a1), (7, .sl 5 .ro (y14.1.map (PV.int .u8))), (8, .int .i64 y14.2), (9, .sl 5 .ro (y15.1.map (PV.int .u8))), (10, .int .i64 y15.2)], [], []⟩]
                    [(0, .sl 5 .ro (a0.map (PV.int .u8))), (1, .int .u64 a1), (7, .sl 5 .ro (y14.1.map (PV.int .u8))), (8, .int .i64 y14.2), (9, .sl 5 .ro (y15.1.map (PV.int .u8))), (10, .int .i64 y15.2)]
                    (.cons [0] [] (fun _ _ h => .move (h _)) rfl rfl <|
                    .cons [1] [] (fun _ _ h => .move (h _)) rfl rfl <|
                    .cons [34] [] (fun _ _ h => .val (h _)) rfl rfl <|
                    .cons [33, 35] [] (fun _ _ h => .cP (g24r hy26) (h _)) rfl rfl <|
                    .cons [36] [] (fun _ _ h => .toStr (h _)) rfl rfl <|
                    .cons [0] [] (fun _ _ h => .move (h _)) rfl rfl <|
                    .cons [1] [] (fun _ _ h => .move (h _)) rfl rfl <|
                    .cons [39] [] (fun _ _ h => .val (h _)) rfl rfl <|
                    .cons [38, 40] [] (fun _ _ h => .cP (g25r hy27) (h _)) rfl rfl <|
                    .cons [41] [] (fun _ _ h => .toStr (h _)) rfl rfl <|
                    .cons [37, 42] [] (fun _ _ h => .valB hc28 (h _)) rfl rfl <|
                    .cons [43] [] (fun _ _ h => .move (h _)) rfl rfl <|
                    .cons [0, 44] [] (fun _ _ h => .move (h _)) rfl rfl <|
                    .cons [1, 44] [] (fun _ _ h => .move (h _)) rfl rfl <|
                    .cons [46, 44] [] (fun _ _ h => .val (h _)) rfl rfl <|
                    .cons [45, 47, 44] [] (fun _ _ h => .cP (g26r hy29) (h _)) rfl rfl <|
                    .cons [48, 44] [] (fun _ _ h => .toStr (h _)) rfl rfl <|
                    .cons [0, 44] [] (fun _ _ h => .move (h _)) rfl rfl <|
                    .cons [1, 44] [] (fun _ _ h => .move (h _)) rfl rfl <|
                    .cons [51, 44] [] (fun _ _ h => .val (h _)) rfl rfl <|
                    .cons [50, 52, 44] [] (fun _ _ h => .cP (g27r hy30) (h _)) rfl rfl <|
                    .cons [53, 44] [] (fun _ _ h => .toStr (h _)) rfl rfl <|
                    .cons [49, 54, 44] [] (fun _ _ h => .valB hc31 (h _)) rfl rfl <|
                    .cons [44, 55] [] (fun _ _ h => .brT (h _)) rfl rfl <|
                    .cons [56] [] (fun _ _ h => .move (h _)) rfl rfl <|
                    .cons [0, 57] [] (fun _ _ h => .move (h _)) rfl rfl <|
                    .cons [1, 57] [] (fun _ _ h => .move (h _)) rfl rfl <|
                    .cons [58, 59, 57] [] (fun _ _ h => .cP (g28r hy32) (h _)) rfl rfl <|
                    .cons [60, 57] [] (fun _ _ h => .toStr (h _)) rfl rfl <|
                    .cons [0, 57] [] (fun _ _ h => .move (h _)) rfl rfl <|
                    .cons [1, 57] [] (fun _ _ h => .move (h _)) rfl rfl <|
                    .cons [62, 63, 57] [] (fun _ _ h => .cP (g29r hy33) (h _)) rfl rfl <|
                    .cons [64, 57] [] (fun _ _ h => .toStr (h _)) rfl rfl <|
                    .cons [61, 65, 57] [] (fun _ _ h => .valB hc34 (h _)) rfl rfl <|
                    .cons [57, 66] [] (fun _ _ h => .brT (h _)) rfl rfl <|
                    .cons [67] [] (fun _ _ h => .move (h _)) rfl rfl <|
                    .cons [7, 68] [] (fun _ _ h => .move (h _)) rfl rfl <|
                    .cons [69, 68] [] (fun _ _ h => .toStr (h _)) rfl rfl <|
                    .cons [9, 68] [] (fun _ _ h => .move (h _)) rfl rfl <|
                    .cons [71, 68] [] (fun _ _ h => .toStr (h _)) rfl rfl <|
                    .cons [70, 72, 68] [] (fun _ _ h => .valB hc35 (h _)) rfl rfl <|
                    .cons [68, 73] [] (fun _ _ h => .brT (h _)) rfl rfl <|
                    .cons [74] [] (fun _ _ h => .move (h _)) rfl rfl <|
                    .cons [75] [] (fun _ _ h => .skip (h _)) rfl rfl <|
                    .cons [75] [] (fun _ _ h => .skip (h _)) rfl rfl <|
                    .cons [75] [] (fun _ _ h => .skip (h _)) rfl rfl <|
                    .cons [75, 78] [] (fun _ _ h => .brF (h _)) rfl rfl <|
                    .cons [79] [] (fun _ _ h => .assign (h _)) rfl rfl <|
                    .nil)
                    (.nil)
                    (by kernel_rfl) rfl (.cons rfl (.cons rfl (.cons rfl (.cons rfl (.cons rfl (.cons rfl (.nil))))))) (.nil) (.nil) ?_
                  cases h
                  exact .ret (fin_gen0 none)
              · replace h := (if_neg (nt hc34)).symm.trans h
                refine .draw [] [[], [], [], [], [], [], [], [], [], [], [], [], [], [], [], [], [], [], [], [], [], [], [], [], [], [], [], [], [], [], [], [], [], [], [], [], [], [], [], [], [], [], [], [], [], [], [], []] [[], [], [], [], [], [], [], [], [], [], [], [], [], [], [], [], [], [], [], [], [], [], [], [], [], [], [], [], [], [], [], [], [], [], [], [], [], [], [], [], [], [], [], [], [], [], [], []] [[]]
                  [(0, 0), (1, 0), (2, 0), (3, 0), (4, 0), (5, 0), (6, 0), (7, 0), (8, 0), (9, 0), (10, 0), (11, 0), (12, 0), (13, 0), (14, 0), (15, 0), (16, 0), (17, 0), (18, 0), (19, 0), (20, 0), (21, 0), (22, 0), (23, 0), (24, 0), (25, 0), (26, 0), (27, 0), (28, 0), (29, 0), (30, 0), (31, 0), (32, 0), (33, 0), (34, 0), (35, 0), (36, 0), (37, 0), (38, 0), (39, 0), (40, 0), (41, 0), (42, 0), (43, 0), (44, 0), (45, 0), (46, 0), (47, 0)] [] 0
                  [⟨[(33, .sl 5 .ro (a0.map (PV.int .u8))), (34, .int .u64 a1), (35, .int .u16 (IntKind.wrap .u16 (a1))), (36, .sl 5 .ro (y26.map (PV.int .u8))), (37, .str (mkStr y26)), (38, .sl 5 .ro (a0.map (PV.int .u8))), (39, .int .u64 a1), (40, .int .u16 (IntKind.wrap .u16 (a1))), (41, .sl 5 .ro (y27.map (PV.int .u8))), (42, .str (mkStr y27)), (43, .bool true), (44, .bool true), (45, .sl 5 .ro (a0.map (PV.int .u8))), (46, .int .u64 a1), (47, .int .u32 (IntKind.wrap .u32 (a1))), (48, .sl 5 .ro (y29.map (PV.int .u8))), (49, .str (mkStr y29)), (50, .sl 5 .ro (a0.map (PV.int .u8))), (51, .int .u64 a1), (52, .int .u32 (IntKind.wrap .u32 (a1))), (53, .sl 5 .ro (y30.map (PV.int .u8))), (54, .str (mkStr y30)), (55, .bool true), (56, .bool true), (57, .bool true), (58, .sl 5 .ro (a0.map (PV.int .u8))), (59, .int .u64 a1), (60, .sl 5 .ro (y32.map (PV.int .u8))), (61, .str (mkStr y32)), (62, .sl 5 .ro (a0.map (PV.int .u8))), (63, .int .u64 a1), (64, .sl 5 .ro (y33.map (PV.int .u8))), (65, .str (mkStr y33)), (66, .bool false), (67, .bool false), (68, .bool false), (69, .tup []), (70, .tup []), (71, .tup []), (72, .tup []), (73, .tup []), (74, .bool false), (75, .bool false), (76, .tup []), (77, .tup []), (78, .tup []), (79, .bool false), (6, .bool false), (0, .sl 5 .ro (a0.map (PV.int .u8))), (1, .int .u64 a1), (7, .sl 5 .ro (y14.1.map (PV.int .u8))), (8, .int .i64 y14.2), (9, .sl 5 .ro (y15.1.map (PV.int .u8))), (10, .int .i64 y15.2)], [], []⟩]
                  [(0, .sl 5 .ro (a0.map (PV.int .u8))), (1, .int .u64 a1), (7, .sl 5 .ro (y14.1.map (PV.int .u8))), (8, .int .i64 y14.2), (9, .sl 5 .ro (y15.1.map (PV.int .u8))), (10, .int .i64 y15.2)]
                  (.cons [0] [] (fun _ _ h => .move (h _)) rfl rfl <|
                  .cons [1] [] (fun _ _ h => .move (h _)) rfl rfl <|
                  .cons [34] [] (fun _ _ h => .val (h _)) rfl rfl <|
                  .cons [33, 35] [] (fun _ _ h => .cP (g24r hy26) (h _)) rfl rfl <|
                  .cons [36] [] (fun _ _ h => .toStr (h _)) rfl rfl <|
                  .cons [0] [] (fun _ _ h => .move (h _)) rfl rfl <|
                  .cons [1] [] (fun _ _ h => .move (h _)) rfl rfl <|
                  .cons [39] [] (fun _ _ h => .val (h _)) rfl rfl <|
                  .cons [38, 40] [] (fun _ _ h => .cP (g25r hy27) (h _)) rfl rfl <|
                  .cons [41] [] (fun _ _ h => .toStr (h _)) rfl rfl <|
                  .cons [37, 42] [] (fun _ _ h => .valB hc28 (h _)) rfl rfl <|
                  .cons [43] [] (fun _ _ h => .move (h _)) rfl rfl <|
                  .cons [0, 44] [] (fun _ _ h => .move (h _)) rfl rfl <|
                  .cons [1, 44] [] (fun _ _ h => .move (h _)) rfl rfl <|
                  .cons [46, 44] [] (fun _ _ h => .val (h _)) rfl rfl <|
                  .cons [45, 47, 44] [] (fun _ _ h => .cP (g26r hy29) (h _)) rfl rfl <|
                  .cons [48, 44] [] (fun _ _ h => .toStr (h _)) rfl rfl <|
                  .cons [0, 44] [] (fun _ _ h => .move (h _)) rfl rfl <|
                  .cons [1, 44] [] (fun _ _ h => .move (h _)) rfl rfl <|
                  .cons [51, 44] [] (fun _ _ h => .val (h _)) rfl rfl <|
                  .cons [50, 52, 44] [] (fun _ _ h => .cP (g27r hy30) (h _)) rfl rfl <|
                  .cons [53, 44] [] (fun _ _ h => .toStr (h _)) rfl rfl <|
                  .cons [49, 54, 44] [] (fun _ _ h => .valB hc31 (h _)) rfl rfl <|
                  .cons [44, 55] [] (fun _ _ h => .brT (h _)) rfl rfl <|
                  .cons [56] [] (fun _ _ h => .move (h _)) rfl rfl <|
                  .cons [0, 57] [] (fun _ _ h => .move (h _)) rfl rfl <|
                  .cons [1, 57] [] (fun _ _ h => .move (h _)) rfl rfl <|
                  .cons [58, 59, 57] [] (fun _ _ h => .cP (g28r hy32) (h _)) rfl rfl <|
                  .cons [60, 57] [] (fun _ _ h => .toStr (h _)) rfl rfl <|
                  .cons [0, 57] [] (fun _ _ h => .move (h _)) rfl rfl <|
                  .cons [1, 57] [] (fun _ _ h => .move (h _)) rfl rfl <|
                  .cons [62, 63, 57] [] (fun _ _ h => .cP (g29r hy33) (h _)) rfl rfl <|
                  .cons [64, 57] [] (fun _ _ h => .toStr (h _)) rfl rfl <|
                  .cons [61, 65, 57] [] (fun _ _ h => .valB hc34 (h _)) rfl rfl <|
                  .cons [57, 66] [] (fun _ _ h => .brT (h _)) rfl rfl <|
                  .cons [67] [] (fun _ _ h => .move (h _)) rfl rfl <|
                  .cons [68] [] (fun _ _ h => .skip (h _)) rfl rfl <|
                  .cons [68] [] (fun _ _ h => .skip (h _)) rfl rfl <|
                  .cons [68] [] (fun _ _ h => .skip (h _)) rfl rfl <|
                  .cons [68] [] (fun _ _ h => .skip (h _)) rfl rfl <|
                  .cons [68] [] (fun _ _ h => .skip (h _)) rfl rfl <|
                  .cons [68, 73] [] (fun _ _ h => .brF (h _)) rfl rfl <|
                  .cons [74] [] (fun _ _ h => .move (h _)) rfl rfl <|
                  .cons [75] [] (fun _ _ h => .skip (h _)) rfl rfl <|
                  .cons [75] [] (fun _ _ h => .skip (h _)) rfl rfl <|
                  .cons [75] [] (fun _ _ h => .skip (h _)) rfl rfl <|
                  .cons [75, 78] [] (fun _ _ h => .brF (h _)) rfl rfl <|
                  .cons [79] [] (fun _ _ h => .assign (h _)) rfl rfl <|
                  .nil)
                  (.nil)
                  (by kernel_rfl) rfl (.cons rfl (.cons rfl (.cons rfl (.cons rfl (.cons rfl (.cons rfl (.nil))))))) (.nil) (.nil) ?_
                cases h
                exact .ret (fin_gen0 none)
            · replace h := (if_neg (nt hc31)).symm.trans h
              refine .draw [] [[], [], [], [], [], [], [], [], [], [], [], [], [], [], [], [], [], [], [], [], [], [], [], [], [], [], [], [], [], [], [], [], [], [], [], [], [], [], [], [], [], [], [], [], [], [], [], []] [[], [], [], [], [], [], [], [], [], [], [], [], [], [], [], [], [], [], [], [], [], [], [], [], [], [], [], [], [], [], [], [], [], [], [], [], [], [], [], [], [], [], [], [], [], [], [], []] [[]]
                [(0, 0), (1, 0), (2, 0), (3, 0), (4, 0), (5, 0), (6, 0), (7, 0), (8, 0), (9, 0), (10, 0), (11, 0), (12, 0), (13, 0), (14, 0), (15, 0), (16, 0), (17, 0), (18, 0), (19, 0), (20, 0), (21, 0), (22, 0), (23, 0), (24, 0), (25, 0), (26, 0), (27, 0), (28, 0), (29, 0), (30, 0), (31, 0), (32, 0), (33, 0), (34, 0), (35, 0), (36, 0), (37, 0), (38, 0), (39, 0), (40, 0), (41, 0), (42, 0), (43, 0), (44, 0), (45, 0), (46, 0), (47, 0)] [] 0
                [⟨[(33, .sl 5 .ro (a0.map (PV.int .u8))), (34, .int .u64 a1), (35, .int .u16 (IntKind.wrap .u16 (a1))), (36, .sl 5 .ro (y26.map (PV.int .u8))), (37, .str (mkStr y26)), (38, .sl 5 .ro (a0.map (PV.int .u8))), (39, .int .u64 a1), (40, .int .u16 (IntKind.wrap .u16 (a1))), (41, .sl 5 .ro (y27.map (PV.int .u8))), (42, .str (mkStr y27)), (43, .bool true), (44, .bool true), (45, .sl 5 .ro (a0.map (PV.int .u8))), (46, .int .u64 a1), (47, .int .u32 (IntKind.wrap .u32 (a1))), (48, .sl 5 .ro (y29.map (PV.int .u8))), (49, .str (mkStr y29)), (50, .sl 5 .ro (a0.map (PV.int .u8))), (51, .int .u64 a1), (52, .int .u32 (IntKind.wrap .u32 (a1))), (53, .sl 5 .ro (y30.map (PV.int .u8))), (54, .str (mkStr y30)), (55, .bool false), (56, .bool false), (57, .bool false), (58, .tup []), (59, .tup []), (60, .tup []), (61, .tup []), (62, .tup []), (63, .tup []), (64, .tup []), (65, .tup []), (66, .tup []), (67, .bool false), (68, .bool false), (69, .tup []), (70, .tup []), (71, .tup []), (72, .tup []), (73, .tup []), (74, .bool false), (75, .bool false), (76, .tup []), (77, .tup []), (78, .tup []), (79, .bool false), (6, .bool false), (0, .sl 5 .ro (a0.map (PV.int .u8))), (1, .int .u64 a1), (7, .sl 5 .ro (y14.1.map (PV.int .u8))), (8, .int .i64 y14.2), (9, .sl 5 .ro (y15.1.map (PV.int .u8))), (10, .int .i64 y15.2)], [], []⟩]
                [(0, .sl 5 .ro (a0.map (PV.int .u8))), (1, .int .u64 a1), (7, .sl 5 .ro (y14.1.map (PV.int .u8))), (8, .int .i64 y14.2), (9, .sl 5 .ro (y15.1.map (PV.int .u8))), (10, .int .i64 y15.2)]
                (.cons [0] [] (fun _ _ h => .move (h _)) rfl rfl <|
                .cons [1] [] (fun _ _ h => .move (h _)) rfl rfl <|
                .cons [34] [] (fun _ _ h => .val (h _)) rfl rfl <|
                .cons [33, 35] [] (fun _ _ h => .cP (g24r hy26) (h _)) rfl rfl <|
                .cons [36] [] (fun _ _ h => .toStr (h _)) rfl rfl <|
                .cons [0] [] (fun _ _ h => .move (h _)) rfl rfl <|
                .cons [1] [] (fun _ _ h => .move (h _)) rfl rfl <|
                .cons [39] [] (fun _ _ h => .val (h _)) rfl rfl <|
                .cons [38, 40] [] (fun _ _ h => .cP (g25r hy27) (h _)) rfl rfl <|
                .cons [41] [] (fun _ _ h => .toStr (h _)) rfl rfl <|
                .cons [37, 42] [] (fun _ _ h => .valB hc28 (h _)) rfl rfl <|
                .cons [43] [] (fun _ _ h => .move (h _)) rfl rfl <|
                .cons [0, 44] [] (fun _ _ h => .move (h _)) rfl rfl <|
                .cons [1, 44] [] (fun _ _ h => .move (h _)) rfl rfl <|
                .cons [46, 44] [] (fun _ _ h => .val (h _)) rfl rfl <|
                .cons [45, 47, 44] [] (fun _ _ h => .cP (g26r hy29) (h _)) rfl rfl <|
                .cons [48, 44] [] (fun _ _ h => .toStr (h _)) rfl rfl <|
                .cons [0, 44] [] (fun _ _ h => .move (h _)) rfl rfl <|
                .cons [1, 44] [] (fun _ _ h => .move (h _)) rfl rfl <|
                .cons [51, 44] [] (fun _ _ h => .val (h _)) rfl rfl <|
                .cons [50, 52, 44] [] (fun _ _ h => .cP (g27r hy30) (h _)) rfl rfl <|
                .cons [53, 44] [] (fun _ _ h => .toStr (h _)) rfl rfl <|
                .cons [49, 54, 44] [] (fun _ _ h => .valB hc31 (h _)) rfl rfl <|
                .cons [44, 55] [] (fun _ _ h => .brT (h _)) rfl rfl <|
                .cons [56] [] (fun _ _ h => .move (h _)) rfl rfl <|
                .cons [57] [] (fun _ _ h => .skip (h _)) rfl rfl <|
                .cons [57] [] (fun _ _ h => .skip (h _)) rfl rfl <|
                .cons [57] [] (fun _ _ h => .skip (h _)) rfl rfl <|
                .cons [57] [] (fun _ _ h => .skip (h _)) rfl rfl <|
                .cons [57] [] (fun _ _ h => .skip (h _)) rfl rfl <|
                .cons [57] [] (fun _ _ h => .skip (h _)) rfl rfl <|
                .cons [57] [] (fun _ _ h => .skip (h _)) rfl rfl <|
                .cons [57] [] (fun _ _ h => .skip (h _)) rfl rfl <|
                .cons [57] [] (fun _ _ h => .skip (h _)) rfl rfl <|
                .cons [57, 66] [] (fun _ _ h => .brF (h _)) rfl rfl <|
                .cons [67] [] (fun _ _ h => .move (h _)) rfl rfl <|
                .cons [68] [] (fun _ _ h => .skip (h _)) rfl rfl <|
                .cons [68] [] (fun _ _ h => .skip (h _)) rfl rfl <|
                .cons [68] [] (fun _ _ h => .skip (h _)) rfl rfl <|
                .cons [68] [] (fun _ _ h => .skip (h _)) rfl rfl <|
                .cons [68] [] (fun _ _ h => .skip (h _)) rfl rfl <|
                .cons [68, 73] [] (fun _ _ h => .brF (h _)) rfl rfl <|
                .cons [74] [] (fun _ _ h => .move (h _)) rfl rfl <|
                .cons [75] [] (fun _ _ h => .skip (h _)) rfl rfl <|
                .cons [75] [] (fun _ _ h => .skip (h _)) rfl rfl <|
                .cons [75] [] (fun _ _ h => .skip (h _)) rfl rfl <|
                .cons [75, 78] [] (fun _ _ h => .brF (h _)) rfl rfl <|
                .cons [79] [] (fun _ _ h => .assign (h _)) rfl rfl <|
                .nil)
                (.nil)
                (by kernel_rfl) rfl (.cons rfl (.cons rfl (.cons rfl (.cons rfl (.cons rfl (.cons rfl (.nil))))))) (.nil) (.nil) ?_
              cases h
              exact .ret (fin_gen0 none)
          · replace h := (if_neg (nt hc28)).symm.trans h
            refine .draw [] [[], [], [], [], [], [], [], [], [], [], [], [], [], [], [], [], [], [], [], [], [], [], [], [], [], [], [], [], [], [], [], [], [], [], [], [], [], [], [], [], [], [], [], [], [], [], [], []] [[], [], [], [], [], [], [], [], [], [], [], [], [], [], [], [], [], [], [], [], [], [], [], [], [], [], [], [], [], [], [], [], [], [], [], [], [], [], [], [], [], [], [], [], [], [], [], []] [[]]
              [(0, 0), (1, 0), (2, 0), (3, 0), (4, 0), (5, 0), (6, 0), (7, 0), (8, 0), (9, 0), (10, 0), (11, 0), (12, 0), (13, 0), (14, 0), (15, 0), (16, 0), (17, 0), (18, 0), (19, 0), (20, 0), (21, 0), (22, 0), (23, 0), (24, 0), (25, 0), (26, 0), (27, 0), (28, 0), (29, 0), (30, 0), (31, 0), (32, 0), (33, 0), (34, 0), (35, 0), (36, 0), (37, 0), (38, 0), (39, 0), (40, 0), (41, 0), (42, 0), (43, 0), (44, 0), (45, 0), (46, 0), (47, 0)] [] 0
              [⟨[(33, .sl 5 .ro (a0.map (PV.int .u8))), (34, .int .u64 a1), (35, .int .u16 (IntKind.wrap .u16 (a1))), (36, .sl 5 .ro (y26.map (PV.int .u8))), (37, .str (mkStr y26)), (38, .sl 5 .ro (a0.map (PV.int .u8))), (39, .int .u64 a1), (40, .int .u16 (IntKind.wrap .u16 (a1))), (41, .sl 5 .ro (y27.map (PV.int .u8))), (42, .str (mkStr y27)), (43, .bool false), (44, .bool false), (45, .tup []), (46, .tup []), (47, .tup []), (48, .tup []), (49, .tup []), (50, .tup []), (51, .tup []), (52, .tup []), (53, .tup []), (54, .tup []), (55, .tup []), (56, .bool false), (57, .bool false), (58, .tup []), (59, .tup []), (60, .tup []), (61, .tup []), (62, .tup []), (63, .tup []), (64, .tup []), (65, .tup []), (66, .tup []), (67, .bool false), (68, .bool false), (69, .tup []), (70, .tup []), (71, .tup []), (72, .tup []), (73, .tup []), (74, .bool false), (75, .bool false), (76, .tup []), (77, .tup []), (78, .tup []), (79, .bool false), (6, .bool false), (0, .sl 5 .ro (a0.map (PV.int .u8))), (1, .int .u64 a1), (7, .sl 5 .ro (y14.1.map (PV.int .u8))), (8, .int .i64 y14.2), (9, .sl 5 .ro (y15.1.map (PV.int .u8))), (10, .int .i64 y15.2)], [], []⟩]
              [(0, .sl 5 .ro (a0.map (PV.int .u8))), (1, .int .u64 a1), (7, .sl 5 .ro (y14.1.map (PV.int .u8))), (8, .int .i64 y14.2), (9, .sl 5 .ro (y15.1.map (PV.int .u8))), (10, .int .i64 y15.2)]
              (.cons [0] [] (fun _ _ h => .move (h _)) rfl rfl <|
              .cons [1] [] (fun _ _ h => .move (h _)) rfl rfl <|
              .cons [34] [] (fun _ _ h => .val (h _)) rfl rfl <|
              .cons [33, 35] [] (fun _ _ h => .cP (g24r hy26) (h _)) rfl rfl <|
              .cons [36] [] (fun _ _ h => .toStr (h _)) rfl rfl <|
              .cons [0] [] (fun _ _ h => .move (h _)) rfl rfl <|
              .cons [1] [] (fun _ _ h => .move (h _)) rfl rfl <|
              .cons [39] [] (fun _ _ h => .val (h _)) rfl rfl <|
              .cons [38, 40] [] (fun _ _ h => .cP (g25r hy27) (h _)) rfl rfl <|
              .cons [41] [] (fun _ _ h => .toStr (h _)) rfl rfl <|
              .cons [37, 42] [] (fun _ _ h => .valB hc28 (h _)) rfl rfl <|
              .cons [43] [] (fun _ _ h => .move (h _)) rfl rfl <|
              .cons [44] [] (fun _ _ h => .skip (h _)) rfl rfl <|
              .cons [44] [] (fun _ _ h => .skip (h _)) rfl rfl <|
              .cons [44] [] (fun _ _ h => .skip (h _)) rfl rfl <|
              .cons [44] [] (fun _ _ h => .skip (h _)) rfl rfl <|
              .cons [44] [] (fun _ _ h => .skip (h _)) rfl rfl <|
              .cons [44] [] (fun _ _ h => .skip (h _)) rfl rfl <|
              .cons [44] [] (fun _ _ h => .skip (h _)) rfl rfl <|
              .cons [44] [] (fun _ _ h => .skip (h _)) rfl rfl <|
              .cons [44] [] (fun _ _ h => .skip (h _)) rfl rfl <|
              .cons [44] [] (fun _ _ h => .skip (h _)) rfl rfl <|
              .cons [44] [] (fun _ _ h => .skip (h _)) rfl rfl <|
              .cons [44, 55] [] (fun _ _ h => .brF (h _)) rfl rfl <|
              .cons [56] [] (fun _ _ h => .move (h _)) rfl rfl <|
              .cons [57] [] (fun _ _ h => .skip (h _)) rfl rfl <|
              .cons [57] [] (fun _ _ h => .skip (h _)) rfl rfl <|
              .cons [57] [] (fun _ _ h => .skip (h _)) rfl rfl <|
              .cons [57] [] (fun _ _ h => .skip (h _)) rfl rfl <|
              .cons [57] [] (fun _ _ h => .skip (h _)) rfl rfl <|
              .cons [57] [] (fun _ _ h => .skip (h _)) rfl rfl <|
              .cons [57] [] (fun _ _ h => .skip (h _)) rfl rfl <|
              .cons [57] [] (fun _ _ h => .skip (h _)) rfl rfl <|
              .cons [57] [] (fun _ _ h => .skip (h _)) rfl rfl <|
              .cons [57, 66] [] (fun _ _ h => .brF (h _)) rfl rfl <|
              .cons [67] [] (fun _ _ h => .move (h _)) rfl rfl <|
              .cons [68] [] (fun _ _ h => .skip (h _)) rfl rfl <|
              .cons [68] [] (fun _ _ h => .skip (h _)) rfl rfl <|
              .cons [68] [] (fun _ _ h => .skip (h _)) rfl rfl <|
              .cons [68] [] (fun _ _ h => .skip (h _)) rfl rfl <|
              .cons [68] [] (fun _ _ h => .skip (h _)) rfl rfl <|
              .cons [68, 73] [] (fun _ _ h => .brF (h _)) rfl rfl <|
              .cons [74] [] (fun _ _ h => .move (h _)) rfl rfl <|
              .cons [75] [] (fun _ _ h => .skip (h _)) rfl rfl <|
              .cons [75] [] (fun _ _ h => .skip (h _)) rfl rfl <|
              .cons [75] [] (fun _ _ h => .skip (h _)) rfl rfl <|
              .cons [75, 78] [] (fun _ _ h => .brF (h _)) rfl rfl <|
              .cons [79] [] (fun _ _ h => .assign (h _)) rfl rfl <|
              .nil)
              (.nil)
              (by kernel_rfl) rfl (.cons rfl (.cons rfl (.cons rfl (.cons rfl (.cons rfl (.cons rfl (.nil))))))) (.nil) (.nil) ?_
            cases h
            exact .ret (fin_gen0 none)

/- soundservice/soundservicelaw01.WireOffsets -/
def f6 (n : Nat) (a0 : (List Int)) (a1 : (List Int)) : Option Bool :=
  (f17 n ).bind fun y3 =>
  if !y3 then (
  some false)
  else (
  joinK (fun (_ : Unit) =>
  some true) fun j10 =>
  joinK (fun (_ : Unit) =>
  if decide ((a1.length : Int) > (200 : Int)) then (
  some true)
  else (
  (lApp ([] : List Int) a0).bind fun x14 =>
  (lApp x14 a1).bind fun x15 =>
  (f30 n x15 (a0.length : Int)).bind fun y16 =>
  (f30 n a1 (0 : Int)).bind fun y17 =>
  (f31 n x15 (a0.length : Int)).bind fun y18 =>
  (f31 n a1 (0 : Int)).bind fun y19 =>
  if (y16.1 == y17.1) then (
  if (y16.2.2 == y17.2.2) then (
  if sEq y18.1 y19.1 then (
  if (y18.2.2 == y19.2.2) then (
  if (y16.2.2 != (0 : Int)) then (
  if (y18.2.2 != (0 : Int)) then (
  some true)
  else (
  some (y18.2.1 == (w64 (y19.2.1 + (a0.length : Int))))))
  else (
  if (y16.2.1 == (w64 (y17.2.1 + (a0.length : Int)))) then (
  if (y18.2.2 != (0 : Int)) then (
  some true)
  else (
  some (y18.2.1 == (w64 (y19.2.1 + (a0.length : Int))))))
  else (
  some false)))
  else (
  some false))
  else (
  some false))
  else (
  some false))
  else (
  some false))) fun j11 =>
  if decide ((a0.length : Int) > (100 : Int)) then (
  j10 ())
  else (
  j11 ()))
set_option maxHeartbeats 4000000 in
set_option maxRecDepth 100000 in
theorem g6 {n : Nat} {a0 : (List Int)} {a1 : (List Int)} {r : Bool} (h : f6 n a0 a1 = some r) :
    Ab.Can Try.prog 6 [.sl 5 .ro (a0.map (PV.int .u8)), .sl 5 .ro (a1.map (PV.int .u8))] H0 (.bool r) H0 := by
  refine can_of tabOK mix Try.call6 Try.func6 rfl (by kernel_rfl) (by show _ ≤ 102; simp) fun _ => ?_
  rw [f6] at h
  refine .seq ?_
  refine .region ?_
  refine .assign ?_
  refine .nil ?_
  refine .seq ?_
  refine .seq ?_
  refine .region ?_
  obtain ⟨y3, hy3, h⟩ := bindE h
  refine .cP (g17 hy3) ?_
  refine .val ?_
  refine .nil ?_
  refine .cond (fun hc4 => ?_) (fun hc4 => ?_)
  · replace h := (if_pos hc4).symm.trans h
    refine .seq ?_
    refine .region ?_
    refine .assign ?_
    refine .nil ?_
    cases h
    exact .ret (fin_gen0 none)
  · replace h := (if_neg (nt hc4)).symm.trans h
    refine .skip ?_
    refine .seq ?_
    obtain ⟨j10, hj10, h⟩ := joinE h
    obtain ⟨j11, hj11, h⟩ := joinE h
    refine .cutI (fun T => (T = St.of [(0, .sl 5 .ro (a0.map (PV.int .u8))), (1, .sl 5 .ro (a1.map (PV.int .u8))), (27, .bool true)] [] ∧ j10 () = some r) ∨ (T = St.of [(0, .sl 5 .ro (a0.map (PV.int .u8))), (1, .sl 5 .ro (a1.map (PV.int .u8))), (27, .bool (decide ((a1.length : Int) > (200 : Int))))] [] ∧ j11 () = some r)) ?_ ?_
    · refine .region ?_
      refine .move ?_
      refine .lenL (f := (PV.int .u8)) ?_
      refine .val ?_
      refine .move ?_
      refine .caseG (fun hc12 => ?_) (fun hc12 => ?_)
      · replace h := (if_pos hc12).symm.trans h
        refine .skip ?_
        refine .skip ?_
        refine .skip ?_
        refine .brT ?_
        refine .nil ?_
        exact ⟨_, (.inl ⟨rfl, h⟩), (imp_of (.cons rfl (.cons rfl (.cons rfl (.nil)))) (.nil))⟩
      · replace h := (if_neg (nt hc12)).symm.trans h
        refine .move ?_
        refine .lenL (f := (PV.int .u8)) ?_
        refine .val ?_
        refine .brF ?_
        refine .nil ?_
        exact ⟨_, (.inr (⟨rfl, h⟩)), (imp_of (.cons rfl (.cons rfl (.cons rfl (.nil)))) (.nil))⟩
    · rintro T (⟨rfl, h⟩ | ⟨rfl, h⟩)
      · subst hj10
        refine .condT ?_
        refine .seq ?_
        refine .region ?_
        refine .assign ?_
        refine .nil ?_
        cases h
        exact .ret (fin_gen0 none)
      · subst hj11
        refine .cond (fun hc13 => ?_) (fun hc13 => ?_)
        · replace h := (if_pos hc13).symm.trans h
          refine .seq ?_
          refine .region ?_
          refine .assign ?_
          refine .nil ?_
          cases h
          exact .ret (fin_gen0 none)
        · replace h := (if_neg (nt hc13)).symm.trans h
          refine .skip ?_
          refine .seq ?_
          refine .region ?_
          refine .move ?_
          obtain ⟨x14, hx14, h⟩ := bindE h
          refine .appN (f := (PV.int .u8)) hx14 ?_
          refine .move ?_
          obtain ⟨x15, hx15, h⟩ := bindE h
          refine .appL (f := (PV.int .u8)) hx15 ?_
          refine .assign ?_
          refine .nil ?_
          refine .seq ?_
          refine .region ?_
          refine .move ?_
          refine .move ?_
          refine .lenL (f := (PV.int .u8)) ?_
          obtain ⟨y16, hy16, h⟩ := bindE h
          refine .freeze (.row 5 3) ?_
          refine .cP (g30 hy16) ?_
          refine .move ?_
          refine .val ?_
          refine .val ?_
          refine .val ?_
          refine .assign ?_
          refine .assign ?_
          refine .assign ?_
          refine .nil ?_
          refine .imp (T := St.of [(0, .sl 5 .ro (a0.map (PV.int .u8))), (1, .sl 5 .ro (a1.map (PV.int .u8))), (5, .sl 5 .ro (x15.map (PV.int .u8))), (6, .int .u32 y16.1), (7, .int .i64 y16.2.1), (8, .int .i64 y16.2.2)] []) (imp_of (.cons rfl (.cons rfl (.cons rfl (.cons rfl (.cons rfl (.cons rfl (.nil))))))) (.nil)) ?_
          refine .seq ?_
          refine .region ?_
          refine .move ?_
          obtain ⟨y17, hy17, h⟩ := bindE h
          refine .cP (g30 hy17) ?_
          refine .move ?_
          refine .val ?_
          refine .val ?_
          refine .val ?_
          refine .assign ?_
          refine .assign ?_
          refine .assign ?_
          refine .nil ?_
          refine .seq ?_
          refine .region ?_
          refine .move ?_
          refine .move ?_
          refine .lenL (f := (PV.int .u8)) ?_
          obtain ⟨y18, hy18, h⟩ := bindE h
          refine .cP (g31 hy18) ?_
          refine .move ?_
          refine .val ?_
          refine .val ?_
          refine .val ?_
          refine .assign ?_
          refine .assign ?_
          refine .assign ?_
          refine .nil ?_
          refine .seq ?_
          refine .region ?_
          refine .move ?_
          obtain ⟨y19, hy19, h⟩ := bindE h
          refine .cP (g31 hy19) ?_
          refine .move ?_
          refine .val ?_
          refine .val ?_
          refine .val ?_
          refine .assign ?_
          refine .assign ?_
          refine .assign ?_
          refine .nil ?_
          refine .seq ?_
          refine .region ?_
          refine .move ?_
          refine .move ?_
          refine .val ?_
          refine .move ?_
          refine .caseG (fun hc28 => ?_) (fun hc28 => ?_)
          · replace h := (if_pos hc28).symm.trans h
            refine .move ?_
            refine .move ?_
            refine .val ?_
            refine .brT ?_
            refine .move ?_
            refine .caseG (fun hc29 => ?_) (fun hc29 => ?_)
            · replace h := (if_pos hc29).symm.trans h
              refine .move ?_
              refine .move ?_
              refine .val ?_
              refine .brT ?_
              refine .move ?_
              refine .caseG (fun hc30 => ?_) (fun hc30 => ?_)
              · replace h := (if_pos hc30).symm.trans h
                refine .move ?_
                refine .move ?_
                refine .val ?_
                refine .brT ?_
                refine .move ?_
                refine .caseG (fun hc31 => ?_) (fun hc31 => ?_)
                · replace h := (if_pos hc31).symm.trans h
                  refine .move ?_
                  refine .val ?_
                  refine .move ?_
                  refine .caseG (fun hc32 => ?_) (fun hc32 => ?_)
                  · replace h := (if_pos hc32).symm.trans h
                    refine .skip ?_
                    refine .skip ?_
                    refine .skip ?_
                    refine .skip ?_
                    refine .skip ?_
                    refine .skip ?_
                    refine .brT ?_
                    refine .brT ?_
                    refine .move ?_
                    refine .move ?_
                    refine .val ?_
                    refine .move ?_
                    refine .caseG (fun hc33 => ?_) (fun hc33 => ?_)
                    · replace h := (if_pos hc33).symm.trans h
                      refine .skip ?_
                      refine .skip ?_
                      refine .skip ?_
                      refine .skip ?_
                      refine .skip ?_
                      refine .skip ?_
                      refine .brT ?_
                      refine .brT ?_
                      refine .assign ?_
                      refine .nil ?_
                      cases h
                      exact .ret (fin_gen0 none)
                    · replace h := (if_neg (nt hc33)).symm.trans h
                      refine .move ?_
                      refine .move ?_
                      refine .move ?_
                      refine .lenL (f := (PV.int .u8)) ?_
                      refine .val ?_
                      refine .val ?_
                      refine .brF ?_
                      refine .brT ?_
                      refine .assign ?_
                      refine .nil ?_
                      cases h
                      exact .ret (fin_gen0 none)
                  · replace h := (if_neg (nt hc32)).symm.trans h
                    refine .move ?_
                    refine .move ?_
                    refine .move ?_
                    refine .lenL (f := (PV.int .u8)) ?_
                    refine .val ?_
                    refine .val ?_
                    refine .brF ?_
                    refine .brT ?_
                    refine .move ?_
                    refine .caseG (fun hc34 => ?_) (fun hc34 => ?_)
                    · replace h := (if_pos hc34).symm.trans h
                      refine .move ?_
                      refine .val ?_
                      refine .move ?_
                      refine .caseG (fun hc35 => ?_) (fun hc35 => ?_)
                      · replace h := (if_pos hc35).symm.trans h
                        refine .skip ?_
                        refine .skip ?_
                        refine .skip ?_
                        refine .skip ?_
                        refine .skip ?_
                        refine .skip ?_
                        refine .brT ?_
                        refine .brT ?_
                        refine .assign ?_
                        refine .nil ?_
                        cases h
                        exact .ret (fin_gen0 none)
                      · replace h := (if_neg (nt hc35)).symm.trans h
                        refine .move ?_
                        refine .move ?_
                        refine .move ?_
                        refine .lenL (f := (PV.int .u8)) ?_
                        refine .val ?_
                        refine .val ?_
                        refine .brF ?_
                        refine .brT ?_
                        refine .assign ?_
                        refine .nil ?_
                        cases h
                        exact .ret (fin_gen0 none)
                    · replace h := (if_neg (nt hc34)).symm.trans h
                      refine .skip ?_
                      refine .skip ?_
                      refine .skip ?_
                      refine .skip ?_
                      refine .skip ?_
                      refine .skip ?_
                      refine .skip ?_
                      refine .skip ?_
                      refine .skip ?_
                      refine .skip ?_
                      refine .brF ?_
                      refine .assign ?_
                      refine .nil ?_
                      cases h
                      exact .ret (fin_gen0 none)
                · replace h := (if_neg (nt hc31)).symm.trans h
                  refine .skip ?_
                  refine .skip ?_
                  refine .skip ?_
                  refine .skip ?_
                  refine .skip ?_
                  refine .skip ?_
                  refine .skip ?_
                  refine .skip ?_
                  refine .skip ?_
                  refine .skip ?_
                  refine .brF ?_
                  refine .move ?_
                  refine .skip ?_
                  refine .skip ?_
                  refine .skip ?_
                  refine .skip ?_
                  refine .skip ?_
                  refine .skip ?_
                  refine .skip ?_
                  refine .skip ?_
                  refine .skip ?_
                  refine .skip ?_
                  refine .brF ?_
                  refine .assign ?_
                  refine .nil ?_
                  cases h
                  exact .ret (fin_gen0 none)
              · replace h := (if_neg (nt hc30)).symm.trans h
                refine .skip ?_
                refine .skip ?_
                refine .skip ?_
                refine .brF ?_
                refine .move ?_
                refine .skip ?_
                refine .skip ?_
                refine .skip ?_
                refine .skip ?_
                refine .skip ?_
                refine .skip ?_
                refine .skip ?_
                refine .skip ?_
                refine .skip ?_
                refine .skip ?_
                refine .brF ?_
                refine .move ?_
                refine .skip ?_
                refine .skip ?_
                refine .skip ?_
                refine .skip ?_
                refine .skip ?_
                refine .skip ?_
                refine .skip ?_
                refine .skip ?_
                refine .skip ?_
                refine .skip ?_
                refine .brF ?_
                refine .assign ?_
                refine .nil ?_
                cases h
                exact .ret (fin_gen0 none)
            · replace h := (if_neg (nt hc29)).symm.trans h
              refine .skip ?_
              refine .skip ?_
              refine .skip ?_
              refine .brF ?_
              refine .move ?_
              refine .skip ?_
              refine .skip ?_
              refine .skip ?_
              refine .brF ?_
              refine .move ?_
              refine .skip ?_
              refine .skip ?_
              refine .skip ?_
              refine .skip ?_
              refine .skip ?_
              refine .skip ?_
              refine .skip ?_
              refine .skip ?_
              refine .skip ?_
              refine .skip ?_
              refine .brF ?_
              refine .move ?_
              refine .skip ?_
              refine .skip ?_
              refine .skip ?_
              refine .skip ?_
              refine .skip ?_
              refine .skip ?_
              refine .skip ?_
              refine .skip ?_
              refine .skip ?_
              refine .skip ?_
              refine .brF ?_
              refine .assign ?_
              refine .nil ?_
              cases h
              exact .ret (fin_gen0 none)
          · replace h := (if_neg (nt hc28)).symm.trans h
            refine .skip ?_
            refine .skip ?_
            refine .skip ?_
            refine .brF ?_
            refine .move ?_
            refine .skip ?_
            refine .skip ?_
            refine .skip ?_
            refine .brF ?_
            refine .move ?_
            refine .skip ?_
            refine .skip ?_
            refine .skip ?_
            refine .brF ?_
            refine .move ?_
            refine .skip ?_
            refine .skip ?_
            refine .skip ?_
            refine .skip ?_
            refine .skip ?_
            refine .skip ?_
            refine .skip ?_
            refine .skip ?_
            refine .skip ?_
            refine .skip ?_
            refine .brF ?_
            refine .move ?_
            refine .skip ?_
            refine .skip ?_
            refine .skip ?_
            refine .skip ?_
            refine .skip ?_
            refine .skip ?_
            refine .skip ?_
            refine .skip ?_
            refine .skip ?_
            refine .skip ?_
            refine .brF ?_
            refine .assign ?_
            refine .nil ?_
            cases h
            exact .ret (fin_gen0 none)

/- soundservice/soundservicelaw01.WireGets -/
def f7 (n : Nat) (a0 : (List Int)) (a1 : Int) : Option Bool :=
  (f17 n ).bind fun y3 =>
  if !y3 then (
  some false)
  else (
  if decide ((a0.length : Int) > (500 : Int)) then (
  some true)
  else (
  (f32 n a0 a1).bind fun y7 =>
  (f33 n a0 a1).bind fun y8 =>
  (f30 n a0 a1).bind fun y9 =>
  (f34 n a0 a1).bind fun y10 =>
  joinK (fun (_ : Unit) =>
  some false) fun j24 =>
  joinK (fun (_ : Unit) =>
  if (y9.2.2 != y10.2.2) then (
  some false)
  else (
  (f35 n a0 a1).bind fun y32 =>
  (f36 n a0 a1).bind fun y33 =>
  (f31 n a0 a1).bind fun y34 =>
  (f37 n a0 a1).bind fun y35 =>
  if (y32.1 == y33.1) then (
  if (y32.2.1 == y33.2.1) then (
  if (y32.2.2 == y33.2.2) then (
  if sEq y34.1 y35.1 then (
  if (y34.2.1 == y35.2.1) then (
  some (y34.2.2 == y35.2.2))
  else (
  some false))
  else (
  some false))
  else (
  some false))
  else (
  some false))
  else (
  some false))) fun j25 =>
  if (y7.1 != y8.1) then (
  j24 ())
  else (
  if (y7.2.1 != y8.2.1) then (
  j24 ())
  else (
  if (y7.2.2 != y8.2.2) then (
  j24 ())
  else (
  if (y9.1 != y10.1) then (
  j24 ())
  else (
  if (y9.2.1 != y10.2.1) then (
  j24 ())
  else (
  j25 ())))))))
set_option maxHeartbeats 4000000 in
set_option maxRecDepth 100000 in
theorem g7 {n : Nat} {a0 : (List Int)} {a1 : Int} {r : Bool} (h : f7 n a0 a1 = some r) :
    Ab.Can Try.prog 7 [.sl 5 .ro (a0.map (PV.int .u8)), .int .i64 a1] H0 (.bool r) H0 := by
  refine can_of tabOK mix Try.call7 Try.func7 rfl (by kernel_rfl) (by show _ ≤ 142; simp) fun _ => ?_
  rw [f7] at h
  refine .seq ?_
  refine .region ?_
  refine .assign ?_
  refine .nil ?_
  refine .seq ?_
  refine .seq ?_
  refine .region ?_
  obtain ⟨y3, hy3, h⟩ := bindE h
  refine .cP (g17 hy3) ?_
  refine .val ?_
  refine .nil ?_
  refine .cond (fun hc4 => ?_) (fun hc4 => ?_)
  · replace h := (if_pos hc4).symm.trans h
    refine .seq ?_
    refine .region ?_
    refine .assign ?_
    refine .nil ?_
    cases h
    exact .ret (fin_gen0 none)
  · replace h := (if_neg (nt hc4)).symm.trans h
    refine .skip ?_
    refine .seq ?_
    refine .seq ?_
    refine .region ?_
    refine .move ?_
    refine .lenL (f := (PV.int .u8)) ?_
    refine .val ?_
    refine .nil ?_
    refine .cond (fun hc6 => ?_) (fun hc6 => ?_)
    · replace h := (if_pos hc6).symm.trans h
      refine .seq ?_
      refine .region ?_
      refine .assign ?_
      refine .nil ?_
      cases h
      exact .ret (fin_gen0 none)
    · replace h := (if_neg (nt hc6)).symm.trans h
      refine .skip ?_
      refine .seq ?_
      refine .region ?_
      refine .move ?_
      refine .move ?_
      obtain ⟨y7, hy7, h⟩ := bindE h
      refine .cP (g32 hy7) ?_
      refine .move ?_
      refine .val ?_
      refine .val ?_
      refine .val ?_
      refine .assign ?_
      refine .assign ?_
      refine .assign ?_
      refine .nil ?_
      refine .seq ?_
      refine .region ?_
      refine .move ?_
      refine .move ?_
      obtain ⟨y8, hy8, h⟩ := bindE h
      refine .cP (g33 hy8) ?_
      refine .move ?_
      refine .val ?_
      refine .val ?_
      refine .val ?_
      refine .assign ?_
      refine .assign ?_
      refine .assign ?_
      refine .nil ?_
      refine .seq ?_
      refine .region ?_
      refine .move ?_
      refine .move ?_
      obtain ⟨y9, hy9, h⟩ := bindE h
      refine .cP (g30 hy9) ?_
      refine .move ?_
      refine .val ?_
      refine .val ?_
      refine .val ?_
      refine .assign ?_
      refine .assign ?_
      refine .assign ?_
      refine .nil ?_
      refine .seq ?_
      refine .region ?_
      refine .move ?_
      refine .move ?_
      obtain ⟨y10, hy10, h⟩ := bindE h
      refine .cP (g34 hy10) ?_
      refine .move ?_
      refine .val ?_
      refine .val ?_
      refine .val ?_
      refine .assign ?_
      refine .assign ?_
      refine .assign ?_
      refine .nil ?_
      refine .imp (T := St.of [(0, .sl 5 .ro (a0.map (PV.int .u8))), (1, .int .i64 a1), (5, .int .u16 y7.1), (6, .int .i64 y7.2.1), (7, .int .i64 y7.2.2), (8, .int .u16 y8.1), (9, .int .i64 y8.2.1), (10, .int .i64 y8.2.2), (11, .int .u32 y9.1), (12, .int .i64 y9.2.1), (13, .int .i64 y9.2.2), (14, .int .u32 y10.1), (15, .int .i64 y10.2.1), (16, .int .i64 y10.2.2)] []) (imp_of (.cons rfl (.cons rfl (.cons rfl (.cons rfl (.cons rfl (.cons rfl (.cons rfl (.cons rfl (.cons rfl (.cons rfl (.cons rfl (.cons rfl (.cons rfl (.cons rfl (.nil))))))))))))))) (.nil)) ?_
      refine .seq ?_
      obtain ⟨j24, hj24, h⟩ := joinE h
      obtain ⟨j25, hj25, h⟩ := joinE h
      refine .cutI (fun T => (T = St.of [(0, .sl 5 .ro (a0.map (PV.int .u8))), (1, .int .i64 a1), (85, .bool true)] [] ∧ j24 () = some r) ∨ (T = St.of [(0, .sl 5 .ro (a0.map (PV.int .u8))), (1, .int .i64 a1), (85, .bool (y9.2.2 != y10.2.2))] [] ∧ j25 () = some r)) ?_ ?_
      · refine .region ?_
        refine .move ?_
        refine .move ?_
        refine .val ?_
        refine .move ?_
        refine .caseG (fun hc26 => ?_) (fun hc26 => ?_)
        · replace h := (if_pos hc26).symm.trans h
          refine .skip ?_
          refine .skip ?_
          refine .skip ?_
          refine .brT ?_
          refine .move ?_
          refine .skip ?_
          refine .skip ?_
          refine .skip ?_
          refine .brT ?_
          refine .move ?_
          refine .skip ?_
          refine .skip ?_
          refine .skip ?_
          refine .brT ?_
          refine .move ?_
          refine .skip ?_
          refine .skip ?_
          refine .skip ?_
          refine .brT ?_
          refine .move ?_
          refine .skip ?_
          refine .skip ?_
          refine .skip ?_
          refine .brT ?_
          refine .nil ?_
          exact ⟨_, (.inl ⟨rfl, h⟩), (imp_of (.cons rfl (.cons rfl (.cons rfl (.nil)))) (.nil))⟩
        · replace h := (if_neg (nt hc26)).symm.trans h
          refine .move ?_
          refine .move ?_
          refine .val ?_
          refine .brF ?_
          refine .move ?_
          refine .caseG (fun hc27 => ?_) (fun hc27 => ?_)
          · replace h := (if_pos hc27).symm.trans h
            refine .skip ?_
            refine .skip ?_
            refine .skip ?_
            refine .brT ?_
            refine .move ?_
            refine .skip ?_
            refine .skip ?_
            refine .skip ?_
            refine .brT ?_
            refine .move ?_
            refine .skip ?_
            refine .skip ?_
            refine .skip ?_
            refine .brT ?_
            refine .move ?_
            refine .skip ?_
            refine .skip ?_
            refine .skip ?_
            refine .brT ?_
            refine .nil ?_
            exact ⟨_, (.inl ⟨rfl, h⟩), (imp_of (.cons rfl (.cons rfl (.cons rfl (.nil)))) (.nil))⟩
          · replace h := (if_neg (nt hc27)).symm.trans h
            refine .move ?_
            refine .move ?_
            refine .val ?_
            refine .brF ?_
            refine .move ?_
            refine .caseG (fun hc28 => ?_) (fun hc28 => ?_)
            · replace h := (if_pos hc28).symm.trans h
              refine .skip ?_
              refine .skip ?_
              refine .skip ?_
              refine .brT ?_
              refine .move ?_
              refine .skip ?_
              refine .skip ?_
              refine .skip ?_
              refine .brT ?_
              refine .move ?_
              refine .skip ?_
              refine .skip ?_
              refine .skip ?_
              refine .brT ?_
              refine .nil ?_
              exact ⟨_, (.inl ⟨rfl, h⟩), (imp_of (.cons rfl (.cons rfl (.cons rfl (.nil)))) (.nil))⟩
            · replace h := (if_neg (nt hc28)).symm.trans h
              refine .move ?_
              refine .move ?_
              refine .val ?_
              refine .brF ?_
              refine .move ?_
              refine .caseG (fun hc29 => ?_) (fun hc29 => ?_)
              · replace h := (if_pos hc29).symm.trans h
                refine .skip ?_
                refine .skip ?_
                refine .skip ?_
                refine .brT ?_
                refine .move ?_
                refine .skip ?_
                refine .skip ?_
                refine .skip ?_
                refine .brT ?_
                refine .nil ?_
                exact ⟨_, (.inl ⟨rfl, h⟩), (imp_of (.cons rfl (.cons rfl (.cons rfl (.nil)))) (.nil))⟩
              · replace h := (if_neg (nt hc29)).symm.trans h
                refine .move ?_
                refine .move ?_
                refine .val ?_
                refine .brF ?_
                refine .move ?_
                refine .caseG (fun hc30 => ?_) (fun hc30 => ?_)
                · replace h := (if_pos hc30).symm.trans h
                  refine .skip ?_
                  refine .skip ?_
                  refine .skip ?_
                  refine .brT ?_
                  refine .nil ?_
                  exact ⟨_, (.inl ⟨rfl, h⟩), (imp_of (.cons rfl (.cons rfl (.cons rfl (.nil)))) (.nil))⟩
                · replace h := (if_neg (nt hc30)).symm.trans h
                  refine .move ?_
                  refine .move ?_
                  refine .val ?_
                  refine .brF ?_
                  refine .nil ?_
                  exact ⟨_, (.inr (⟨rfl, h⟩)), (imp_of (.cons rfl (.cons rfl (.cons rfl (.nil)))) (.nil))⟩
      · rintro T (⟨rfl, h⟩ | ⟨rfl, h⟩)
        · subst hj24
          refine .condT ?_
          refine .seq ?_
          refine .region ?_
          refine .assign ?_
          refine .nil ?_
          cases h
          exact .ret (fin_gen0 none)
        · subst hj25
          refine .cond (fun hc31 => ?_) (fun hc31 => ?_)
          · replace h := (if_pos hc31).symm.trans h
            refine .seq ?_
            refine .region ?_
            refine .assign ?_
            refine .nil ?_
            cases h
            exact .ret (fin_gen0 none)
          · replace h := (if_neg (nt hc31)).symm.trans h
            refine .skip ?_
            refine .seq ?_
            refine .region ?_
            refine .move ?_
            refine .move ?_
            obtain ⟨y32, hy32, h⟩ := bindE h
            refine .cP (g35 hy32) ?_
            refine .move ?_
            refine .val ?_
            refine .val ?_
            refine .val ?_
            refine .assign ?_
            refine .assign ?_
            refine .assign ?_
            refine .nil ?_
            refine .seq ?_
            refine .region ?_
            refine .move ?_
            refine .move ?_
            obtain ⟨y33, hy33, h⟩ := bindE h
            refine .cP (g36 hy33) ?_
            refine .move ?_
            refine .val ?_
            refine .val ?_
            refine .val ?_
            refine .assign ?_
            refine .assign ?_
            refine .assign ?_
            refine .nil ?_
            refine .seq ?_
            refine .region ?_
            refine .move ?_
            refine .move ?_
            obtain ⟨y34, hy34, h⟩ := bindE h
            refine .cP (g31 hy34) ?_
            refine .move ?_
            refine .val ?_
            refine .val ?_
            refine .val ?_
            refine .assign ?_
            refine .assign ?_
            refine .assign ?_
            refine .nil ?_
            refine .seq ?_
            refine .region ?_
            refine .move ?_
            refine .move ?_
            obtain ⟨y35, hy35, h⟩ := bindE h
            refine .cP (g37 hy35) ?_
            refine .move ?_
            refine .val ?_
            refine .val ?_
            refine .val ?_
            refine .assign ?_
            refine .assign ?_
            refine .assign ?_
            refine .nil ?_
            refine .seq ?_
            refine .region ?_
            refine .move ?_
            refine .move ?_
            refine .val ?_
            refine .move ?_
            refine .caseG (fun hc41 => ?_) (fun hc41 => ?_)
            · replace h := (if_pos hc41).symm.trans h
              refine .move ?_
              refine .move ?_
              refine .val ?_
              refine .brT ?_
              refine .move ?_
              refine .caseG (fun hc42 => ?_) (fun hc42 => ?_)
              · replace h := (if_pos hc42).symm.trans h
                refine .move ?_
                refine .move ?_
                refine .val ?_
                refine .brT ?_
                refine .move ?_
                refine .caseG (fun hc43 => ?_) (fun hc43 => ?_)
                · replace h := (if_pos hc43).symm.trans h
                  refine .move ?_
                  refine .move ?_
                  refine .val ?_
                  refine .brT ?_
                  refine .move ?_
                  refine .caseG (fun hc44 => ?_) (fun hc44 => ?_)
                  · replace h := (if_pos hc44).symm.trans h
                    refine .move ?_
                    refine .move ?_
                    refine .val ?_
                    refine .brT ?_
                    refine .move ?_
                    refine .caseG (fun hc45 => ?_) (fun hc45 => ?_)
                    · replace h := (if_pos hc45).symm.trans h
                      refine .move ?_
                      refine .move ?_
                      refine .val ?_
                      refine .brT ?_
                      refine .assign ?_
                      refine .nil ?_
                      cases h
                      exact .ret (fin_gen0 none)
                    · replace h := (if_neg (nt hc45)).symm.trans h
                      refine .skip ?_
                      refine .skip ?_
                      refine .skip ?_
                      refine .brF ?_
                      refine .assign ?_
                      refine .nil ?_
                      cases h
                      exact .ret (fin_gen0 none)
                  · replace h := (if_neg (nt hc44)).symm.trans h
                    refine .skip ?_
                    refine .skip ?_
                    refine .skip ?_
                    refine .brF ?_
                    refine .move ?_
                    refine .skip ?_
                    refine .skip ?_
                    refine .skip ?_
                    refine .brF ?_
                    refine .assign ?_
                    refine .nil ?_
                    cases h
                    exact .ret (fin_gen0 none)
                · replace h := (if_neg (nt hc43)).symm.trans h
                  refine .skip ?_
                  refine .skip ?_
                  refine .skip ?_
                  refine .brF ?_
                  refine .move ?_
                  refine .skip ?_
                  refine .skip ?_
                  refine .skip ?_
                  refine .brF ?_
                  refine .move ?_
                  refine .skip ?_
                  refine .skip ?_
                  refine .skip ?_
                  refine .brF ?_
                  refine .assign ?_
                  refine .nil ?_
                  cases h
                  exact .ret (fin_gen0 none)
              · replace h := (if_neg (nt hc42)).symm.trans h
                refine .skip ?_
                refine .skip ?_
                refine .skip ?_
                refine .brF ?_
                refine .move ?_
                refine .skip ?_
                refine .skip ?_
                refine .skip ?_
                refine .brF ?_
                refine .move ?_
                refine .skip ?_
                refine .skip ?_
                refine .skip ?_
                refine .brF ?_
                refine .move ?_
                refine .skip ?_
                refine .skip ?_
                refine .skip ?_
                refine .brF ?_
                refine .assign ?_
                refine .nil ?_
                cases h
                exact .ret (fin_gen0 none)
            · replace h := (if_neg (nt hc41)).symm.trans h
              refine .skip ?_
              refine .skip ?_
              refine .skip ?_
              refine .brF ?_
              refine .move ?_
              refine .skip ?_
              refine .skip ?_
              refine .skip ?_
              refine .brF ?_
              refine .move ?_
              refine .skip ?_
              refine .skip ?_
              refine .skip ?_
              refine .brF ?_
              refine .move ?_
              refine .skip ?_
              refine .skip ?_
              refine .skip ?_
              refine .brF ?_
              refine .move ?_
              refine .skip ?_
              refine .skip ?_
              refine .skip ?_
              refine .brF ?_
              refine .assign ?_
              refine .nil ?_
              cases h
              exact .ret (fin_gen0 none)

/- soundservice/soundservicelaw01.WireBack -/
def f8 (n : Nat) (a0 : (List Int)) (a1 : Int) (a2 : ByteArray) (a3 : (List Int)) : Option Bool :=
  (f17 n ).bind fun y3 =>
  if !y3 then (
  some false)
  else (
  joinK (fun (_ : Unit) =>
  some true) fun j12 =>
  joinK (fun (_ : Unit) =>
  if decide ((a3.length : Int) > (100 : Int)) then (
  some true)
  else (
  (f24 n a0 (IntKind.wrap .u16 (a1))).bind fun y17 =>
  (f26 n y17 (IntKind.wrap .u32 (a1))).bind fun y18 =>
  (f28 n y18 a1).bind fun y19 =>
  (f22 n y19 a2).bind fun y20 =>
  (lApp ([] : List Int) y20.1).bind fun x21 =>
  (lApp x21 a3).bind fun x22 =>
  (f32 n x22 (a0.length : Int)).bind fun y23 =>
  (f30 n x22 y23.2.1).bind fun y24 =>
  (f35 n x22 y24.2.1).bind fun y25 =>
  (f31 n x22 y25.2.1).bind fun y26 =>
  if (y20.2 == (0 : Int)) then (
  if (y23.2.2 == (0 : Int)) then (
  if (y24.2.2 == (0 : Int)) then (
  if (y25.2.2 == (0 : Int)) then (
  if (y26.2.2 == (0 : Int)) then (
  if (y23.1 == (IntKind.wrap .u16 (a1))) then (
  if (y24.1 == (IntKind.wrap .u32 (a1))) then (
  if (y25.1 == a1) then (
  if sEq y26.1 a2 then (
  some (y26.2.1 == (w64 ((x22.length : Int) - (a3.length : Int)))))
  else (
  some false))
  else (
  some false))
  else (
  some false))
  else (
  some false))
  else (
  some false))
  else (
  some false))
  else (
  some false))
  else (
  some false))
  else (
  some false))) fun j13 =>
  if decide ((a0.length : Int) > (200 : Int)) then (
  j12 ())
  else (
  if decide ((a2.size : Int) > (64 : Int)) then (
  j12 ())
  else (
  j13 ())))
set_option maxHeartbeats 4000000 in
set_option maxRecDepth 100000 in
theorem g8 {n : Nat} {a0 : (List Int)} {a1 : Int} {a2 : ByteArray} {a3 : (List Int)} {r : Bool} (h : f8 n a0 a1 a2 a3 = some r) :
    Ab.Can Try.prog 8 [.sl 5 .ro (a0.map (PV.int .u8)), .int .u64 a1, .str a2, .sl 5 .ro (a3.map (PV.int .u8))] H0 (.bool r) H0 := by
  refine can_of tabOK mix Try.call8 Try.func8 rfl (by kernel_rfl) (by show _ ≤ 131; simp) fun _ => ?_
  rw [f8] at h
  refine .seq ?_
  refine .region ?_
  refine .assign ?_
  refine .nil ?_
  refine .seq ?_
  refine .seq ?_
  refine .region ?_
  obtain ⟨y3, hy3, h⟩ := bindE h
  refine .cP (g17 hy3) ?_
  refine .val ?_
  refine .nil ?_
  refine .cond (fun hc4 => ?_) (fun hc4 => ?_)
  · replace h := (if_pos hc4).symm.trans h
    refine .seq ?_
    refine .region ?_
    refine .assign ?_
    refine .nil ?_
    cases h
    exact .ret (fin_gen0 none)
  · replace h := (if_neg (nt hc4)).symm.trans h
    refine .skip ?_
    refine .seq ?_
    obtain ⟨j12, hj12, h⟩ := joinE h
    obtain ⟨j13, hj13, h⟩ := joinE h
    refine .cutI (fun T => (T = St.of [(0, .sl 5 .ro (a0.map (PV.int .u8))), (1, .int .u64 a1), (2, .str a2), (3, .sl 5 .ro (a3.map (PV.int .u8))), (34, .bool true)] [] ∧ j12 () = some r) ∨ (T = St.of [(0, .sl 5 .ro (a0.map (PV.int .u8))), (1, .int .u64 a1), (2, .str a2), (3, .sl 5 .ro (a3.map (PV.int .u8))), (34, .bool (decide ((a3.length : Int) > (100 : Int))))] [] ∧ j13 () = some r)) ?_ ?_
    · refine .region ?_
      refine .move ?_
      refine .lenL (f := (PV.int .u8)) ?_
      refine .val ?_
      refine .move ?_
      refine .caseG (fun hc14 => ?_) (fun hc14 => ?_)
      · replace h := (if_pos hc14).symm.trans h
        refine .skip ?_
        refine .skip ?_
        refine .skip ?_
        refine .brT ?_
        refine .move ?_
        refine .skip ?_
        refine .skip ?_
        refine .skip ?_
        refine .brT ?_
        refine .nil ?_
        exact ⟨_, (.inl ⟨rfl, h⟩), (imp_of (.cons rfl (.cons rfl (.cons rfl (.cons rfl (.cons rfl (.nil)))))) (.nil))⟩
      · replace h := (if_neg (nt hc14)).symm.trans h
        refine .move ?_
        refine .val ?_
        refine .val ?_
        refine .brF ?_
        refine .move ?_
        refine .caseG (fun hc15 => ?_) (fun hc15 => ?_)
        · replace h := (if_pos hc15).symm.trans h
          refine .skip ?_
          refine .skip ?_
          refine .skip ?_
          refine .brT ?_
          refine .nil ?_
          exact ⟨_, (.inl ⟨rfl, h⟩), (imp_of (.cons rfl (.cons rfl (.cons rfl (.cons rfl (.cons rfl (.nil)))))) (.nil))⟩
        · replace h := (if_neg (nt hc15)).symm.trans h
          refine .move ?_
          refine .lenL (f := (PV.int .u8)) ?_
          refine .val ?_
          refine .brF ?_
          refine .nil ?_
          exact ⟨_, (.inr (⟨rfl, h⟩)), (imp_of (.cons rfl (.cons rfl (.cons rfl (.cons rfl (.cons rfl (.nil)))))) (.nil))⟩
    · rintro T (⟨rfl, h⟩ | ⟨rfl, h⟩)
      · subst hj12
        refine .condT ?_
        refine .seq ?_
        refine .region ?_
        refine .assign ?_
        refine .nil ?_
        cases h
        exact .ret (fin_gen0 none)
      · subst hj13
        refine .cond (fun hc16 => ?_) (fun hc16 => ?_)
        · replace h := (if_pos hc16).symm.trans h
          refine .seq ?_
          refine .region ?_
          refine .assign ?_
          refine .nil ?_
          cases h
          exact .ret (fin_gen0 none)
        · replace h := (if_neg (nt hc16)).symm.trans h
          refine .skip ?_
          refine .seq ?_
          refine .region ?_
          refine .move ?_
          refine .move ?_
          refine .val ?_
          obtain ⟨y17, hy17, h⟩ := bindE h
          refine .cP (g24r hy17) ?_
          refine .move ?_
          refine .val ?_
          obtain ⟨y18, hy18, h⟩ := bindE h
          refine .cP (g26r hy18) ?_
          refine .move ?_
          obtain ⟨y19, hy19, h⟩ := bindE h
          refine .cP (g28r hy19) ?_
          refine .move ?_
          obtain ⟨y20, hy20, h⟩ := bindE h
          refine .cP (g22r hy20) ?_
          refine .move ?_
          refine .val ?_
          refine .val ?_
          refine .assign ?_
          refine .assign ?_
          refine .nil ?_
          refine .seq ?_
          refine .region ?_
          refine .move ?_
          obtain ⟨x21, hx21, h⟩ := bindE h
          refine .appN (f := (PV.int .u8)) hx21 ?_
          refine .move ?_
          obtain ⟨x22, hx22, h⟩ := bindE h
          refine .appL (f := (PV.int .u8)) hx22 ?_
          refine .assign ?_
          refine .nil ?_
          refine .imp (T := St.of [(0, .sl 5 .ro (a0.map (PV.int .u8))), (1, .int .u64 a1), (2, .str a2), (3, .sl 5 .ro (a3.map (PV.int .u8))), (9, .sl 5 (.own (.row 6 3)) (x22.map (PV.int .u8))), (10, .int .i64 y20.2)] []) (imp_of (.cons rfl (.cons rfl (.cons rfl (.cons rfl (.cons rfl (.cons rfl (.nil))))))) (.nil)) ?_
          refine .seq ?_
          refine .region ?_
          refine .move ?_
          refine .move ?_
          refine .lenL (f := (PV.int .u8)) ?_
          obtain ⟨y23, hy23, h⟩ := bindE h
          refine .freeze (.row 6 3) ?_
          refine .cP (g32 hy23) ?_
          refine .move ?_
          refine .val ?_
          refine .val ?_
          refine .val ?_
          refine .assign ?_
          refine .assign ?_
          refine .assign ?_
          refine .nil ?_
          refine .seq ?_
          refine .region ?_
          refine .move ?_
          refine .move ?_
          obtain ⟨y24, hy24, h⟩ := bindE h
          refine .cP (g30 hy24) ?_
          refine .move ?_
          refine .val ?_
          refine .val ?_
          refine .val ?_
          refine .assign ?_
          refine .assign ?_
          refine .assign ?_
          refine .nil ?_
          refine .seq ?_
          refine .region ?_
          refine .move ?_
          refine .move ?_
          obtain ⟨y25, hy25, h⟩ := bindE h
          refine .cP (g35 hy25) ?_
          refine .move ?_
          refine .val ?_
          refine .val ?_
          refine .val ?_
          refine .assign ?_
          refine .assign ?_
          refine .assign ?_
          refine .nil ?_
          refine .seq ?_
          refine .region ?_
          refine .move ?_
          refine .move ?_
          obtain ⟨y26, hy26, h⟩ := bindE h
          refine .cP (g31 hy26) ?_
          refine .move ?_
          refine .val ?_
          refine .val ?_
          refine .val ?_
          refine .assign ?_
          refine .assign ?_
          refine .assign ?_
          refine .nil ?_
          refine .imp (T := St.of [(1, .int .u64 a1), (2, .str a2), (3, .sl 5 .ro (a3.map (PV.int .u8))), (9, .sl 5 .ro (x22.map (PV.int .u8))), (10, .int .i64 y20.2), (11, .int .u16 y23.1), (12, .int .i64 y26.2.1), (13, .int .i64 y23.2.2), (14, .int .u32 y24.1), (15, .int .i64 y24.2.2), (16, .int .u64 y25.1), (17, .int .i64 y25.2.2), (18, .str y26.1), (19, .int .i64 y26.2.2)] []) (imp_of (.cons rfl (.cons rfl (.cons rfl (.cons rfl (.cons rfl (.cons rfl (.cons rfl (.cons rfl (.cons rfl (.cons rfl (.cons rfl (.cons rfl (.cons rfl (.cons rfl (.nil))))))))))))))) (.nil)) ?_
          refine .seq ?_
          refine .region ?_
          refine .move ?_
          refine .val ?_
          refine .move ?_
          refine .caseG (fun hc36 => ?_) (fun hc36 => ?_)
          · replace h := (if_pos hc36).symm.trans h
            refine .move ?_
            refine .val ?_
            refine .brT ?_
            refine .move ?_
            refine .caseG (fun hc37 => ?_) (fun hc37 => ?_)
            · replace h := (if_pos hc37).symm.trans h
              refine .move ?_
              refine .val ?_
              refine .brT ?_
              refine .move ?_
              refine .caseG (fun hc38 => ?_) (fun hc38 => ?_)
              · replace h := (if_pos hc38).symm.trans h
                refine .move ?_
                refine .val ?_
                refine .brT ?_
                refine .move ?_
                refine .caseG (fun hc39 => ?_) (fun hc39 => ?_)
                · replace h := (if_pos hc39).symm.trans h
                  refine .move ?_
                  refine .val ?_
                  refine .brT ?_
                  refine .move ?_
                  refine .caseG (fun hc40 => ?_) (fun hc40 => ?_)
                  · replace h := (if_pos hc40).symm.trans h
                    refine .move ?_
                    refine .move ?_
                    refine .val ?_
                    refine .val ?_
                    refine .brT ?_
                    refine .move ?_
                    refine .caseG (fun hc41 => ?_) (fun hc41 => ?_)
                    · replace h := (if_pos hc41).symm.trans h
                      refine .move ?_
                      refine .move ?_
                      refine .val ?_
                      refine .val ?_
                      refine .brT ?_
                      refine .move ?_
                      refine .caseG (fun hc42 => ?_) (fun hc42 => ?_)
                      · replace h := (if_pos hc42).symm.trans h
                        refine .move ?_
                        refine .move ?_
                        refine .val ?_
                        refine .brT ?_
                        refine .move ?_
                        refine .caseG (fun hc43 => ?_) (fun hc43 => ?_)
                        · replace h := (if_pos hc43).symm.trans h
                          refine .move ?_
                          refine .move ?_
                          refine .val ?_
                          refine .brT ?_
                          refine .move ?_
                          refine .caseG (fun hc44 => ?_) (fun hc44 => ?_)
                          · replace h := (if_pos hc44).symm.trans h
                            refine .move ?_
                            refine .move ?_
                            refine .lenL (f := (PV.int .u8)) ?_
                            refine .move ?_
                            refine .lenL (f := (PV.int .u8)) ?_
                            refine .val ?_
                            refine .val ?_
                            refine .brT ?_
                            refine .assign ?_
                            refine .nil ?_
                            cases h
                            exact .ret (fin_gen0 none)
                          · replace h := (if_neg (nt hc44)).symm.trans h
                            refine .skip ?_
                            refine .skip ?_
                            refine .skip ?_
                            refine .skip ?_
                            refine .skip ?_
                            refine .skip ?_
                            refine .skip ?_
                            refine .brF ?_
                            refine .assign ?_
                            refine .nil ?_
                            cases h
                            exact .ret (fin_gen0 none)
                        · replace h := (if_neg (nt hc43)).symm.trans h
                          refine .skip ?_
                          refine .skip ?_
                          refine .skip ?_
                          refine .brF ?_
                          refine .move ?_
                          refine .skip ?_
                          refine .skip ?_
                          refine .skip ?_
                          refine .skip ?_
                          refine .skip ?_
                          refine .skip ?_
                          refine .skip ?_
                          refine .brF ?_
                          refine .assign ?_
                          refine .nil ?_
                          cases h
                          exact .ret (fin_gen0 none)
                      · replace h := (if_neg (nt hc42)).symm.trans h
                        refine .skip ?_
                        refine .skip ?_
                        refine .skip ?_
                        refine .brF ?_
                        refine .move ?_
                        refine .skip ?_
                        refine .skip ?_
                        refine .skip ?_
                        refine .brF ?_
                        refine .move ?_
                        refine .skip ?_
                        refine .skip ?_
                        refine .skip ?_
                        refine .skip ?_
                        refine .skip ?_
                        refine .skip ?_
                        refine .skip ?_
                        refine .brF ?_
                        refine .assign ?_
                        refine .nil ?_
                        cases h
                        exact .ret (fin_gen0 none)
                    · replace h := (if_neg (nt hc41)).symm.trans h
                      refine .skip ?_
                      refine .skip ?_
                      refine .skip ?_
                      refine .skip ?_
                      refine .brF ?_
                      refine .move ?_
                      refine .skip ?_
                      refine .skip ?_
                      refine .skip ?_
                      refine .brF ?_
                      refine .move ?_
                      refine .skip ?_
                      refine .skip ?_
                      refine .skip ?_
                      refine .brF ?_
                      refine .move ?_
                      refine .skip ?_
                      refine .skip ?_
                      refine .skip ?_
                      refine .skip ?_
                      refine .skip ?_
                      refine .skip ?_
                      refine .skip ?_
                      refine .brF ?_
                      refine .assign ?_
                      refine .nil ?_
                      cases h
                      exact .ret (fin_gen0 none)
                  · replace h := (if_neg (nt hc40)).symm.trans h
                    refine .skip ?_
                    refine .skip ?_
                    refine .skip ?_
                    refine .skip ?_
                    refine .brF ?_
                    refine .move ?_
                    refine .skip ?_
                    refine .skip ?_
                    refine .skip ?_
                    refine .skip ?_
                    refine .brF ?_
                    refine .move ?_
                    refine .skip ?_
                    refine .skip ?_
                    refine .skip ?_
                    refine .brF ?_
                    refine .move ?_
                    refine .skip ?_
                    refine .skip ?_
                    refine .skip ?_
                    refine .brF ?_
                    refine .move ?_
                    refine .skip ?_
                    refine .skip ?_
                    refine .skip ?_
                    refine .skip ?_
                    refine .skip ?_
                    refine .skip ?_
                    refine .skip ?_
                    refine .brF ?_
                    refine .assign ?_
                    refine .nil ?_
                    cases h
                    exact .ret (fin_gen0 none)
                · replace h := (if_neg (nt hc39)).symm.trans h
                  refine .skip ?_
                  refine .skip ?_
                  refine .brF ?_
                  refine .move ?_
                  refine .skip ?_
                  refine .skip ?_
                  refine .skip ?_
                  refine .skip ?_
                  refine .brF ?_
                  refine .move ?_
                  refine .skip ?_
                  refine .skip ?_
                  refine .skip ?_
                  refine .skip ?_
                  refine .brF ?_
                  refine .move ?_
                  refine .skip ?_
                  refine .skip ?_
                  refine .skip ?_
                  refine .brF ?_
                  refine .move ?_
                  refine .skip ?_
                  refine .skip ?_
                  refine .skip ?_
                  refine .brF ?_
                  refine .move ?_
                  refine .skip ?_
                  refine .skip ?_
                  refine .skip ?_
                  refine .skip ?_
                  refine .skip ?_
                  refine .skip ?_
                  refine .skip ?_
                  refine .brF ?_
                  refine .assign ?_
                  refine .nil ?_
                  cases h
                  exact .ret (fin_gen0 none)
              · replace h := (if_neg (nt hc38)).symm.trans h
                refine .skip ?_
                refine .skip ?_
                refine .brF ?_
                refine .move ?_
                refine .skip ?_
                refine .skip ?_
                refine .brF ?_
                refine .move ?_
                refine .skip ?_
                refine .skip ?_
                refine .skip ?_
                refine .skip ?_
                refine .brF ?_
                refine .move ?_
                refine .skip ?_
                refine .skip ?_
                refine .skip ?_
                refine .skip ?_
                refine .brF ?_
                refine .move ?_
                refine .skip ?_
                refine .skip ?_
                refine .skip ?_
                refine .brF ?_
                refine .move ?_
                refine .skip ?_
                refine .skip ?_
                refine .skip ?_
                refine .brF ?_
                refine .move ?_
                refine .skip ?_
                refine .skip ?_
                refine .skip ?_
                refine .skip ?_
                refine .skip ?_
                refine .skip ?_
                refine .skip ?_
                refine .brF ?_
                refine .assign ?_
                refine .nil ?_
                cases h
                exact .ret (fin_gen0 none)
            · replace h := (if_neg (nt hc37)).symm.trans h
              refine .skip ?_
              refine .skip ?_
              refine .brF ?_
              refine .move ?_
              refine .skip ?_
              refine .skip ?_
              refine .brF ?_
              refine .move ?_
              refine .skip ?_
              refine .skip ?_
              refine .brF ?_
              refine .move ?_
              refine .skip ?_
              refine .skip ?_
              refine .skip ?_
              refine .skip ?_
              refine .brF ?_
              refine .move ?_
              refine .skip ?_
              refine .skip ?_
              refine .skip ?_
              refine .skip ?_
              refine .brF ?_
              refine .move ?_
              refine .skip ?_
              refine .skip ?_
              refine .skip ?_
              refine .brF ?_
              refine .move ?_
              refine .skip ?_
              refine .skip ?_
              refine .skip ?_
              refine .brF ?_
              refine .move ?_
              refine .skip ?_
              refine .skip ?_
              refine .skip ?_
              refine .skip ?_
              refine .skip ?_
              refine .skip ?_
              refine .skip ?_
              refine .brF ?_
              refine .assign ?_
              refine .nil ?_
              cases h
              exact .ret (fin_gen0 none)
          · replace h := (if_neg (nt hc36)).symm.trans h
            refine .skip ?_
            refine .skip ?_
            refine .brF ?_
            refine .move ?_
            refine .skip ?_
            refine .skip ?_
            refine .brF ?_
            refine .move ?_
            refine .skip ?_
            refine .skip ?_
            refine .brF ?_
            refine .move ?_
            refine .skip ?_
            refine .skip ?_
            refine .brF ?_
            refine .move ?_
            refine .skip ?_
            refine .skip ?_
            refine .skip ?_
            refine .skip ?_
            refine .brF ?_
            refine .move ?_
            refine .skip ?_
            refine .skip ?_
            refine .skip ?_
            refine .skip ?_
            refine .brF ?_
            refine .move ?_
            refine .skip ?_
            refine .skip ?_
            refine .skip ?_
            refine .brF ?_
            refine .move ?_
            refine .skip ?_
            refine .skip ?_
            refine .skip ?_
            refine .brF ?_
            refine .move ?_
            refine .skip ?_
            refine .skip ?_
            refine .skip ?_
            refine .skip ?_
            refine .skip ?_
            refine .skip ?_
            refine .skip ?_
            refine .brF ?_
            refine .assign ?_
            refine .nil ?_
            cases h
            exact .ret (fin_gen0 none)
end Go.Proofs.Ytcahjpkmldmjdaa
