/-
  Plain functions of soundservicelaw40, and that the code does what they say.
-/
import Derived.Test.YtcahjpkmldmjdaaGj
namespace Go.Proofs.Ytcahjpkmldmjdaa
open Go Ab
/- soundservice/soundservicelaw40.JournalAppends -/
def f11_l2 (n : Nat) (a2 : (List Int)) (x16 : (List Int)) (j350 : Unit → Option Bool) (x351 : (List Int)) : Nat → Int → Option Bool
  | 0, _ => none
  | m386 + 1, v368 =>
    if decide (v368 < (([a2, x16] : List (List Int)).length : Int)) then (
    (lAt ([a2, x16] : List (List Int)) v368).bind fun x396 =>
    (f46 n x351 x396).bind fun y397 =>
    (f47 n x351 x396).bind fun y398 =>
    joinK (fun (_ : Unit) =>
    some false) fun j400 =>
    joinK (fun (_ : Unit) =>
    if !(sEq (mkStr y397.1) (mkStr y398.1)) then (
    some false)
    else (
    f11_l2 n a2 x16 j350 x351 m386 (w64 (v368 + (1 : Int))))) fun j401 =>
    if (y397.2 != y398.2) then (
    j400 ())
    else (
    j401 ()))
    else (
    j350 ())
def f11_l1 (n : Nat) (a1 : (List Int)) (a2 : (List Int)) (y14 : ((List (List Int)) × (List Int))) (x16 : (List Int)) (j183 : Unit → Option Bool) (x185 : (List Int)) : Nat → Int → Option Bool
  | 0, _ => none
  | m296 + 1, v240 =>
    if decide (v240 < (([y14.2, a1, x185] : List (List Int)).length : Int)) then (
    joinK (fun (_ : Unit) =>
    f11_l1 n a1 a2 y14 x16 j183 x185 m296 (w64 (v240 + (1 : Int)))) fun j350 =>
    (lAt ([y14.2, a1, x185] : List (List Int)) v240).bind fun x351 =>
    f11_l2 n a2 x16 j350 x351 n 0)
    else (
    j183 ())
def f11 (n : Nat) (a0 : (List Int)) (a1 : (List Int)) (a2 : (List Int)) (a3 : Int) : Option Bool :=
  (f43 n ).bind fun y3 =>
  if !y3 then (
  some false)
  else (
  joinK (fun (_ : Unit) =>
  some true) fun j10 =>
  joinK (fun (_ : Unit) =>
  if decide ((a2.length : Int) > (200 : Int)) then (
  some true)
  else (
  (f44 n a0).bind fun y14 =>
  (f45 n a3 (3 : Int)).bind fun y15 =>
  (lMake (w64 ((4095 : Int) + y15)) (w64 ((4095 : Int) + y15)) (0 : Int)).bind fun x16 =>
  joinK (fun (_ : Unit) =>
  some true) fun j183 =>
  (f45 n a3 (w64 ((y14.2.length : Int) + (1 : Int)))).bind fun y184 =>
  (lPart y14.2 (0 : Int) y184).bind fun x185 =>
  f11_l1 n a1 a2 y14 x16 j183 x185 n 0)) fun j11 =>
  if decide ((a1.length : Int) > (200 : Int)) then (
  j10 ())
  else (
  j11 ()))
set_option maxHeartbeats 4000000 in
set_option maxRecDepth 100000 in
theorem g11 {n : Nat} {a0 : (List Int)} {a1 : (List Int)} {a2 : (List Int)} {a3 : Int} {r : Bool} (h : f11 n a0 a1 a2 a3 = some r) :
    Ab.Can Try.prog 11 [.sl 3 .ro (a0.map (PV.int .i64)), .sl 5 .ro (a1.map (PV.int .u8)), .sl 5 .ro (a2.map (PV.int .u8)), .int .i64 a3] H0 (.bool r) H0 := by
  refine can_of tabOK mix Try.call11 Try.func11 rfl (by kernel_rfl) (by show _ ≤ 86; simp) fun _ => ?_
  rw [f11] at h
  refine .seq ?_
  refine .region ?_
  refine .assign ?_
  refine .nil ?_
  refine .seq ?_
  refine .seq ?_
  refine .region ?_
  obtain ⟨y3, hy3, h⟩ := bindE h
  refine .cP (g43 hy3) ?_
  refine .val ?_
  refine .nil ?_
  refine .cond (fun hc4 => ?_) (fun hc4 => ?_)
  · replace h := (if_pos hc4).symm.trans h
    refine .seq ?_
    refine .region ?_
    refine .assign ?_
    refine .nil ?_
    cases h
    exact .ret (fin_gen0 none)
  · replace h := (if_neg (nt hc4)).symm.trans h
    refine .skip ?_
    refine .seq ?_
    obtain ⟨j10, hj10, h⟩ := joinE h
    obtain ⟨j11, hj11, h⟩ := joinE h
    refine .cutI (fun T => (T = St.of [(0, .sl 3 .ro (a0.map (PV.int .i64))), (1, .sl 5 .ro (a1.map (PV.int .u8))), (2, .sl 5 .ro (a2.map (PV.int .u8))), (3, .int .i64 a3), (29, .bool true)] [] ∧ j10 () = some r) ∨ (T = St.of [(0, .sl 3 .ro (a0.map (PV.int .i64))), (1, .sl 5 .ro (a1.map (PV.int .u8))), (2, .sl 5 .ro (a2.map (PV.int .u8))), (3, .int .i64 a3), (29, .bool (decide ((a2.length : Int) > (200 : Int))))] [] ∧ j11 () = some r)) ?_ ?_
    · refine .region ?_
      refine .move ?_
      refine .lenL (f := (PV.int .u8)) ?_
      refine .val ?_
      refine .move ?_
      refine .caseG (fun hc12 => ?_) (fun hc12 => ?_)
      · replace h := (if_pos hc12).symm.trans h
        refine .skip ?_
        refine .skip ?_
        refine .skip ?_
        refine .brT ?_
        refine .nil ?_
        exact ⟨_, (.inl ⟨rfl, h⟩), (imp_of (.cons rfl (.cons rfl (.cons rfl (.cons rfl (.cons rfl (.nil)))))) (.nil))⟩
      · replace h := (if_neg (nt hc12)).symm.trans h
        refine .move ?_
        refine .lenL (f := (PV.int .u8)) ?_
        refine .val ?_
        refine .brF ?_
        refine .nil ?_
        exact ⟨_, (.inr (⟨rfl, h⟩)), (imp_of (.cons rfl (.cons rfl (.cons rfl (.cons rfl (.cons rfl (.nil)))))) (.nil))⟩
    · rintro T (⟨rfl, h⟩ | ⟨rfl, h⟩)
      · subst hj10
        refine .condT ?_
        refine .seq ?_
        refine .region ?_
        refine .assign ?_
        refine .nil ?_
        cases h
        exact .ret (fin_gen0 none)
      · subst hj11
        refine .cond (fun hc13 => ?_) (fun hc13 => ?_)
        · replace h := (if_pos hc13).symm.trans h
          refine .seq ?_
          refine .region ?_
          refine .assign ?_
          refine .nil ?_
          cases h
          exact .ret (fin_gen0 none)
        · replace h := (if_neg (nt hc13)).symm.trans h
          refine .skip ?_
          refine .seq ?_
          refine .region ?_
          refine .move ?_
          obtain ⟨y14, hy14, h⟩ := bindE h
          refine .cP (g44r hy14) ?_
          refine .move ?_
          refine .val ?_
          refine .val ?_
          refine .assign ?_
          refine .assign ?_
          refine .nil ?_
          refine .seq ?_
          refine .region ?_
          refine .move ?_
          obtain ⟨y15, hy15, h⟩ := bindE h
          refine .cP (g45 hy15) ?_
          refine .val ?_
          obtain ⟨x16, hx16, h⟩ := bindE h
          refine .makeL (f := (PV.int .u8)) hx16 ?_
          refine .assign ?_
          refine .nil ?_
          obtain ⟨j183, hj183, h⟩ := joinE h
          refine .cutI (fun T => (T = St.of [] [] ∧ j183 () = some r)) ?_ ?_
          · refine .seq ?_
            refine .region ?_
            refine .move ?_
            refine .move ?_
            refine .move ?_
            refine .move ?_
            refine .move ?_
            refine .lenL (f := (PV.int .u8)) ?_
            refine .val ?_
            obtain ⟨y184, hy184, h⟩ := bindE h
            refine .cP (g45 hy184) ?_
            obtain ⟨x185, hx185, h⟩ := bindE h
            refine .partL (f := (PV.int .u8)) hx185 ?_
            refine .litR (f := pv22) ([y14.2, a1, x185] : List (List Int)) ?_
            refine .lenL (f := pv22) ?_
            refine .move ?_
            refine .nil ?_
            refine .block ?_
            refine .loopI (fun m T => ∃ (v240 : Int), T = St.of [(2, .sl 5 .ro (a2.map (PV.int .u8))), (11, .sl 5 .ro (x16.map (PV.int .u8))), (48, .sl 22 .ro (([y14.2, a1, x185] : List (List Int)).map pv22)), (49, .int .i64 (([y14.2, a1, x185] : List (List Int)).length : Int)), (50, .int .i64 v240)] [] ∧ f11_l1 n a1 a2 y14 x16 j183 x185 m v240 = some r) _ _ ⟨_, rfl, h⟩ (Imp.trans (Imp.frz (.row 6 3) rfl) (imp_of (.cons rfl (.cons rfl (.cons rfl (.cons rfl (.cons rfl (.nil)))))) (.nil))) ?_
            rintro m296 T ⟨v240, rfl, h⟩
            obtain _ | m296 := m296
            · rw [f11_l1] at h; cases h
            rw [f11_l1] at h
            refine .seq ?_
            refine .region ?_
            refine .val ?_
            refine .nil ?_
            refine .seq ?_
            refine .cond (fun hc298 => ?_) (fun hc298 => ?_)
            · replace h := (if_pos hc298).symm.trans h
              refine .skip ?_
              obtain ⟨j350, hj350, h⟩ := joinE h
              refine .cutI (fun T => (T = St.of [(2, .sl 5 .ro (a2.map (PV.int .u8))), (11, .sl 5 .ro (x16.map (PV.int .u8))), (48, .sl 22 .ro (([y14.2, a1, x185] : List (List Int)).map pv22)), (49, .int .i64 (([y14.2, a1, x185] : List (List Int)).length : Int)), (50, .int .i64 v240)] [] ∧ j350 () = some r)) ?_ ?_
              · refine .block ?_
                refine .seq ?_
                refine .region ?_
                obtain ⟨x351, hx351, h⟩ := bindE h
                refine .idxL (f := pv22) hx351 ?_
                refine .ldL hx351 (y := .sl 5 .ro (x351.map (PV.int .u8))) ?_
                refine .assign ?_
                refine .nil ?_
                refine .seq ?_
                refine .region ?_
                refine .move ?_
                refine .move ?_
                refine .litR (f := pv22) ([a2, x16] : List (List Int)) ?_
                refine .lenL (f := pv22) ?_
                refine .move ?_
                refine .nil ?_
                refine .block ?_
                refine .loopI (fun m T => ∃ (v368 : Int), T = St.of [(2, .sl 5 .ro (a2.map (PV.int .u8))), (11, .sl 5 .ro (x16.map (PV.int .u8))), (13, .sl 5 .ro (x351.map (PV.int .u8))), (48, .sl 22 .ro (([y14.2, a1, x185] : List (List Int)).map pv22)), (49, .int .i64 (([y14.2, a1, x185] : List (List Int)).length : Int)), (50, .int .i64 v240), (56, .sl 22 .ro (([a2, x16] : List (List Int)).map pv22)), (57, .int .i64 (([a2, x16] : List (List Int)).length : Int)), (58, .int .i64 v368)] [] ∧ f11_l2 n a2 x16 j350 x351 m v368 = some r) _ _ ⟨_, rfl, h⟩ (imp_of (.cons rfl (.cons rfl (.cons rfl (.cons rfl (.cons rfl (.cons rfl (.cons rfl (.cons rfl (.cons rfl (.nil)))))))))) (.nil)) ?_
                rintro m386 T ⟨v368, rfl, h⟩
                obtain _ | m386 := m386
                · rw [f11_l2] at h; cases h
                rw [f11_l2] at h
                refine .seq ?_
                refine .region ?_
                refine .val ?_
                refine .nil ?_
                refine .seq ?_
                refine .cond (fun hc388 => ?_) (fun hc388 => ?_)
                · replace h := (if_pos hc388).symm.trans h
                  refine .skip ?_
                  refine .seq ?_
                  refine .block ?_
                  refine .seq ?_
                  refine .region ?_
                  obtain ⟨x396, hx396, h⟩ := bindE h
                  refine .idxL (f := pv22) hx396 ?_
                  refine .ldL hx396 (y := .sl 5 .ro (x396.map (PV.int .u8))) ?_
                  refine .assign ?_
                  refine .nil ?_
                  refine .seq ?_
                  refine .region ?_
                  refine .move ?_
                  refine .move ?_
                  obtain ⟨y397, hy397, h⟩ := bindE h
                  refine .cP (g46r hy397) ?_
                  refine .move ?_
                  refine .val ?_
                  refine .val ?_
                  refine .assign ?_
                  refine .assign ?_
                  refine .nil ?_
                  refine .seq ?_
                  refine .region ?_
                  refine .move ?_
                  refine .move ?_
                  obtain ⟨y398, hy398, h⟩ := bindE h
                  refine .cP (g47r hy398) ?_
                  refine .move ?_
                  refine .val ?_
                  refine .val ?_
                  refine .assign ?_
                  refine .assign ?_
                  refine .nil ?_
                  obtain ⟨j400, hj400, h⟩ := joinE h
                  obtain ⟨j401, hj401, h⟩ := joinE h
                  refine .cutI (fun T => (T = St.of [(2, .sl 5 .ro (a2.map (PV.int .u8))), (11, .sl 5 .ro (x16.map (PV.int .u8))), (13, .sl 5 .ro (x351.map (PV.int .u8))), (48, .sl 22 .ro (([y14.2, a1, x185] : List (List Int)).map pv22)), (49, .int .i64 (([y14.2, a1, x185] : List (List Int)).length : Int)), (50, .int .i64 v240), (56, .sl 22 .ro (([a2, x16] : List (List Int)).map pv22)), (57, .int .i64 (([a2, x16] : List (List Int)).length : Int)), (58, .int .i64 v368), (78, .tup []), (79, .tup []), (80, .tup []), (81, .tup []), (82, .tup []), (83, .bool true)] [] ∧ j400 () = some r) ∨ (T = St.of [(2, .sl 5 .ro (a2.map (PV.int .u8))), (11, .sl 5 .ro (x16.map (PV.int .u8))), (13, .sl 5 .ro (x351.map (PV.int .u8))), (48, .sl 22 .ro (([y14.2, a1, x185] : List (List Int)).map pv22)), (49, .int .i64 (([y14.2, a1, x185] : List (List Int)).length : Int)), (50, .int .i64 v240), (56, .sl 22 .ro (([a2, x16] : List (List Int)).map pv22)), (57, .int .i64 (([a2, x16] : List (List Int)).length : Int)), (58, .int .i64 v368), (78, .sl 5 .ro (y397.1.map (PV.int .u8))), (79, .str (mkStr y397.1)), (80, .sl 5 .ro (y398.1.map (PV.int .u8))), (81, .str (mkStr y398.1)), (82, .bool (!(sEq (mkStr y397.1) (mkStr y398.1)))), (83, .bool (!(sEq (mkStr y397.1) (mkStr y398.1))))] [] ∧ j401 () = some r)) ?_ ?_
                  · refine .region ?_
                    refine .move ?_
                    refine .move ?_
                    refine .val ?_
                    refine .move ?_
                    refine .caseG (fun hc402 => ?_) (fun hc402 => ?_)
                    · replace h := (if_pos hc402).symm.trans h
                      refine .skip ?_
                      refine .skip ?_
                      refine .skip ?_
                      refine .skip ?_
                      refine .skip ?_
                      refine .brT ?_
                      refine .nil ?_
                      exact ⟨_, (.inl ⟨rfl, h⟩), (imp_of (.cons rfl (.cons rfl (.cons rfl (.cons rfl (.cons rfl (.cons rfl (.cons rfl (.cons rfl (.cons rfl (.cons rfl (.cons rfl (.cons rfl (.cons rfl (.cons rfl (.cons rfl (.nil)))))))))))))))) (.nil))⟩
                    · replace h := (if_neg (nt hc402)).symm.trans h
                      refine .move ?_
                      refine .toStr ?_
                      refine .move ?_
                      refine .toStr ?_
                      refine .val ?_
                      refine .brF ?_
                      refine .nil ?_
                      exact ⟨_, (.inr (⟨rfl, h⟩)), (imp_of (.cons rfl (.cons rfl (.cons rfl (.cons rfl (.cons rfl (.cons rfl (.cons rfl (.cons rfl (.cons rfl (.cons rfl (.cons rfl (.cons rfl (.cons rfl (.cons rfl (.cons rfl (.nil)))))))))))))))) (.nil))⟩
                  · rintro T (⟨rfl, h⟩ | ⟨rfl, h⟩)
                    · subst hj400
                      refine .condT ?_
                      refine .seq ?_
                      refine .region ?_
                      refine .assign ?_
                      refine .nil ?_
                      cases h
                      exact .ret (fin_gen0 none)
                    · subst hj401
                      refine .cond (fun hc403 => ?_) (fun hc403 => ?_)
                      · replace h := (if_pos hc403).symm.trans h
                        refine .seq ?_
                        refine .region ?_
                        refine .assign ?_
                        refine .nil ?_
                        cases h
                        exact .ret (fin_gen0 none)
                      · replace h := (if_neg (nt hc403)).symm.trans h
                        refine .skip ?_
                        refine .region ?_
                        refine .val ?_
                        refine .move ?_
                        refine .nil ?_
                        exact ⟨m386, _, Nat.lt_succ_self m386, ⟨_, rfl, h⟩, (imp_of (.cons rfl (.cons rfl (.cons rfl (.cons rfl (.cons rfl (.cons rfl (.cons rfl (.cons rfl (.cons rfl (.nil)))))))))) (.nil))⟩
                · replace h := (if_neg (nt hc388)).symm.trans h
                  refine .exit (.hit ?_)
                  exact ⟨_, ⟨rfl, h⟩, (imp_of (.cons rfl (.cons rfl (.cons rfl (.cons rfl (.cons rfl (.nil)))))) (.nil))⟩
              · rintro T ⟨rfl, h⟩
                subst hj350
                refine .region ?_
                refine .val ?_
                refine .move ?_
                refine .nil ?_
                exact ⟨m296, _, Nat.lt_succ_self m296, ⟨_, rfl, h⟩, (imp_of (.cons rfl (.cons rfl (.cons rfl (.cons rfl (.cons rfl (.nil)))))) (.nil))⟩
            · replace h := (if_neg (nt hc298)).symm.trans h
              refine .exit (.hit ?_)
              exact ⟨_, ⟨rfl, h⟩, (imp_of (.nil) (.nil))⟩
          · rintro T ⟨rfl, h⟩
            subst hj183
            refine .seq ?_
            refine .region ?_
            refine .assign ?_
            refine .nil ?_
            cases h
            exact .ret (fin_gen0 none)

/- soundservice/soundservicelaw40.JournalReads -/
def f12_l1 (n : Nat) (a1 : (List Int)) (y7 : ((List (List Int)) × (List Int))) (v13 : (List Int)) (j172 : Unit → Option Bool) (x180 : (List Int)) (x183 : (List Int)) (x186 : (List Int)) : Nat → Int → Option Bool
  | 0, _ => none
  | m281 + 1, v233 =>
    if decide (v233 < (([y7.2, v13, x180, a1, x183, x186] : List (List Int)).length : Int)) then (
    (lAt ([y7.2, v13, x180, a1, x183, x186] : List (List Int)) v233).bind fun x306 =>
    (f48 n x306).bind fun y307 =>
    (f49 n x306).bind fun y308 =>
    joinK (fun (_ : Unit) =>
    some false) fun j315 =>
    joinK (fun (_ : Unit) =>
    some false) fun j316 =>
    joinK (fun (v317 : Bool) =>
    some false) fun j318 =>
    joinK (fun (v319 : Bool) (v320 : (List Int)) (v321 : ByteArray) (v322 : (List Int)) (v323 : ByteArray) (v324 : Bool) (v325 : Bool) =>
    if v325 then (
    some false)
    else (
    f12_l1 n a1 y7 v13 j172 x180 x183 x186 m281 (w64 (v233 + (1 : Int))))) fun j326 =>
    if (y307.2.1 != y308.2.1) then (
    j315 ())
    else (
    if (y307.2.2 != y308.2.2) then (
    j316 ())
    else (
    (f50 n y307.1 y308.1).bind fun y329 =>
    if !y329 then (
    j318 y329)
    else (
    (f51 n x306).bind fun y331 =>
    (f52 n x306).bind fun y332 =>
    j326 y329 y331 (mkStr y331) y332 (mkStr y332) (!(sEq (mkStr y331) (mkStr y332))) (!(sEq (mkStr y331) (mkStr y332)))))))
    else (
    j172 ())
def f12 (n : Nat) (a0 : (List Int)) (a1 : (List Int)) (a2 : Int) (a3 : Int) : Option Bool :=
  (f43 n ).bind fun y3 =>
  if !y3 then (
  some false)
  else (
  if decide ((a1.length : Int) > (200 : Int)) then (
  some true)
  else (
  (f44 n a0).bind fun y7 =>
  (lApp ([] : List Int) y7.2).bind fun x9 =>
  (f45 n a2 (w64 ((y7.2.length : Int) + (1 : Int)))).bind fun y10 =>
  joinK (fun (v13 : (List Int)) =>
  joinK (fun (_ : Unit) =>
  some true) fun j172 =>
  (lPart y7.2 (0 : Int) y10).bind fun x180 =>
  (lApp ([] : List Int) y7.2).bind fun x182 =>
  (lApp x182 a1).bind fun x183 =>
  (lApp ([] : List Int) y7.2).bind fun x185 =>
  (lApp x185 ([255, 255, 0, 0, 0, 0, 0, 0, 0, 0, 1] : List Int)).bind fun x186 =>
  f12_l1 n a1 y7 v13 j172 x180 x183 x186 n 0) fun j15 =>
  if decide (y10 < (x9.length : Int)) then (
  (lAt x9 y10).bind fun x17 =>
  j15 (x9.set (y10 : Int).toNat a3))
  else (
  j15 x9)))
set_option maxHeartbeats 4000000 in
set_option maxRecDepth 100000 in
theorem g12 {n : Nat} {a0 : (List Int)} {a1 : (List Int)} {a2 : Int} {a3 : Int} {r : Bool} (h : f12 n a0 a1 a2 a3 = some r) :
    Ab.Can Try.prog 12 [.sl 3 .ro (a0.map (PV.int .i64)), .sl 5 .ro (a1.map (PV.int .u8)), .int .i64 a2, .int .u8 a3] H0 (.bool r) H0 := by
  refine can_of tabOK mix Try.call12 Try.func12 rfl (by kernel_rfl) (by show _ ≤ 105; simp) fun _ => ?_
  rw [f12] at h
  refine .seq ?_
  refine .region ?_
  refine .assign ?_
  refine .nil ?_
  refine .seq ?_
  refine .seq ?_
  refine .region ?_
  obtain ⟨y3, hy3, h⟩ := bindE h
  refine .cP (g43 hy3) ?_
  refine .val ?_
  refine .nil ?_
  refine .cond (fun hc4 => ?_) (fun hc4 => ?_)
  · replace h := (if_pos hc4).symm.trans h
    refine .seq ?_
    refine .region ?_
    refine .assign ?_
    refine .nil ?_
    cases h
    exact .ret (fin_gen0 none)
  · replace h := (if_neg (nt hc4)).symm.trans h
    refine .skip ?_
    refine .seq ?_
    refine .seq ?_
    refine .region ?_
    refine .move ?_
    refine .lenL (f := (PV.int .u8)) ?_
    refine .val ?_
    refine .nil ?_
    refine .cond (fun hc6 => ?_) (fun hc6 => ?_)
    · replace h := (if_pos hc6).symm.trans h
      refine .seq ?_
      refine .region ?_
      refine .assign ?_
      refine .nil ?_
      cases h
      exact .ret (fin_gen0 none)
    · replace h := (if_neg (nt hc6)).symm.trans h
      refine .skip ?_
      refine .seq ?_
      refine .region ?_
      refine .move ?_
      obtain ⟨y7, hy7, h⟩ := bindE h
      refine .cP (g44r hy7) ?_
      refine .move ?_
      refine .val ?_
      refine .val ?_
      refine .assign ?_
      refine .assign ?_
      refine .nil ?_
      refine .seq ?_
      refine .region ?_
      refine .litE (.row 8008 0) ?_
      refine .move ?_
      obtain ⟨x9, hx9, h⟩ := bindE h
      refine .appL (f := (PV.int .u8)) hx9 ?_
      refine .assign ?_
      refine .nil ?_
      refine .seq ?_
      refine .region ?_
      refine .move ?_
      refine .move ?_
      refine .lenL (f := (PV.int .u8)) ?_
      refine .val ?_
      obtain ⟨y10, hy10, h⟩ := bindE h
      refine .cP (g45 hy10) ?_
      refine .assign ?_
      refine .nil ?_
      obtain ⟨j15, hj15, h⟩ := joinE h
      refine .cutI (fun T => (∃ (v13 : (List Int)), T = St.of [(1, .sl 5 .ro (a1.map (PV.int .u8))), (10, .sl 5 .ro (y7.2.map (PV.int .u8))), (11, .sl 5 (.own (.row 9014 0)) (v13.map (PV.int .u8))), (12, .int .i64 y10)] [] ∧ j15 v13 = some r)) ?_ ?_
      · refine .seq ?_
        refine .region ?_
        refine .move ?_
        refine .move ?_
        refine .lenL (f := (PV.int .u8)) ?_
        refine .val ?_
        refine .nil ?_
        refine .imp (T := St.of [(1, .sl 5 .ro (a1.map (PV.int .u8))), (3, .int .u8 a3), (10, .sl 5 .ro (y7.2.map (PV.int .u8))), (11, .sl 5 (.own (.row 6 2)) (x9.map (PV.int .u8))), (12, .int .i64 y10), (42, .bool (decide (y10 < (x9.length : Int))))] []) (imp_of (.cons rfl (.cons rfl (.cons rfl (.cons rfl (.cons rfl (.cons rfl (.nil))))))) (.nil)) ?_
        refine .cond (fun hc16 => ?_) (fun hc16 => ?_)
        · replace h := (if_pos hc16).symm.trans h
          refine .region ?_
          refine .move ?_
          refine .move ?_
          refine .move ?_
          obtain ⟨x17, hx17, h⟩ := bindE h
          refine .idxL (f := (PV.int .u8)) hx17 ?_
          refine .stL hx17 (z' := a3) ?_
          refine .now 11 (congrArg (PV.sl 5 (.own (.row 6 2))) (List.map_set (f := (PV.int .u8))).symm) ?_
          refine .now 43 (congrArg (PV.sl 5 (.own (.row 6 2))) (List.map_set (f := (PV.int .u8))).symm) ?_
          refine .nil ?_
          exact ⟨_, ⟨_, rfl, h⟩, (Imp.trans (Imp.swap (.row 6 2) (.row 9014 0) rfl rfl rfl) (imp_of (.cons rfl (.cons rfl (.cons rfl (.cons rfl (.nil))))) (.nil)))⟩
        · replace h := (if_neg (nt hc16)).symm.trans h
          refine .skip ?_
          exact ⟨_, ⟨_, rfl, h⟩, (Imp.trans (Imp.swap (.row 6 2) (.row 9014 0) rfl rfl rfl) (imp_of (.cons rfl (.cons rfl (.cons rfl (.cons rfl (.nil))))) (.nil)))⟩
      · rintro T ⟨v13, rfl, h⟩
        subst hj15
        obtain ⟨j172, hj172, h⟩ := joinE h
        refine .cutI (fun T => (T = St.of [] [] ∧ j172 () = some r)) ?_ ?_
        · refine .seq ?_
          refine .freeze (.row 9014 0) ?_
          obtain ⟨x180, hx180, h⟩ := bindE h
          obtain ⟨x182, hx182, h⟩ := bindE h
          obtain ⟨x183, hx183, h⟩ := bindE h
          obtain ⟨x185, hx185, h⟩ := bindE h
          obtain ⟨x186, hx186, h⟩ := bindE h
          refine .draw [8, 10, 13, 15, 16] [[], [], [], [], [], [], [], [], [], [], [8], [], [], [8, 10], [], [8, 10, 13], [8, 10, 13, 15], [8, 10, 13, 15, 16], []] [[16], [16], [16], [16], [16], [16], [8, 10, 13, 15, 16], [8, 10, 13, 15, 16], [10, 13, 15, 16], [10, 13, 15, 16], [13, 15, 16], [13, 15, 16], [13, 15, 16], [15, 16], [15, 16], [16], [], [], []] [[], [8], [8, 10], [8, 10, 13], [8, 10, 13, 15], [8, 10, 13, 15, 16]]
            [(0, 0), (0, 1), (0, 2), (0, 3), (0, 4), (1, 0), (1, 1), (1, 2), (1, 3), (1, 4), (2, 0), (2, 1), (2, 2), (2, 3), (2, 4), (3, 0), (3, 1), (3, 2), (3, 3), (3, 4), (4, 0), (4, 1), (4, 2), (4, 3), (4, 4), (5, 0), (5, 1), (5, 2), (5, 3), (5, 4), (6, 0), (7, 0), (9, 0), (9, 1), (11, 0), (11, 1), (11, 2), (12, 0), (12, 1), (12, 2), (14, 0), (14, 1), (14, 2), (14, 3), (17, 5), (18, 0), (18, 1), (18, 2), (18, 3), (18, 4), (18, 5)] [(0, 8, 1), (1, 10, 2), (2, 13, 3), (3, 15, 4), (4, 16, 5)] 5
            [⟨[(47, .sl 5 .ro (y7.2.map (PV.int .u8))), (48, .sl 5 .ro (v13.map (PV.int .u8))), (49, .sl 5 .ro (y7.2.map (PV.int .u8))), (50, .int .i64 y10), (51, .sl 5 .ro (x180.map (PV.int .u8))), (52, .sl 5 .ro (a1.map (PV.int .u8))), (53, .sl 5 (.own (.row 8181 0)) (([] : List Int).map (PV.int .u8))), (54, .sl 5 .ro (y7.2.map (PV.int .u8))), (56, .sl 5 .ro (a1.map (PV.int .u8))), (58, .sl 5 (.own (.row 8184 0)) (([] : List Int).map (PV.int .u8))), (59, .sl 5 .ro (y7.2.map (PV.int .u8))), (61, .sl 5 .ro (([255, 255, 0, 0, 0, 0, 0, 0, 0, 0, 1] : List Int).map (PV.int .u8))), (65, .int .i64 0), (1, .sl 5 .ro (a1.map (PV.int .u8))), (10, .sl 5 .ro (y7.2.map (PV.int .u8))), (11, .sl 5 .ro (v13.map (PV.int .u8))), (12, .int .i64 y10)], [], []⟩,
            ⟨[(47, .sl 5 .ro (y7.2.map (PV.int .u8))), (48, .sl 5 .ro (v13.map (PV.int .u8))), (49, .sl 5 .ro (y7.2.map (PV.int .u8))), (50, .int .i64 y10), (51, .sl 5 .ro (x180.map (PV.int .u8))), (52, .sl 5 .ro (a1.map (PV.int .u8))), (53, .dead), (54, .sl 5 .ro (y7.2.map (PV.int .u8))), (55, .sl 5 (.own (.row 10 8)) (x182.map (PV.int .u8))), (56, .sl 5 .ro (a1.map (PV.int .u8))), (58, .sl 5 (.own (.row 8184 0)) (([] : List Int).map (PV.int .u8))), (59, .sl 5 .ro (y7.2.map (PV.int .u8))), (61, .sl 5 .ro (([255, 255, 0, 0, 0, 0, 0, 0, 0, 0, 1] : List Int).map (PV.int .u8))), (65, .int .i64 0), (1, .sl 5 .ro (a1.map (PV.int .u8))), (10, .sl 5 .ro (y7.2.map (PV.int .u8))), (11, .sl 5 .ro (v13.map (PV.int .u8))), (12, .int .i64 y10)], [], []⟩,
            ⟨[(47, .sl 5 .ro (y7.2.map (PV.int .u8))), (48, .sl 5 .ro (v13.map (PV.int .u8))), (49, .sl 5 .ro (y7.2.map (PV.int .u8))), (50, .int .i64 y10), (51, .sl 5 .ro (x180.map (PV.int .u8))), (52, .sl 5 .ro (a1.map (PV.int .u8))), (53, .dead), (54, .sl 5 .ro (y7.2.map (PV.int .u8))), (55, .dead), (56, .sl 5 .ro (a1.map (PV.int .u8))), (57, .sl 5 (.own (.row 10 10)) (x183.map (PV.int .u8))), (58, .sl 5 (.own (.row 8184 0)) (([] : List Int).map (PV.int .u8))), (59, .sl 5 .ro (y7.2.map (PV.int .u8))), (61, .sl 5 .ro (([255, 255, 0, 0, 0, 0, 0, 0, 0, 0, 1] : List Int).map (PV.int .u8))), (65, .int .i64 0), (1, .sl 5 .ro (a1.map (PV.int .u8))), (10, .sl 5 .ro (y7.2.map (PV.int .u8))), (11, .sl 5 .ro (v13.map (PV.int .u8))), (12, .int .i64 y10)], [], []⟩,
            ⟨[(47, .sl 5 .ro (y7.2.map (PV.int .u8))), (48, .sl 5 .ro (v13.map (PV.int .u8))), (49, .sl 5 .ro (y7.2.map (PV.int .u8))), (50, .int .i64 y10), (51, .sl 5 .ro (x180.map (PV.int .u8))), (52, .sl 5 .ro (a1.map (PV.int .u8))), (53, .dead), (54, .sl 5 .ro (y7.2.map (PV.int .u8))), (55, .dead), (56, .sl 5 .ro (a1.map (PV.int .u8))), (57, .sl 5 (.own (.row 10 10)) (x183.map (PV.int .u8))), (58, .dead), (59, .sl 5 .ro (y7.2.map (PV.int .u8))), (60, .sl 5 (.own (.row 10 13)) (x185.map (PV.int .u8))), (61, .sl 5 .ro (([255, 255, 0, 0, 0, 0, 0, 0, 0, 0, 1] : List Int).map (PV.int .u8))), (65, .int .i64 0), (1, .sl 5 .ro (a1.map (PV.int .u8))), (10, .sl 5 .ro (y7.2.map (PV.int .u8))), (11, .sl 5 .ro (v13.map (PV.int .u8))), (12, .int .i64 y10)], [], []⟩,
            ⟨[(47, .sl 5 .ro (y7.2.map (PV.int .u8))), (48, .sl 5 .ro (v13.map (PV.int .u8))), (49, .sl 5 .ro (y7.2.map (PV.int .u8))), (50, .int .i64 y10), (51, .sl 5 .ro (x180.map (PV.int .u8))), (52, .sl 5 .ro (a1.map (PV.int .u8))), (53, .dead), (54, .sl 5 .ro (y7.2.map (PV.int .u8))), (55, .dead), (56, .sl 5 .ro (a1.map (PV.int .u8))), (57, .sl 5 (.own (.row 10 10)) (x183.map (PV.int .u8))), (58, .dead), (59, .sl 5 .ro (y7.2.map (PV.int .u8))), (60, .dead), (61, .sl 5 .ro (([255, 255, 0, 0, 0, 0, 0, 0, 0, 0, 1] : List Int).map (PV.int .u8))), (62, .sl 5 (.own (.row 10 15)) (x186.map (PV.int .u8))), (65, .int .i64 0), (1, .sl 5 .ro (a1.map (PV.int .u8))), (10, .sl 5 .ro (y7.2.map (PV.int .u8))), (11, .sl 5 .ro (v13.map (PV.int .u8))), (12, .int .i64 y10)], [], []⟩,
            ⟨[(47, .sl 5 .ro (y7.2.map (PV.int .u8))), (48, .sl 5 .ro (v13.map (PV.int .u8))), (49, .sl 5 .ro (y7.2.map (PV.int .u8))), (50, .int .i64 y10), (51, .sl 5 .ro (x180.map (PV.int .u8))), (52, .sl 5 .ro (a1.map (PV.int .u8))), (53, .dead), (54, .sl 5 .ro (y7.2.map (PV.int .u8))), (55, .dead), (56, .sl 5 .ro (a1.map (PV.int .u8))), (57, .sl 5 .ro (x183.map (PV.int .u8))), (58, .dead), (59, .sl 5 .ro (y7.2.map (PV.int .u8))), (60, .dead), (61, .sl 5 .ro (([255, 255, 0, 0, 0, 0, 0, 0, 0, 0, 1] : List Int).map (PV.int .u8))), (62, .sl 5 .ro (x186.map (PV.int .u8))), (63, .sl 22 .ro (([y7.2, v13, x180, a1, x183, x186] : List (List Int)).map pv22)), (64, .int .i64 (([y7.2, v13, x180, a1, x183, x186] : List (List Int)).length : Int)), (65, .int .i64 0), (1, .sl 5 .ro (a1.map (PV.int .u8))), (10, .sl 5 .ro (y7.2.map (PV.int .u8))), (11, .sl 5 .ro (v13.map (PV.int .u8))), (12, .int .i64 y10)], [], []⟩]
            [(1, .sl 5 .ro (a1.map (PV.int .u8))), (10, .sl 5 .ro (y7.2.map (PV.int .u8))), (11, .sl 5 .ro (v13.map (PV.int .u8))), (12, .int .i64 y10)]
            (.cons [10] [] (fun _ _ h => .move (h _)) rfl rfl <|
            .cons [10] [] (fun _ _ h => .move (h _)) rfl rfl <|
            .cons [10] [] (fun _ _ h => .move (h _)) rfl rfl <|
            .cons [10] [] (fun _ _ h => .move (h _)) rfl rfl <|
            .cons [10] [] (fun _ _ h => .move (h _)) rfl rfl <|
            .cons [11] [] (fun _ _ h => .move (h _)) rfl rfl <|
            .cons [11] [] (fun _ _ h => .move (h _)) rfl rfl <|
            .cons [11] [] (fun _ _ h => .move (h _)) rfl rfl <|
            .cons [11] [] (fun _ _ h => .move (h _)) rfl rfl <|
            .cons [11] [] (fun _ _ h => .move (h _)) rfl rfl <|
            .cons [10] [] (fun _ _ h => .move (h _)) rfl rfl <|
            .cons [10] [] (fun _ _ h => .move (h _)) rfl rfl <|
            .cons [10] [] (fun _ _ h => .move (h _)) rfl rfl <|
            .cons [10] [] (fun _ _ h => .move (h _)) rfl rfl <|
            .cons [10] [] (fun _ _ h => .move (h _)) rfl rfl <|
            .cons [12] [] (fun _ _ h => .move (h _)) rfl rfl <|
            .cons [12] [] (fun _ _ h => .move (h _)) rfl rfl <|
            .cons [12] [] (fun _ _ h => .move (h _)) rfl rfl <|
            .cons [12] [] (fun _ _ h => .move (h _)) rfl rfl <|
            .cons [12] [] (fun _ _ h => .move (h _)) rfl rfl <|
            .cons [49, 50] [] (fun _ _ h => .partL (f := (PV.int .u8)) hx180 (h _)) rfl rfl <|
            .cons [49, 50] [] (fun _ _ h => .partL (f := (PV.int .u8)) hx180 (h _)) rfl rfl <|
            .cons [49, 50] [] (fun _ _ h => .partL (f := (PV.int .u8)) hx180 (h _)) rfl rfl <|
            .cons [49, 50] [] (fun _ _ h => .partL (f := (PV.int .u8)) hx180 (h _)) rfl rfl <|
            .cons [49, 50] [] (fun _ _ h => .partL (f := (PV.int .u8)) hx180 (h _)) rfl rfl <|
            .cons [1] [] (fun _ _ h => .move (h _)) rfl rfl <|
            .cons [1] [] (fun _ _ h => .move (h _)) rfl rfl <|
            .cons [1] [] (fun _ _ h => .move (h _)) rfl rfl <|
            .cons [1] [] (fun _ _ h => .move (h _)) rfl rfl <|
            .cons [1] [] (fun _ _ h => .move (h _)) rfl rfl <|
            .cons [] [] (fun _ _ h => .litE (.row 8181 0) (h _)) rfl rfl <|
            .cons [10] [] (fun _ _ h => .move (h _)) rfl rfl <|
            .cons [1] [] (fun _ _ h => .move (h _)) rfl rfl <|
            .cons [1] [] (fun _ _ h => .move (h _)) rfl rfl <|
            .cons [] [] (fun _ _ h => .litE (.row 8184 0) (h _)) rfl rfl <|
            .cons [] [] (fun _ _ h => .litE (.row 8184 0) (h _)) rfl rfl <|
            .cons [] [] (fun _ _ h => .litE (.row 8184 0) (h _)) rfl rfl <|
            .cons [10] [] (fun _ _ h => .move (h _)) rfl rfl <|
            .cons [10] [] (fun _ _ h => .move (h _)) rfl rfl <|
            .cons [10] [] (fun _ _ h => .move (h _)) rfl rfl <|
            .cons [] [] (fun _ _ h => .litR (f := (PV.int .u8)) ([255, 255, 0, 0, 0, 0, 0, 0, 0, 0, 1] : List Int) (h _)) rfl rfl <|
            .cons [] [] (fun _ _ h => .litR (f := (PV.int .u8)) ([255, 255, 0, 0, 0, 0, 0, 0, 0, 0, 1] : List Int) (h _)) rfl rfl <|
            .cons [] [] (fun _ _ h => .litR (f := (PV.int .u8)) ([255, 255, 0, 0, 0, 0, 0, 0, 0, 0, 1] : List Int) (h _)) rfl rfl <|
            .cons [] [] (fun _ _ h => .litR (f := (PV.int .u8)) ([255, 255, 0, 0, 0, 0, 0, 0, 0, 0, 1] : List Int) (h _)) rfl rfl <|
            .cons [63] [] (fun _ _ h => .lenL (f := pv22) (h _)) rfl rfl <|
            .cons [] [] (fun _ _ h => .move (h _)) rfl rfl <|
            .cons [] [] (fun _ _ h => .move (h _)) rfl rfl <|
            .cons [] [] (fun _ _ h => .move (h _)) rfl rfl <|
            .cons [] [] (fun _ _ h => .move (h _)) rfl rfl <|
            .cons [] [] (fun _ _ h => .move (h _)) rfl rfl <|
            .cons [] [] (fun _ _ h => .move (h _)) rfl rfl <|
            .nil)
            (.cons (PV.sub (twoSub (.row 8181 0) .kill (.row 10 8) .frz)) [53, 54] [] (fun _ _ h => .appL (f := (PV.int .u8)) hx182 (h _ _ (.nil))) rfl (.old rfl (.old rfl (.old rfl (.old rfl (.old rfl (.old rfl (.old rfl (.old rfl (.new rfl (.old rfl (.old rfl (.old rfl (.old rfl (.old rfl (.old rfl (.old rfl (.old rfl (.old rfl (.nil))))))))))))))))))) rfl rfl <|
            .cons (PV.sub (twoSub (.row 10 8) .kill (.row 10 10) .frz)) [55, 56] [] (fun _ _ h => .appL (f := (PV.int .u8)) hx183 (h _ _ (.nil))) rfl (.old rfl (.old rfl (.old rfl (.old rfl (.old rfl (.old rfl (.old rfl (.old rfl (.old rfl (.old rfl (.new rfl (.old rfl (.old rfl (.old rfl (.old rfl (.old rfl (.old rfl (.old rfl (.old rfl (.nil)))))))))))))))))))) rfl rfl <|
            .cons (PV.sub (twoSub (.row 8184 0) .kill (.row 10 13) .frz)) [58, 59] [] (fun _ _ h => .appL (f := (PV.int .u8)) hx185 (h _ _ (.nil))) rfl (.old rfl (.old rfl (.old rfl (.old rfl (.old rfl (.old rfl (.old rfl (.old rfl (.old rfl (.old rfl (.old rfl (.old rfl (.old rfl (.new rfl (.old rfl (.old rfl (.old rfl (.old rfl (.old rfl (.old rfl (.nil))))))))))))))))))))) rfl rfl <|
            .cons (PV.sub (twoSub (.row 10 13) .kill (.row 10 15) .frz)) [60, 61] [] (fun _ _ h => .appL (f := (PV.int .u8)) hx186 (h _ _ (.nil))) rfl (.old rfl (.old rfl (.old rfl (.old rfl (.old rfl (.old rfl (.old rfl (.old rfl (.old rfl (.old rfl (.old rfl (.old rfl (.old rfl (.old rfl (.old rfl (.new rfl (.old rfl (.old rfl (.old rfl (.old rfl (.old rfl (.nil)))))))))))))))))))))) rfl rfl <|
            .cons (fun p => (fun p => (fun x => x) (PV.sub (oneSub (.row 10 15) .frz) p)) (PV.sub (oneSub (.row 10 10) .frz) p)) [47, 48, 51, 52, 57, 62] [] (fun _ _ h => .freeze (.row 10 10) (.freeze (.row 10 15) (.litR (f := pv22) ([y7.2, v13, x180, a1, x183, x186] : List (List Int)) (h _ _ (.nil))))) rfl (.old rfl (.old rfl (.old rfl (.old rfl (.old rfl (.old rfl (.old rfl (.old rfl (.old rfl (.old rfl (.old rfl (.old rfl (.old rfl (.old rfl (.old rfl (.old rfl (.new rfl (.new rfl (.old rfl (.old rfl (.old rfl (.old rfl (.old rfl (.nil)))))))))))))))))))))))) rfl rfl <|
            .nil)
            (by kernel_rfl) rfl (.cons rfl (.cons rfl (.cons rfl (.cons rfl (.nil))))) (.nil) (.nil) ?_
          refine .imp (T := St.of [(63, .sl 22 .ro (([y7.2, v13, x180, a1, x183, x186] : List (List Int)).map pv22)), (64, .int .i64 (([y7.2, v13, x180, a1, x183, x186] : List (List Int)).length : Int)), (65, .int .i64 0)] []) (imp_of (.cons rfl (.cons rfl (.cons rfl (.nil)))) (.nil)) ?_
          refine .block ?_
          refine .loopI (fun m T => ∃ (v233 : Int), T = St.of [(63, .sl 22 .ro (([y7.2, v13, x180, a1, x183, x186] : List (List Int)).map pv22)), (64, .int .i64 (([y7.2, v13, x180, a1, x183, x186] : List (List Int)).length : Int)), (65, .int .i64 v233)] [] ∧ f12_l1 n a1 y7 v13 j172 x180 x183 x186 m v233 = some r) _ _ ⟨_, rfl, h⟩ (imp_of (.cons rfl (.cons rfl (.cons rfl (.nil)))) (.nil)) ?_
          rintro m281 T ⟨v233, rfl, h⟩
          obtain _ | m281 := m281
          · rw [f12_l1] at h; cases h
          rw [f12_l1] at h
          refine .seq ?_
          refine .region ?_
          refine .val ?_
          refine .nil ?_
          refine .seq ?_
          refine .cond (fun hc283 => ?_) (fun hc283 => ?_)
          · replace h := (if_pos hc283).symm.trans h
            refine .skip ?_
            refine .seq ?_
            refine .block ?_
            refine .seq ?_
            refine .region ?_
            obtain ⟨x306, hx306, h⟩ := bindE h
            refine .idxL (f := pv22) hx306 ?_
            refine .ldL hx306 (y := .sl 5 .ro (x306.map (PV.int .u8))) ?_
            refine .assign ?_
            refine .nil ?_
            refine .seq ?_
            refine .region ?_
            refine .move ?_
            obtain ⟨y307, hy307, h⟩ := bindE h
            refine .cP (g48r hy307) ?_
            refine .move ?_
            refine .val ?_
            refine .val ?_
            refine .val ?_
            refine .assign ?_
            refine .assign ?_
            refine .assign ?_
            refine .nil ?_
            refine .seq ?_
            refine .region ?_
            refine .move ?_
            obtain ⟨y308, hy308, h⟩ := bindE h
            refine .cP (g49r hy308) ?_
            refine .move ?_
            refine .val ?_
            refine .val ?_
            refine .val ?_
            refine .assign ?_
            refine .assign ?_
            refine .assign ?_
            refine .nil ?_
            obtain ⟨j315, hj315, h⟩ := joinE h
            obtain ⟨j316, hj316, h⟩ := joinE h
            obtain ⟨j318, hj318, h⟩ := joinE h
            obtain ⟨j326, hj326, h⟩ := joinE h
            refine .cutI (fun T => (T = St.of [(63, .sl 22 .ro (([y7.2, v13, x180, a1, x183, x186] : List (List Int)).map pv22)), (64, .int .i64 (([y7.2, v13, x180, a1, x183, x186] : List (List Int)).length : Int)), (65, .int .i64 v233), (85, .tup []), (86, .tup []), (87, .tup []), (90, .tup []), (91, .tup []), (92, .tup []), (93, .tup []), (96, .tup []), (97, .tup []), (98, .tup []), (99, .tup []), (100, .tup []), (101, .tup []), (102, .tup []), (103, .bool true)] [] ∧ j315 () = some r) ∨ (T = St.of [(63, .sl 22 .ro (([y7.2, v13, x180, a1, x183, x186] : List (List Int)).map pv22)), (64, .int .i64 (([y7.2, v13, x180, a1, x183, x186] : List (List Int)).length : Int)), (65, .int .i64 v233), (85, .int .i64 y307.2.2), (86, .int .i64 y308.2.2), (87, .bool true), (90, .tup []), (91, .tup []), (92, .tup []), (93, .tup []), (96, .tup []), (97, .tup []), (98, .tup []), (99, .tup []), (100, .tup []), (101, .tup []), (102, .tup []), (103, .bool true)] [] ∧ j316 () = some r) ∨ (∃ (v317 : Bool), T = St.of [(63, .sl 22 .ro (([y7.2, v13, x180, a1, x183, x186] : List (List Int)).map pv22)), (64, .int .i64 (([y7.2, v13, x180, a1, x183, x186] : List (List Int)).length : Int)), (65, .int .i64 v233), (85, .int .i64 y307.2.2), (86, .int .i64 y308.2.2), (87, .bool false), (90, .sl 22 .ro (y307.1.map pv22)), (91, .sl 22 .ro (y308.1.map pv22)), (92, .bool v317), (93, .bool true), (96, .tup []), (97, .tup []), (98, .tup []), (99, .tup []), (100, .tup []), (101, .tup []), (102, .tup []), (103, .bool true)] [] ∧ j318 v317 = some r) ∨ (∃ (v319 : Bool) (v320 : (List Int)) (v321 : ByteArray) (v322 : (List Int)) (v323 : ByteArray) (v324 : Bool) (v325 : Bool), T = St.of [(63, .sl 22 .ro (([y7.2, v13, x180, a1, x183, x186] : List (List Int)).map pv22)), (64, .int .i64 (([y7.2, v13, x180, a1, x183, x186] : List (List Int)).length : Int)), (65, .int .i64 v233), (85, .int .i64 y307.2.2), (86, .int .i64 y308.2.2), (87, .bool false), (90, .sl 22 .ro (y307.1.map pv22)), (91, .sl 22 .ro (y308.1.map pv22)), (92, .bool v319), (93, .bool false), (96, .sl 5 .ro (x306.map (PV.int .u8))), (97, .sl 5 .ro (v320.map (PV.int .u8))), (98, .str v321), (99, .sl 5 .ro (x306.map (PV.int .u8))), (100, .sl 5 .ro (v322.map (PV.int .u8))), (101, .str v323), (102, .bool v324), (103, .bool v325)] [] ∧ j326 v319 v320 v321 v322 v323 v324 v325 = some r)) ?_ ?_
            · rcases bool_em ((y307.2.1 != y308.2.1)) with hc327 | hc327
              · replace h := (if_pos hc327).symm.trans h
                refine .draw [] [[], [], [], [], [], [], [], [], [], [], [], [], [], [], [], [], [], [], [], [], [], [], []] [[], [], [], [], [], [], [], [], [], [], [], [], [], [], [], [], [], [], [], [], [], [], []] [[]]
                  [(0, 0), (1, 0), (2, 0), (3, 0), (4, 0), (5, 0), (6, 0), (7, 0), (8, 0), (9, 0), (10, 0), (11, 0), (12, 0), (13, 0), (14, 0), (15, 0), (16, 0), (17, 0), (18, 0), (19, 0), (20, 0), (21, 0), (22, 0)] [] 0
                  [⟨[(81, .int .i64 y307.2.1), (82, .int .i64 y308.2.1), (83, .bool true), (84, .bool true), (85, .tup []), (86, .tup []), (87, .tup []), (88, .bool true), (89, .bool true), (90, .tup []), (91, .tup []), (92, .tup []), (93, .tup []), (94, .bool true), (95, .bool true), (96, .tup []), (97, .tup []), (98, .tup []), (99, .tup []), (100, .tup []), (101, .tup []), (102, .tup []), (103, .bool true), (14, .sl 5 .ro (x306.map (PV.int .u8))), (15, .sl 22 .ro (y307.1.map pv22)), (16, .int .i64 y307.2.1), (17, .int .i64 y307.2.2), (18, .sl 22 .ro (y308.1.map pv22)), (19, .int .i64 y308.2.1), (20, .int .i64 y308.2.2), (63, .sl 22 .ro (([y7.2, v13, x180, a1, x183, x186] : List (List Int)).map pv22)), (64, .int .i64 (([y7.2, v13, x180, a1, x183, x186] : List (List Int)).length : Int)), (65, .int .i64 v233)], [], []⟩]
                  [(14, .sl 5 .ro (x306.map (PV.int .u8))), (15, .sl 22 .ro (y307.1.map pv22)), (16, .int .i64 y307.2.1), (17, .int .i64 y307.2.2), (18, .sl 22 .ro (y308.1.map pv22)), (19, .int .i64 y308.2.1), (20, .int .i64 y308.2.2), (63, .sl 22 .ro (([y7.2, v13, x180, a1, x183, x186] : List (List Int)).map pv22)), (64, .int .i64 (([y7.2, v13, x180, a1, x183, x186] : List (List Int)).length : Int)), (65, .int .i64 v233)]
                  (.cons [16] [] (fun _ _ h => .move (h _)) rfl rfl <|
                  .cons [19] [] (fun _ _ h => .move (h _)) rfl rfl <|
                  .cons [81, 82] [] (fun _ _ h => .valB hc327 (h _)) rfl rfl <|
                  .cons [83] [] (fun _ _ h => .move (h _)) rfl rfl <|
                  .cons [84] [] (fun _ _ h => .skip (h _)) rfl rfl <|
                  .cons [84] [] (fun _ _ h => .skip (h _)) rfl rfl <|
                  .cons [84] [] (fun _ _ h => .skip (h _)) rfl rfl <|
                  .cons [84, 87] [] (fun _ _ h => .brT (h _)) rfl rfl <|
                  .cons [88] [] (fun _ _ h => .move (h _)) rfl rfl <|
                  .cons [89] [] (fun _ _ h => .skip (h _)) rfl rfl <|
                  .cons [89] [] (fun _ _ h => .skip (h _)) rfl rfl <|
                  .cons [89] [] (fun _ _ h => .skip (h _)) rfl rfl <|
                  .cons [89] [] (fun _ _ h => .skip (h _)) rfl rfl <|
                  .cons [89, 93] [] (fun _ _ h => .brT (h _)) rfl rfl <|
                  .cons [94] [] (fun _ _ h => .move (h _)) rfl rfl <|
                  .cons [95] [] (fun _ _ h => .skip (h _)) rfl rfl <|
                  .cons [95] [] (fun _ _ h => .skip (h _)) rfl rfl <|
                  .cons [95] [] (fun _ _ h => .skip (h _)) rfl rfl <|
                  .cons [95] [] (fun _ _ h => .skip (h _)) rfl rfl <|
                  .cons [95] [] (fun _ _ h => .skip (h _)) rfl rfl <|
                  .cons [95] [] (fun _ _ h => .skip (h _)) rfl rfl <|
                  .cons [95] [] (fun _ _ h => .skip (h _)) rfl rfl <|
                  .cons [95, 102] [] (fun _ _ h => .brT (h _)) rfl rfl <|
                  .nil)
                  (.nil)
                  (by kernel_rfl) rfl (.cons rfl (.cons rfl (.cons rfl (.cons rfl (.cons rfl (.cons rfl (.cons rfl (.cons rfl (.cons rfl (.cons rfl (.nil))))))))))) (.nil) (.nil) ?_
                exact ⟨_, (.inl ⟨rfl, h⟩), (imp_of (.cons rfl (.cons rfl (.cons rfl (.cons rfl (.cons rfl (.cons rfl (.cons rfl (.cons rfl (.cons rfl (.cons rfl (.cons rfl (.cons rfl (.cons rfl (.cons rfl (.cons rfl (.cons rfl (.cons rfl (.cons rfl (.nil))))))))))))))))))) (.nil))⟩
              · replace h := (if_neg (nt hc327)).symm.trans h
                rcases bool_em ((y307.2.2 != y308.2.2)) with hc328 | hc328
                · replace h := (if_pos hc328).symm.trans h
                  refine .draw [] [[], [], [], [], [], [], [], [], [], [], [], [], [], [], [], [], [], [], [], [], [], [], []] [[], [], [], [], [], [], [], [], [], [], [], [], [], [], [], [], [], [], [], [], [], [], []] [[]]
                    [(0, 0), (1, 0), (2, 0), (3, 0), (4, 0), (5, 0), (6, 0), (7, 0), (8, 0), (9, 0), (10, 0), (11, 0), (12, 0), (13, 0), (14, 0), (15, 0), (16, 0), (17, 0), (18, 0), (19, 0), (20, 0), (21, 0), (22, 0)] [] 0
                    [⟨[(81, .int .i64 y307.2.1), (82, .int .i64 y308.2.1), (83, .bool false), (84, .bool false), (85, .int .i64 y307.2.2), (86, .int .i64 y308.2.2), (87, .bool true), (88, .bool true), (89, .bool true), (90, .tup []), (91, .tup []), (92, .tup []), (93, .tup []), (94, .bool true), (95, .bool true), (96, .tup []), (97, .tup []), (98, .tup []), (99, .tup []), (100, .tup []), (101, .tup []), (102, .tup []), (103, .bool true), (14, .sl 5 .ro (x306.map (PV.int .u8))), (15, .sl 22 .ro (y307.1.map pv22)), (16, .int .i64 y307.2.1), (17, .int .i64 y307.2.2), (18, .sl 22 .ro (y308.1.map pv22)), (19, .int .i64 y308.2.1), (20, .int .i64 y308.2.2), (63, .sl 22 .ro (([y7.2, v13, x180, a1, x183, x186] : List (List Int)).map pv22)), (64, .int .i64 (([y7.2, v13, x180, a1, x183, x186] : List (List Int)).length : Int)), (65, .int .i64 v233)], [], []⟩]
                    [(14, .sl 5 .ro (x306.map (PV.int .u8))), (15, .sl 22 .ro (y307.1.map pv22)), (16, .int .i64 y307.2.1), (17, .int .i64 y307.2.2), (18, .sl 22 .ro (y308.1.map pv22)), (19, .int .i64 y308.2.1), (20, .int .i64 y308.2.2), (63, .sl 22 .ro (([y7.2, v13, x180, a1, x183, x186] : List (List Int)).map pv22)), (64, .int .i64 (([y7.2, v13, x180, a1, x183, x186] : List (List Int)).length : Int)), (65, .int .i64 v233)]
                    (.cons [16] [] (fun _ _ h => .move (h _)) rfl rfl <|
                    .cons [19] [] (fun _ _ h => .move (h _)) rfl rfl <|
                    .cons [81, 82] [] (fun _ _ h => .valB hc327 (h _)) rfl rfl <|
                    .cons [83] [] (fun _ _ h => .move (h _)) rfl rfl <|
                    .cons [17, 84] [] (fun _ _ h => .move (h _)) rfl rfl <|
                    .cons [20, 84] [] (fun _ _ h => .move (h _)) rfl rfl <|
                    .cons [85, 86, 84] [] (fun _ _ h => .valB hc328 (h _)) rfl rfl <|
                    .cons [84, 87] [] (fun _ _ h => .brF (h _)) rfl rfl <|
                    .cons [88] [] (fun _ _ h => .move (h _)) rfl rfl <|
                    .cons [89] [] (fun _ _ h => .skip (h _)) rfl rfl <|
                    .cons [89] [] (fun _ _ h => .skip (h _)) rfl rfl <|
                    .cons [89] [] (fun _ _ h => .skip (h _)) rfl rfl <|
                    .cons [89] [] (fun _ _ h => .skip (h _)) rfl rfl <|
                    .cons [89, 93] [] (fun _ _ h => .brT (h _)) rfl rfl <|
                    .cons [94] [] (fun _ _ h => .move (h _)) rfl rfl <|
                    .cons [95] [] (fun _ _ h => .skip (h _)) rfl rfl <|
                    .cons [95] [] (fun _ _ h => .skip (h _)) rfl rfl <|
                    .cons [95] [] (fun _ _ h => .skip (h _)) rfl rfl <|
                    .cons [95] [] (fun _ _ h => .skip (h _)) rfl rfl <|
                    .cons [95] [] (fun _ _ h => .skip (h _)) rfl rfl <|
                    .cons [95] [] (fun _ _ h => .skip (h _)) rfl rfl <|
                    .cons [95] [] (fun _ _ h => .skip (h _)) rfl rfl <|
                    .cons [95, 102] [] (fun _ _ h => .brT (h _)) rfl rfl <|
                    .nil)
                    (.nil)
                    (by kernel_rfl) rfl (.cons rfl (.cons rfl (.cons rfl (.cons rfl (.cons rfl (.cons rfl (.cons rfl (.cons rfl (.cons rfl (.cons rfl (.nil))))))))))) (.nil) (.nil) ?_
                  exact ⟨_, (.inr (.inl ⟨rfl, h⟩)), (imp_of (.cons rfl (.cons rfl (.cons rfl (.cons rfl (.cons rfl (.cons rfl (.cons rfl (.cons rfl (.cons rfl (.cons rfl (.cons rfl (.cons rfl (.cons rfl (.cons rfl (.cons rfl (.cons rfl (.cons rfl (.cons rfl (.nil))))))))))))))))))) (.nil))⟩
                · replace h := (if_neg (nt hc328)).symm.trans h
                  obtain ⟨y329, hy329, h⟩ := bindE h
                  rcases bool_em (!y329) with hc330 | hc330
                  · replace h := (if_pos hc330).symm.trans h
                    refine .draw [] [[], [], [], [], [], [], [], [], [], [], [], [], [], [], [], [], [], [], [], [], [], [], []] [[], [], [], [], [], [], [], [], [], [], [], [], [], [], [], [], [], [], [], [], [], [], []] [[]]
                      [(0, 0), (1, 0), (2, 0), (3, 0), (4, 0), (5, 0), (6, 0), (7, 0), (8, 0), (9, 0), (10, 0), (11, 0), (12, 0), (13, 0), (14, 0), (15, 0), (16, 0), (17, 0), (18, 0), (19, 0), (20, 0), (21, 0), (22, 0)] [] 0
                      [⟨[(81, .int .i64 y307.2.1), (82, .int .i64 y308.2.1), (83, .bool false), (84, .bool false), (85, .int .i64 y307.2.2), (86, .int .i64 y308.2.2), (87, .bool false), (88, .bool false), (89, .bool false), (90, .sl 22 .ro (y307.1.map pv22)), (91, .sl 22 .ro (y308.1.map pv22)), (92, .bool y329), (93, .bool true), (94, .bool true), (95, .bool true), (96, .tup []), (97, .tup []), (98, .tup []), (99, .tup []), (100, .tup []), (101, .tup []), (102, .tup []), (103, .bool true), (14, .sl 5 .ro (x306.map (PV.int .u8))), (15, .sl 22 .ro (y307.1.map pv22)), (16, .int .i64 y307.2.1), (17, .int .i64 y307.2.2), (18, .sl 22 .ro (y308.1.map pv22)), (19, .int .i64 y308.2.1), (20, .int .i64 y308.2.2), (63, .sl 22 .ro (([y7.2, v13, x180, a1, x183, x186] : List (List Int)).map pv22)), (64, .int .i64 (([y7.2, v13, x180, a1, x183, x186] : List (List Int)).length : Int)), (65, .int .i64 v233)], [], []⟩]
                      [(14, .sl 5 .ro (x306.map (PV.int .u8))), (15, .sl 22 .ro (y307.1.map pv22)), (16, .int .i64 y307.2.1), (17, .int .i64 y307.2.2), (18, .sl 22 .ro (y308.1.map pv22)), (19, .int .i64 y308.2.1), (20, .int .i64 y308.2.2), (63, .sl 22 .ro (([y7.2, v13, x180, a1, x183, x186] : List (List Int)).map pv22)), (64, .int .i64 (([y7.2, v13, x180, a1, x183, x186] : List (List Int)).length : Int)), (65, .int .i64 v233)]
                      (.cons [16] [] (fun _ _ h => .move (h _)) rfl rfl <|
                      .cons [19] [] (fun _ _ h => .move (h _)) rfl rfl <|
                      .cons [81, 82] [] (fun _ _ h => .valB hc327 (h _)) rfl rfl <|
                      .cons [83] [] (fun _ _ h => .move (h _)) rfl rfl <|
                      .cons [17, 84] [] (fun _ _ h => .move (h _)) rfl rfl <|
                      .cons [20, 84] [] (fun _ _ h => .move (h _)) rfl rfl <|
                      .cons [85, 86, 84] [] (fun _ _ h => .valB hc328 (h _)) rfl rfl <|
                      .cons [84, 87] [] (fun _ _ h => .brF (h _)) rfl rfl <|
                      .cons [88] [] (fun _ _ h => .move (h _)) rfl rfl <|
                      .cons [15, 89] [] (fun _ _ h => .move (h _)) rfl rfl <|
                      .cons [18, 89] [] (fun _ _ h => .move (h _)) rfl rfl <|
                      .cons [90, 91, 89] [] (fun _ _ h => .cP (g50 hy329) (h _)) rfl rfl <|
                      .cons [92, 89] [] (fun _ _ h => .valB hc330 (h _)) rfl rfl <|
                      .cons [89, 93] [] (fun _ _ h => .brF (h _)) rfl rfl <|
                      .cons [94] [] (fun _ _ h => .move (h _)) rfl rfl <|
                      .cons [95] [] (fun _ _ h => .skip (h _)) rfl rfl <|
                      .cons [95] [] (fun _ _ h => .skip (h _)) rfl rfl <|
                      .cons [95] [] (fun _ _ h => .skip (h _)) rfl rfl <|
                      .cons [95] [] (fun _ _ h => .skip (h _)) rfl rfl <|
                      .cons [95] [] (fun _ _ h => .skip (h _)) rfl rfl <|
                      .cons [95] [] (fun _ _ h => .skip (h _)) rfl rfl <|
                      .cons [95] [] (fun _ _ h => .skip (h _)) rfl rfl <|
                      .cons [95, 102] [] (fun _ _ h => .brT (h _)) rfl rfl <|
                      .nil)
                      (.nil)
                      (by kernel_rfl) rfl (.cons rfl (.cons rfl (.cons rfl (.cons rfl (.cons rfl (.cons rfl (.cons rfl (.cons rfl (.cons rfl (.cons rfl (.nil))))))))))) (.nil) (.nil) ?_
                    exact ⟨_, (.inr (.inr (.inl ⟨_, rfl, h⟩))), (imp_of (.cons rfl (.cons rfl (.cons rfl (.cons rfl (.cons rfl (.cons rfl (.cons rfl (.cons rfl (.cons rfl (.cons rfl (.cons rfl (.cons rfl (.cons rfl (.cons rfl (.cons rfl (.cons rfl (.cons rfl (.cons rfl (.nil))))))))))))))))))) (.nil))⟩
                  · replace h := (if_neg (nt hc330)).symm.trans h
                    obtain ⟨y331, hy331, h⟩ := bindE h
                    obtain ⟨y332, hy332, h⟩ := bindE h
                    refine .draw [] [[], [], [], [], [], [], [], [], [], [], [], [], [], [], [], [], [], [], [], [], [], [], []] [[], [], [], [], [], [], [], [], [], [], [], [], [], [], [], [], [], [], [], [], [], [], []] [[]]
                      [(0, 0), (1, 0), (2, 0), (3, 0), (4, 0), (5, 0), (6, 0), (7, 0), (8, 0), (9, 0), (10, 0), (11, 0), (12, 0), (13, 0), (14, 0), (15, 0), (16, 0), (17, 0), (18, 0), (19, 0), (20, 0), (21, 0), (22, 0)] [] 0
                      [⟨[(81, .int .i64 y307.2.1), (82, .int .i64 y308.2.1), (83, .bool false), (84, .bool false), (85, .int .i64 y307.2.2), (86, .int .i64 y308.2.2), (87, .bool false), (88, .bool false), (89, .bool false), (90, .sl 22 .ro (y307.1.map pv22)), (91, .sl 22 .ro (y308.1.map pv22)), (92, .bool y329), (93, .bool false), (94, .bool false), (95, .bool false), (96, .sl 5 .ro (x306.map (PV.int .u8))), (97, .sl 5 .ro (y331.map (PV.int .u8))), (98, .str (mkStr y331)), (99, .sl 5 .ro (x306.map (PV.int .u8))), (100, .sl 5 .ro (y332.map (PV.int .u8))), (101, .str (mkStr y332)), (102, .bool (!(sEq (mkStr y331) (mkStr y332)))), (103, .bool (!(sEq (mkStr y331) (mkStr y332)))), (14, .sl 5 .ro (x306.map (PV.int .u8))), (15, .sl 22 .ro (y307.1.map pv22)), (16, .int .i64 y307.2.1), (17, .int .i64 y307.2.2), (18, .sl 22 .ro (y308.1.map pv22)), (19, .int .i64 y308.2.1), (20, .int .i64 y308.2.2), (63, .sl 22 .ro (([y7.2, v13, x180, a1, x183, x186] : List (List Int)).map pv22)), (64, .int .i64 (([y7.2, v13, x180, a1, x183, x186] : List (List Int)).length : Int)), (65, .int .i64 v233)], [], []⟩]
                      [(14, .sl 5 .ro (x306.map (PV.int .u8))), (15, .sl 22 .ro (y307.1.map pv22)), (16, .int .i64 y307.2.1), (17, .int .i64 y307.2.2), (18, .sl 22 .ro (y308.1.map pv22)), (19, .int .i64 y308.2.1), (20, .int .i64 y308.2.2), (63, .sl 22 .ro (([y7.2, v13, x180, a1, x183, x186] : List (List Int)).map pv22)), (64, .int .i64 (([y7.2, v13, x180, a1, x183, x186] : List (List Int)).length : Int)), (65, .int .i64 v233)]
                      (.cons [16] [] (fun _ _ h => .move (h _)) rfl rfl <|
                      .cons [19] [] (fun _ _ h => .move (h _)) rfl rfl <|
                      .cons [81, 82] [] (fun _ _ h => .valB hc327 (h _)) rfl rfl <|
                      .cons [83] [] (fun _ _ h => .move (h _)) rfl rfl <|
                      .cons [17, 84] [] (fun _ _ h => .move (h _)) rfl rfl <|
                      .cons [20, 84] [] (fun _ _ h => .move (h _)) rfl rfl <|
                      .cons [85, 86, 84] [] (fun _ _ h => .valB hc328 (h _)) rfl rfl <|
                      .cons [84, 87] [] (fun _ _ h => .brF (h _)) rfl rfl <|
                      .cons [88] [] (fun _ _ h => .move (h _)) rfl rfl <|
                      .cons [15, 89] [] (fun _ _ h => .move (h _)) rfl rfl <|
                      .cons [18, 89] [] (fun _ _ h => .move (h _)) rfl rfl <|
                      .cons [90, 91, 89] [] (fun _ _ h => .cP (g50 hy329) (h _)) rfl rfl <|
                      .cons [92, 89] [] (fun _ _ h => .valB hc330 (h _)) rfl rfl <|
                      .cons [89, 93] [] (fun _ _ h => .brF (h _)) rfl rfl <|
                      .cons [94] [] (fun _ _ h => .move (h _)) rfl rfl <|
                      .cons [14, 95] [] (fun _ _ h => .move (h _)) rfl rfl <|
                      .cons [96, 95] [] (fun _ _ h => .cP (g51r hy331) (h _)) rfl rfl <|
                      .cons [97, 95] [] (fun _ _ h => .toStr (h _)) rfl rfl <|
                      .cons [14, 95] [] (fun _ _ h => .move (h _)) rfl rfl <|
                      .cons [99, 95] [] (fun _ _ h => .cP (g52r hy332) (h _)) rfl rfl <|
                      .cons [100, 95] [] (fun _ _ h => .toStr (h _)) rfl rfl <|
                      .cons [98, 101, 95] [] (fun _ _ h => .val (h _)) rfl rfl <|
                      .cons [95, 102] [] (fun _ _ h => .brF (h _)) rfl rfl <|
                      .nil)
                      (.nil)
                      (by kernel_rfl) rfl (.cons rfl (.cons rfl (.cons rfl (.cons rfl (.cons rfl (.cons rfl (.cons rfl (.cons rfl (.cons rfl (.cons rfl (.nil))))))))))) (.nil) (.nil) ?_
                    exact ⟨_, (.inr (.inr (.inr (⟨_, _, _, _, _, _, _, rfl, h⟩)))), (imp_of (.cons rfl (.cons rfl (.cons rfl (.cons rfl (.cons rfl (.cons rfl (.cons rfl (.cons rfl (.cons rfl (.cons rfl (.cons rfl (.cons rfl (.cons rfl (.cons rfl (.cons rfl (.cons rfl (.cons rfl (.cons rfl (.nil))))))))))))))))))) (.nil))⟩
            · rintro T (⟨rfl, h⟩ | ⟨rfl, h⟩ | ⟨v317, rfl, h⟩ | ⟨v319, v320, v321, v322, v323, v324, v325, rfl, h⟩)
              · subst hj315
                refine .condT ?_
                refine .seq ?_
                refine .region ?_
                refine .assign ?_
                refine .nil ?_
                cases h
                exact .ret (fin_gen0 none)
              · subst hj316
                refine .condT ?_
                refine .seq ?_
                refine .region ?_
                refine .assign ?_
                refine .nil ?_
                cases h
                exact .ret (fin_gen0 none)
              · subst hj318
                refine .condT ?_
                refine .seq ?_
                refine .region ?_
                refine .assign ?_
                refine .nil ?_
                cases h
                exact .ret (fin_gen0 none)
              · subst hj326
                refine .cond (fun hc333 => ?_) (fun hc333 => ?_)
                · replace h := (if_pos hc333).symm.trans h
                  refine .seq ?_
                  refine .region ?_
                  refine .assign ?_
                  refine .nil ?_
                  cases h
                  exact .ret (fin_gen0 none)
                · replace h := (if_neg (nt hc333)).symm.trans h
                  refine .skip ?_
                  refine .region ?_
                  refine .val ?_
                  refine .move ?_
                  refine .nil ?_
                  exact ⟨m281, _, Nat.lt_succ_self m281, ⟨_, rfl, h⟩, (imp_of (.cons rfl (.cons rfl (.cons rfl (.nil)))) (.nil))⟩
          · replace h := (if_neg (nt hc283)).symm.trans h
            refine .exit (.hit ?_)
            exact ⟨_, ⟨rfl, h⟩, (imp_of (.nil) (.nil))⟩
        · rintro T ⟨rfl, h⟩
          subst hj172
          refine .seq ?_
          refine .region ?_
          refine .assign ?_
          refine .nil ?_
          cases h
          exact .ret (fin_gen0 none)

/- soundservice/soundservicelaw40.JournalSurvives -/
def f13 (n : Nat) (a0 : (List Int)) (a1 : Int) (a2 : (List Int)) : Option Bool :=
  (f43 n ).bind fun y3 =>
  if !y3 then (
  some false)
  else (
  if decide ((a2.length : Int) > (200 : Int)) then (
  some true)
  else (
  (f44 n a0).bind fun y7 =>
  (f45 n a1 (w64 ((y7.2.length : Int) + (1 : Int)))).bind fun y8 =>
  (f48 n y7.2).bind fun y9 =>
  (lPart y7.2 (0 : Int) y8).bind fun x10 =>
  (f48 n x10).bind fun y11 =>
  (lPart y7.2 (0 : Int) y8).bind fun x12 =>
  (f51 n x12).bind fun y13 =>
  joinK (fun (_ : Unit) =>
  some false) fun j38 =>
  joinK (fun (v39 : Bool) =>
  if v39 then (
  some false)
  else (
  (f46 n y13 a2).bind fun y52 =>
  (f48 n y52.1).bind fun y53 =>
  if (y52.2 == (0 : Int)) then (
  if (y53.2.2 == (0 : Int)) then (
  if ((y53.1.length : Int) == (w64 ((y11.1.length : Int) + (1 : Int)))) then (
  (lPart y53.1 (0 : Int) (y11.1.length : Int)).bind fun x64 =>
  (f50 n x64 y11.1).bind fun y65 =>
  if y65 then (
  (lAt y53.1 (y11.1.length : Int)).bind fun x67 =>
  some (sEq (mkStr x67) (mkStr a2)))
  else (
  some false))
  else (
  some false))
  else (
  some false))
  else (
  some false))) fun j40 =>
  if (y9.2.2 != (0 : Int)) then (
  j38 ())
  else (
  if (y9.2.1 != (y7.2.length : Int)) then (
  j38 ())
  else (
  (f50 n y9.1 y7.1).bind fun y43 =>
  if !y43 then (
  j38 ())
  else (
  if decide (y11.2.1 > y8) then (
  j38 ())
  else (
  if decide ((y11.1.length : Int) > (y7.1.length : Int)) then (
  j38 ())
  else (
  (lPart y7.1 (0 : Int) (y11.1.length : Int)).bind fun x47 =>
  (f50 n y11.1 x47).bind fun y48 =>
  if !y48 then (
  j38 ())
  else (
  (lPart y7.2 (0 : Int) y11.2.1).bind fun x50 =>
  j40 (!(sEq (mkStr y13) (mkStr x50)))))))))))
set_option maxHeartbeats 4000000 in
set_option maxRecDepth 100000 in
theorem g13 {n : Nat} {a0 : (List Int)} {a1 : Int} {a2 : (List Int)} {r : Bool} (h : f13 n a0 a1 a2 = some r) :
    Ab.Can Try.prog 13 [.sl 3 .ro (a0.map (PV.int .i64)), .int .i64 a1, .sl 5 .ro (a2.map (PV.int .u8))] H0 (.bool r) H0 := by
  refine can_of tabOK mix Try.call13 Try.func13 rfl (by kernel_rfl) (by show _ ≤ 144; simp) fun _ => ?_
  rw [f13] at h
  refine .seq ?_
  refine .region ?_
  refine .assign ?_
  refine .nil ?_
  refine .seq ?_
  refine .seq ?_
  refine .region ?_
  obtain ⟨y3, hy3, h⟩ := bindE h
  refine .cP (g43 hy3) ?_
  refine .val ?_
  refine .nil ?_
  refine .cond (fun hc4 => ?_) (fun hc4 => ?_)
  · replace h := (if_pos hc4).symm.trans h
    refine .seq ?_
    refine .region ?_
    refine .assign ?_
    refine .nil ?_
    cases h
    exact .ret (fin_gen0 none)
  · replace h := (if_neg (nt hc4)).symm.trans h
    refine .skip ?_
    refine .seq ?_
    refine .seq ?_
    refine .region ?_
    refine .move ?_
    refine .lenL (f := (PV.int .u8)) ?_
    refine .val ?_
    refine .nil ?_
    refine .cond (fun hc6 => ?_) (fun hc6 => ?_)
    · replace h := (if_pos hc6).symm.trans h
      refine .seq ?_
      refine .region ?_
      refine .assign ?_
      refine .nil ?_
      cases h
      exact .ret (fin_gen0 none)
    · replace h := (if_neg (nt hc6)).symm.trans h
      refine .skip ?_
      refine .seq ?_
      refine .region ?_
      refine .move ?_
      obtain ⟨y7, hy7, h⟩ := bindE h
      refine .cP (g44r hy7) ?_
      refine .move ?_
      refine .val ?_
      refine .val ?_
      refine .assign ?_
      refine .assign ?_
      refine .nil ?_
      refine .seq ?_
      refine .region ?_
      refine .move ?_
      refine .move ?_
      refine .lenL (f := (PV.int .u8)) ?_
      refine .val ?_
      obtain ⟨y8, hy8, h⟩ := bindE h
      refine .cP (g45 hy8) ?_
      refine .assign ?_
      refine .nil ?_
      refine .seq ?_
      refine .region ?_
      refine .move ?_
      obtain ⟨y9, hy9, h⟩ := bindE h
      refine .cP (g48r hy9) ?_
      refine .move ?_
      refine .val ?_
      refine .val ?_
      refine .val ?_
      refine .assign ?_
      refine .assign ?_
      refine .assign ?_
      refine .nil ?_
      refine .seq ?_
      refine .region ?_
      refine .move ?_
      refine .move ?_
      obtain ⟨x10, hx10, h⟩ := bindE h
      refine .partL (f := (PV.int .u8)) hx10 ?_
      obtain ⟨y11, hy11, h⟩ := bindE h
      refine .cP (g48r hy11) ?_
      refine .move ?_
      refine .val ?_
      refine .val ?_
      refine .val ?_
      refine .assign ?_
      refine .assign ?_
      refine .assign ?_
      refine .nil ?_
      refine .seq ?_
      refine .region ?_
      refine .move ?_
      refine .move ?_
      obtain ⟨x12, hx12, h⟩ := bindE h
      refine .partL (f := (PV.int .u8)) hx12 ?_
      obtain ⟨y13, hy13, h⟩ := bindE h
      refine .cP (g51r hy13) ?_
      refine .assign ?_
      refine .nil ?_
      refine .imp (T := St.of [(2, .sl 5 .ro (a2.map (PV.int .u8))), (7, .sl 22 .ro (y7.1.map pv22)), (8, .sl 5 .ro (y7.2.map (PV.int .u8))), (9, .int .i64 y8), (10, .sl 22 .ro (y9.1.map pv22)), (11, .int .i64 y9.2.1), (12, .int .i64 y9.2.2), (13, .sl 22 .ro (y11.1.map pv22)), (14, .int .i64 y11.2.1), (16, .sl 5 .ro (y13.map (PV.int .u8)))] []) (imp_of (.cons rfl (.cons rfl (.cons rfl (.cons rfl (.cons rfl (.cons rfl (.cons rfl (.cons rfl (.cons rfl (.cons rfl (.nil))))))))))) (.nil)) ?_
      refine .seq ?_
      obtain ⟨j38, hj38, h⟩ := joinE h
      obtain ⟨j40, hj40, h⟩ := joinE h
      refine .cutI (fun T => (T = St.of [(2, .sl 5 .ro (a2.map (PV.int .u8))), (13, .sl 22 .ro (y11.1.map pv22)), (16, .sl 5 .ro (y13.map (PV.int .u8))), (98, .bool true)] [] ∧ j38 () = some r) ∨ (∃ (v39 : Bool), T = St.of [(2, .sl 5 .ro (a2.map (PV.int .u8))), (13, .sl 22 .ro (y11.1.map pv22)), (16, .sl 5 .ro (y13.map (PV.int .u8))), (98, .bool v39)] [] ∧ j40 v39 = some r)) ?_ ?_
      · rcases bool_em ((y9.2.2 != (0 : Int))) with hc41 | hc41
        · replace h := (if_pos hc41).symm.trans h
          refine .draw [] [[], [], [], [], [], [], [], [], [], [], [], [], [], [], [], [], [], [], [], [], [], [], [], [], [], [], [], [], [], [], [], [], [], [], [], [], [], [], [], [], [], [], [], []] [[], [], [], [], [], [], [], [], [], [], [], [], [], [], [], [], [], [], [], [], [], [], [], [], [], [], [], [], [], [], [], [], [], [], [], [], [], [], [], [], [], [], [], []] [[]]
            [(0, 0), (1, 0), (2, 0), (3, 0), (4, 0), (5, 0), (6, 0), (7, 0), (8, 0), (9, 0), (10, 0), (11, 0), (12, 0), (13, 0), (14, 0), (15, 0), (16, 0), (17, 0), (18, 0), (19, 0), (20, 0), (21, 0), (22, 0), (23, 0), (24, 0), (25, 0), (26, 0), (27, 0), (28, 0), (29, 0), (30, 0), (31, 0), (32, 0), (33, 0), (34, 0), (35, 0), (36, 0), (37, 0), (38, 0), (39, 0), (40, 0), (41, 0), (42, 0), (43, 0)] [] 0
            [⟨[(55, .int .i64 y9.2.2), (56, .bool true), (57, .bool true), (58, .tup []), (59, .tup []), (60, .tup []), (61, .tup []), (62, .bool true), (63, .bool true), (64, .tup []), (65, .tup []), (66, .tup []), (67, .tup []), (68, .bool true), (69, .bool true), (70, .tup []), (71, .tup []), (72, .tup []), (73, .bool true), (74, .bool true), (75, .tup []), (76, .tup []), (77, .tup []), (78, .tup []), (79, .tup []), (80, .bool true), (81, .bool true), (82, .tup []), (83, .tup []), (84, .tup []), (85, .tup []), (86, .tup []), (87, .tup []), (88, .tup []), (89, .bool true), (90, .bool true), (91, .tup []), (92, .tup []), (93, .tup []), (94, .tup []), (95, .tup []), (96, .tup []), (97, .tup []), (98, .bool true), (2, .sl 5 .ro (a2.map (PV.int .u8))), (7, .sl 22 .ro (y7.1.map pv22)), (8, .sl 5 .ro (y7.2.map (PV.int .u8))), (9, .int .i64 y8), (10, .sl 22 .ro (y9.1.map pv22)), (11, .int .i64 y9.2.1), (12, .int .i64 y9.2.2), (13, .sl 22 .ro (y11.1.map pv22)), (14, .int .i64 y11.2.1), (16, .sl 5 .ro (y13.map (PV.int .u8)))], [], []⟩]
            [(2, .sl 5 .ro (a2.map (PV.int .u8))), (7, .sl 22 .ro (y7.1.map pv22)), (8, .sl 5 .ro (y7.2.map (PV.int .u8))), (9, .int .i64 y8), (10, .sl 22 .ro (y9.1.map pv22)), (11, .int .i64 y9.2.1), (12, .int .i64 y9.2.2), (13, .sl 22 .ro (y11.1.map pv22)), (14, .int .i64 y11.2.1), (16, .sl 5 .ro (y13.map (PV.int .u8)))]
            (.cons [12] [] (fun _ _ h => .move (h _)) rfl rfl <|
            .cons [55] [] (fun _ _ h => .valB hc41 (h _)) rfl rfl <|
            .cons [56] [] (fun _ _ h => .move (h _)) rfl rfl <|
            .cons [57] [] (fun _ _ h => .skip (h _)) rfl rfl <|
            .cons [57] [] (fun _ _ h => .skip (h _)) rfl rfl <|
            .cons [57] [] (fun _ _ h => .skip (h _)) rfl rfl <|
            .cons [57] [] (fun _ _ h => .skip (h _)) rfl rfl <|
            .cons [57, 61] [] (fun _ _ h => .brT (h _)) rfl rfl <|
            .cons [62] [] (fun _ _ h => .move (h _)) rfl rfl <|
            .cons [63] [] (fun _ _ h => .skip (h _)) rfl rfl <|
            .cons [63] [] (fun _ _ h => .skip (h _)) rfl rfl <|
            .cons [63] [] (fun _ _ h => .skip (h _)) rfl rfl <|
            .cons [63] [] (fun _ _ h => .skip (h _)) rfl rfl <|
            .cons [63, 67] [] (fun _ _ h => .brT (h _)) rfl rfl <|
            .cons [68] [] (fun _ _ h => .move (h _)) rfl rfl <|
            .cons [69] [] (fun _ _ h => .skip (h _)) rfl rfl <|
            .cons [69] [] (fun _ _ h => .skip (h _)) rfl rfl <|
            .cons [69] [] (fun _ _ h => .skip (h _)) rfl rfl <|
            .cons [69, 72] [] (fun _ _ h => .brT (h _)) rfl rfl <|
            .cons [73] [] (fun _ _ h => .move (h _)) rfl rfl <|
            .cons [74] [] (fun _ _ h => .skip (h _)) rfl rfl <|
            .cons [74] [] (fun _ _ h => .skip (h _)) rfl rfl <|
            .cons [74] [] (fun _ _ h => .skip (h _)) rfl rfl <|
            .cons [74] [] (fun _ _ h => .skip (h _)) rfl rfl <|
            .cons [74] [] (fun _ _ h => .skip (h _)) rfl rfl <|
            .cons [74, 79] [] (fun _ _ h => .brT (h _)) rfl rfl <|
            .cons [80] [] (fun _ _ h => .move (h _)) rfl rfl <|
            .cons [81] [] (fun _ _ h => .skip (h _)) rfl rfl <|
            .cons [81] [] (fun _ _ h => .skip (h _)) rfl rfl <|
            .cons [81] [] (fun _ _ h => .skip (h _)) rfl rfl <|
            .cons [81] [] (fun _ _ h => .skip (h _)) rfl rfl <|
            .cons [81] [] (fun _ _ h => .skip (h _)) rfl rfl <|
            .cons [81] [] (fun _ _ h => .skip (h _)) rfl rfl <|
            .cons [81] [] (fun _ _ h => .skip (h _)) rfl rfl <|
            .cons [81, 88] [] (fun _ _ h => .brT (h _)) rfl rfl <|
            .cons [89] [] (fun _ _ h => .move (h _)) rfl rfl <|
            .cons [90] [] (fun _ _ h => .skip (h _)) rfl rfl <|
            .cons [90] [] (fun _ _ h => .skip (h _)) rfl rfl <|
            .cons [90] [] (fun _ _ h => .skip (h _)) rfl rfl <|
            .cons [90] [] (fun _ _ h => .skip (h _)) rfl rfl <|
            .cons [90] [] (fun _ _ h => .skip (h _)) rfl rfl <|
            .cons [90] [] (fun _ _ h => .skip (h _)) rfl rfl <|
            .cons [90] [] (fun _ _ h => .skip (h _)) rfl rfl <|
            .cons [90, 97] [] (fun _ _ h => .brT (h _)) rfl rfl <|
            .nil)
            (.nil)
            (by kernel_rfl) rfl (.cons rfl (.cons rfl (.cons rfl (.cons rfl (.cons rfl (.cons rfl (.cons rfl (.cons rfl (.cons rfl (.cons rfl (.nil))))))))))) (.nil) (.nil) ?_
          exact ⟨_, (.inl ⟨rfl, h⟩), (imp_of (.cons rfl (.cons rfl (.cons rfl (.cons rfl (.nil))))) (.nil))⟩
        · replace h := (if_neg (nt hc41)).symm.trans h
          rcases bool_em ((y9.2.1 != (y7.2.length : Int))) with hc42 | hc42
          · replace h := (if_pos hc42).symm.trans h
            refine .draw [] [[], [], [], [], [], [], [], [], [], [], [], [], [], [], [], [], [], [], [], [], [], [], [], [], [], [], [], [], [], [], [], [], [], [], [], [], [], [], [], [], [], [], [], []] [[], [], [], [], [], [], [], [], [], [], [], [], [], [], [], [], [], [], [], [], [], [], [], [], [], [], [], [], [], [], [], [], [], [], [], [], [], [], [], [], [], [], [], []] [[]]
              [(0, 0), (1, 0), (2, 0), (3, 0), (4, 0), (5, 0), (6, 0), (7, 0), (8, 0), (9, 0), (10, 0), (11, 0), (12, 0), (13, 0), (14, 0), (15, 0), (16, 0), (17, 0), (18, 0), (19, 0), (20, 0), (21, 0), (22, 0), (23, 0), (24, 0), (25, 0), (26, 0), (27, 0), (28, 0), (29, 0), (30, 0), (31, 0), (32, 0), (33, 0), (34, 0), (35, 0), (36, 0), (37, 0), (38, 0), (39, 0), (40, 0), (41, 0), (42, 0), (43, 0)] [] 0
              [⟨[(55, .int .i64 y9.2.2), (56, .bool false), (57, .bool false), (58, .int .i64 y9.2.1), (59, .sl 5 .ro (y7.2.map (PV.int .u8))), (60, .int .i64 (y7.2.length : Int)), (61, .bool true), (62, .bool true), (63, .bool true), (64, .tup []), (65, .tup []), (66, .tup []), (67, .tup []), (68, .bool true), (69, .bool true), (70, .tup []), (71, .tup []), (72, .tup []), (73, .bool true), (74, .bool true), (75, .tup []), (76, .tup []), (77, .tup []), (78, .tup []), (79, .tup []), (80, .bool true), (81, .bool true), (82, .tup []), (83, .tup []), (84, .tup []), (85, .tup []), (86, .tup []), (87, .tup []), (88, .tup []), (89, .bool true), (90, .bool true), (91, .tup []), (92, .tup []), (93, .tup []), (94, .tup []), (95, .tup []), (96, .tup []), (97, .tup []), (98, .bool true), (2, .sl 5 .ro (a2.map (PV.int .u8))), (7, .sl 22 .ro (y7.1.map pv22)), (8, .sl 5 .ro (y7.2.map (PV.int .u8))), (9, .int .i64 y8), (10, .sl 22 .ro (y9.1.map pv22)), (11, .int .i64 y9.2.1), (12, .int .i64 y9.2.2), (13, .sl 22 .ro (y11.1.map pv22)), (14, .int .i64 y11.2.1), (16, .sl 5 .ro (y13.map (PV.int .u8)))], [], []⟩]
              [(2, .sl 5 .ro (a2.map (PV.int .u8))), (7, .sl 22 .ro (y7.1.map pv22)), (8, .sl 5 .ro (y7.2.map (PV.int .u8))), (9, .int .i64 y8), (10, .sl 22 .ro (y9.1.map pv22)), (11, .int .i64 y9.2.1), (12, .int .i64 y9.2.2), (13, .sl 22 .ro (y11.1.map pv22)), (14, .int .i64 y11.2.1), (16, .sl 5 .ro (y13.map (PV.int .u8)))]
              (.cons [12] [] (fun _ _ h => .move (h _)) rfl rfl <|
              .cons [55] [] (fun _ _ h => .valB hc41 (h _)) rfl rfl <|
              .cons [56] [] (fun _ _ h => .move (h _)) rfl rfl <|
              .cons [11, 57] [] (fun _ _ h => .move (h _)) rfl rfl <|
              .cons [8, 57] [] (fun _ _ h => .move (h _)) rfl rfl <|
              .cons [59, 57] [] (fun _ _ h => .lenL (f := (PV.int .u8)) (h _)) rfl rfl <|
              .cons [58, 60, 57] [] (fun _ _ h => .valB hc42 (h _)) rfl rfl <|
              .cons [57, 61] [] (fun _ _ h => .brF (h _)) rfl rfl <|
              .cons [62] [] (fun _ _ h => .move (h _)) rfl rfl <|
              .cons [63] [] (fun _ _ h => .skip (h _)) rfl rfl <|
              .cons [63] [] (fun _ _ h => .skip (h _)) rfl rfl <|
              .cons [63] [] (fun _ _ h => .skip (h _)) rfl rfl <|
              .cons [63] [] (fun _ _ h => .skip (h _)) rfl rfl <|
              .cons [63, 67] [] (fun _ _ h => .brT (h _)) rfl rfl <|
              .cons [68] [] (fun _ _ h => .move (h _)) rfl rfl <|
              .cons [69] [] (fun _ _ h => .skip (h _)) rfl rfl <|
              .cons [69] [] (fun _ _ h => .skip (h _)) rfl rfl <|
              .cons [69] [] (fun _ _ h => .skip (h _)) rfl rfl <|
              .cons [69, 72] [] (fun _ _ h => .brT (h _)) rfl rfl <|
              .cons [73] [] (fun _ _ h => .move (h _)) rfl rfl <|
              .cons [74] [] (fun _ _ h => .skip (h _)) rfl rfl <|
              .cons [74] [] (fun _ _ h => .skip (h _)) rfl rfl <|
              .cons [74] [] (fun _ _ h => .skip (h _)) rfl rfl <|
              .cons [74] [] (fun _ _ h => .skip (h _)) rfl rfl <|
              .cons [74] [] (fun _ _ h => .skip (h _)) rfl rfl <|
              .cons [74, 79] [] (fun _ _ h => .brT (h _)) rfl rfl <|
              .cons [80] [] (fun _ _ h => .move (h _)) rfl rfl <|
              .cons [81] [] (fun _ _ h => .skip (h _)) rfl rfl <|
              .cons [81] [] (fun _ _ h => .skip (h _)) rfl rfl <|
              .cons [81] [] (fun _ _ h => .skip (h _)) rfl rfl <|
              .cons [81] [] (fun _ _ h => .skip (h _)) rfl rfl <|
              .cons [81] [] (fun _ _ h => .skip (h _)) rfl rfl <|
              .cons [81] [] (fun _ _ h => .skip (h _)) rfl rfl <|
              .cons [81] [] (fun _ _ h => .skip (h _)) rfl rfl <|
              .cons [81, 88] [] (fun _ _ h => .brT (h _)) rfl rfl <|
              .cons [89] [] (fun _ _ h => .move (h _)) rfl rfl <|
              .cons [90] [] (fun _ _ h => .skip (h _)) rfl rfl <|
              .cons [90] [] (fun _ _ h => .skip (h _)) rfl rfl <|
              .cons [90] [] (fun _ _ h => .skip (h _)) rfl rfl <|
              .cons [90] [] (fun _ _ h => .skip (h _)) rfl rfl <|
              .cons [90] [] (fun _ _ h => .skip (h _)) rfl rfl <|
              .cons [90] [] (fun _ _ h => .skip (h _)) rfl rfl <|
              .cons [90] [] (fun _ _ h => .skip (h _)) rfl rfl <|
              .cons [90, 97] [] (fun _ _ h => .brT (h _)) rfl rfl <|
              .nil)
              (.nil)
              (by kernel_rfl) rfl (.cons rfl (.cons rfl (.cons rfl (.cons rfl (.cons rfl (.cons rfl (.cons rfl (.cons rfl (.cons rfl (.cons rfl (.nil))))))))))) (.nil) (.nil) ?_
            exact ⟨_, (.inl ⟨rfl, h⟩), (imp_of (.cons rfl (.cons rfl (.cons rfl (.cons rfl (.nil))))) (.nil))⟩
          · replace h := (if_neg (nt hc42)).symm.trans h
            obtain ⟨y43, hy43, h⟩ := bindE h
            rcases bool_em (!y43) with hc44 | hc44
            · replace h := (if_pos hc44).symm.trans h
              refine .draw [] [[], [], [], [], [], [], [], [], [], [], [], [], [], [], [], [], [], [], [], [], [], [], [], [], [], [], [], [], [], [], [], [], [], [], [], [], [], [], [], [], [], [], [], []] [[], [], [], [], [], [], [], [], [], [], [], [], [], [], [], [], [], [], [], [], [], [], [], [], [], [], [], [], [], [], [], [], [], [], [], [], [], [], [], [], [], [], [], []] [[]]
                [(0, 0), (1, 0), (2, 0), (3, 0), (4, 0), (5, 0), (6, 0), (7, 0), (8, 0), (9, 0), (10, 0), (11, 0), (12, 0), (13, 0), (14, 0), (15, 0), (16, 0), (17, 0), (18, 0), (19, 0), (20, 0), (21, 0), (22, 0), (23, 0), (24, 0), (25, 0), (26, 0), (27, 0), (28, 0), (29, 0), (30, 0), (31, 0), (32, 0), (33, 0), (34, 0), (35, 0), (36, 0), (37, 0), (38, 0), (39, 0), (40, 0), (41, 0), (42, 0), (43, 0)] [] 0
                [⟨[(55, .int .i64 y9.2.2), (56, .bool false), (57, .bool false), (58, .int .i64 y9.2.1), (59, .sl 5 .ro (y7.2.map (PV.int .u8))), (60, .int .i64 (y7.2.length : Int)), (61, .bool false), (62, .bool false), (63, .bool false), (64, .sl 22 .ro (y9.1.map pv22)), (65, .sl 22 .ro (y7.1.map pv22)), (66, .bool y43), (67, .bool true), (68, .bool true), (69, .bool true), (70, .tup []), (71, .tup []), (72, .tup []), (73, .bool true), (74, .bool true), (75, .tup []), (76, .tup []), (77, .tup []), (78, .tup []), (79, .tup []), (80, .bool true), (81, .bool true), (82, .tup []), (83, .tup []), (84, .tup []), (85, .tup []), (86, .tup []), (87, .tup []), (88, .tup []), (89, .bool true), (90, .bool true), (91, .tup []), (92, .tup []), (93, .tup []), (94, .tup []), (95, .tup []), (96, .tup []), (97, .tup []), (98, .bool true), (2, .sl 5 .ro (a2.map (PV.int .u8))), (7, .sl 22 .ro (y7.1.map pv22)), (8, .sl 5 .ro (y7.2.map (PV.int .u8))), (9, .int .i64 y8), (10, .sl 22 .ro (y9.1.map pv22)), (11, .int .i64 y9.2.1), (12, .int .i64 y9.2.2), (13, .sl 22 .ro (y11.1.map pv22)), (14, .int .i64 y11.2.1), (16, .sl 5 .ro (y13.map (PV.int .u8)))], [], []⟩]
                [(2, .sl 5 .ro (a2.map (PV.int .u8))), (7, .sl 22 .ro (y7.1.map pv22)), (8, .sl 5 .ro (y7.2.map (PV.int .u8))), (9, .int .i64 y8), (10, .sl 22 .ro (y9.1.map pv22)), (11, .int .i64 y9.2.1), (12, .int .i64 y9.2.2), (13, .sl 22 .ro (y11.1.map pv22)), (14, .int .i64 y11.2.1), (16, .sl 5 .ro (y13.map (PV.int .u8)))]
                (.cons [12] [] (fun _ _ h => .move (h _)) rfl rfl <|
                .cons [55] [] (fun _ _ h => .valB hc41 (h _)) rfl rfl <|
                .cons [56] [] (fun _ _ h => .move (h _)) rfl rfl <|
                .cons [11, 57] [] (fun _ _ h => .move (h _)) rfl rfl <|
                .cons [8, 57] [] (fun _ _ h => .move (h _)) rfl rfl <|
                .cons [59, 57] [] (fun _ _ h => .lenL (f := (PV.int .u8)) (h _)) rfl rfl <|
                .cons [58, 60, 57] [] (fun _ _ h => .valB hc42 (h _)) rfl rfl <|
                .cons [57, 61] [] (fun _ _ h => .brF (h _)) rfl rfl <|
                .cons [62] [] (fun _ _ h => .move (h _)) rfl rfl <|
                .cons [10, 63] [] (fun _ _ h => .move (h _)) rfl rfl <|
                .cons [7, 63] [] (fun _ _ h => .move (h _)) rfl rfl <|
                .cons [64, 65, 63] [] (fun _ _ h => .cP (g50 hy43) (h _)) rfl rfl <|
                .cons [66, 63] [] (fun _ _ h => .valB hc44 (h _)) rfl rfl <|
                .cons [63, 67] [] (fun _ _ h => .brF (h _)) rfl rfl <|
                .cons [68] [] (fun _ _ h => .move (h _)) rfl rfl <|
                .cons [69] [] (fun _ _ h => .skip (h _)) rfl rfl <|
                .cons [69] [] (fun _ _ h => .skip (h _)) rfl rfl <|
                .cons [69] [] (fun _ _ h => .skip (h _)) rfl rfl <|
                .cons [69, 72] [] (fun _ _ h => .brT (h _)) rfl rfl <|
                .cons [73] [] (fun _ _ h => .move (h _)) rfl rfl <|
                .cons [74] [] (fun _ _ h => .skip (h _)) rfl rfl <|
                .cons [74] [] (fun _ _ h => .skip (h _)) rfl rfl <|
                .cons [74] [] (fun _ _ h => .skip (h _)) rfl rfl <|
                .cons [74] [] (fun _ _ h => .skip (h _)) rfl rfl <|
                .cons [74] [] (fun _ _ h => .skip (h _)) rfl rfl <|
                .cons [74, 79] [] (fun _ _ h => .brT (h _)) rfl rfl <|
                .cons [80] [] (fun _ _ h => .move (h _)) rfl rfl <|
                .cons [81] [] (fun _ _ h => .skip (h _)) rfl rfl <|
                .cons [81] [] (fun _ _ h => .skip (h _)) rfl rfl <|
                .cons [81] [] (fun _ _ h => .skip (h _)) rfl rfl <|
                .cons [81] [] (fun _ _ h => .skip (h _)) rfl rfl <|
                .cons [81] [] (fun _ _ h => .skip (h _)) rfl rfl <|
                .cons [81] [] (fun _ _ h => .skip (h _)) rfl rfl <|
                .cons [81] [] (fun _ _ h => .skip (h _)) rfl rfl <|
                .cons [81, 88] [] (fun _ _ h => .brT (h _)) rfl rfl <|
                .cons [89] [] (fun _ _ h => .move (h _)) rfl rfl <|
                .cons [90] [] (fun _ _ h => .skip (h _)) rfl rfl <|
                .cons [90] [] (fun _ _ h => .skip (h _)) rfl rfl <|
                .cons [90] [] (fun _ _ h => .skip (h _)) rfl rfl <|
                .cons [90] [] (fun _ _ h => .skip (h _)) rfl rfl <|
                .cons [90] [] (fun _ _ h => .skip (h _)) rfl rfl <|
                .cons [90] [] (fun _ _ h => .skip (h _)) rfl rfl <|
                .cons [90] [] (fun _ _ h => .skip (h _)) rfl rfl <|
                .cons [90, 97] [] (fun _ _ h => .brT (h _)) rfl rfl <|
                .nil)
                (.nil)
                (by kernel_rfl) rfl (.cons rfl (.cons rfl (.cons rfl (.cons rfl (.cons rfl (.cons rfl (.cons rfl (.cons rfl (.cons rfl (.cons rfl (.nil))))))))))) (.nil) (.nil) ?_
              exact ⟨_, (.inl ⟨rfl, h⟩), (imp_of (.cons rfl (.cons rfl (.cons rfl (.cons rfl (.nil))))) (.nil))⟩
            · replace h := (if_neg (nt hc44)).symm.trans h
              rcases bool_em (decide (y11.2.1 > y8)) with hc45 | hc45
              · replace h := (if_pos hc45).symm.trans h
                refine .draw [] [[], [], [], [], [], [], [], [], [], [], [], [], [], [], [], [], [], [], [], [], [], [], [], [], [], [], [], [], [], [], [], [], [], [], [], [], [], [], [], [], [], [], [], []] [[], [], [], [], [], [], [], [], [], [], [], [], [], [], [], [], [], [], [], [], [], [], [], [], [], [], [], [], [], [], [], [], [], [], [], [], [], [], [], [], [], [], [], []] [[]]
                  [(0, 0), (1, 0), (2, 0), (3, 0), (4, 0), (5, 0), (6, 0), (7, 0), (8, 0), (9, 0), (10, 0), (11, 0), (12, 0), (13, 0), (14, 0), (15, 0), (16, 0), (17, 0), (18, 0), (19, 0), (20, 0), (21, 0), (22, 0), (23, 0), (24, 0), (25, 0), (26, 0), (27, 0), (28, 0), (29, 0), (30, 0), (31, 0), (32, 0), (33, 0), (34, 0), (35, 0), (36, 0), (37, 0), (38, 0), (39, 0), (40, 0), (41, 0), (42, 0), (43, 0)] [] 0
                  [⟨[(55, .int .i64 y9.2.2), (56, .bool false), (57, .bool false), (58, .int .i64 y9.2.1), (59, .sl 5 .ro (y7.2.map (PV.int .u8))), (60, .int .i64 (y7.2.length : Int)), (61, .bool false), (62, .bool false), (63, .bool false), (64, .sl 22 .ro (y9.1.map pv22)), (65, .sl 22 .ro (y7.1.map pv22)), (66, .bool y43), (67, .bool false), (68, .bool false), (69, .bool false), (70, .int .i64 y11.2.1), (71, .int .i64 y8), (72, .bool true), (73, .bool true), (74, .bool true), (75, .tup []), (76, .tup []), (77, .tup []), (78, .tup []), (79, .tup []), (80, .bool true), (81, .bool true), (82, .tup []), (83, .tup []), (84, .tup []), (85, .tup []), (86, .tup []), (87, .tup []), (88, .tup []), (89, .bool true), (90, .bool true), (91, .tup []), (92, .tup []), (93, .tup []), (94, .tup []), (95, .tup []), (96, .tup []), (97, .tup []), (98, .bool true), (2, .sl 5 .ro (a2.map (PV.int .u8))), (7, .sl 22 .ro (y7.1.map pv22)), (8, .sl 5 .ro (y7.2.map (PV.int .u8))), (9, .int .i64 y8), (10, .sl 22 .ro (y9.1.map pv22)), (11, .int .i64 y9.2.1), (12, .int .i64 y9.2.2), (13, .sl 22 .ro (y11.1.map pv22)), (14, .int .i64 y11.2.1), (16, .sl 5 .ro (y13.map (PV.int .u8)))], [], []⟩]
                  [(2, .sl 5 .ro (a2.map (PV.int .u8))), (7, .sl 22 .ro (y7.1.map pv22)), (8, .sl 5 .ro (y7.2.map (PV.int .u8))), (9, .int .i64 y8), (10, .sl 22 .ro (y9.1.map pv22)), (11, .int .i64 y9.2.1), (12, .int .i64 y9.2.2), (13, .sl 22 .ro (y11.1.map pv22)), (14, .int .i64 y11.2.1), (16, .sl 5 .ro (y13.map (PV.int .u8)))]
                  (.cons [12] [] (fun _ _ h => .move (h _)) rfl rfl <|
                  .cons [55] [] (fun _ _ h => .valB hc41 (h _)) rfl rfl <|
                  .cons [56] [] (fun _ _ h => .move (h _)) rfl rfl <|
                  .cons [11, 57] [] (fun _ _ h => .move (h _)) rfl rfl <|
                  .cons [8, 57] [] (fun _ _ h => .move (h _)) rfl rfl <|
                  .cons [59, 57] [] (fun _ _ h => .lenL (f := (PV.int .u8)) (h _)) rfl rfl <|
                  .cons [58, 60, 57] [] (fun _ _ h => .valB hc42 (h _)) rfl rfl <|
                  .cons [57, 61] [] (fun _ _ h => .brF (h _)) rfl rfl <|
                  .cons [62] [] (fun _ _ h => .move (h _)) rfl rfl <|
                  .cons [10, 63] [] (fun _ _ h => .move (h _)) rfl rfl <|
                  .cons [7, 63] [] (fun _ _ h => .move (h _)) rfl rfl <|
                  .cons [64, 65, 63] [] (fun _ _ h => .cP (g50 hy43) (h _)) rfl rfl <|
                  .cons [66, 63] [] (fun _ _ h => .valB hc44 (h _)) rfl rfl <|
                  .cons [63, 67] [] (fun _ _ h => .brF (h _)) rfl rfl <|
                  .cons [68] [] (fun _ _ h => .move (h _)) rfl rfl <|
                  .cons [14, 69] [] (fun _ _ h => .move (h _)) rfl rfl <|
                  .cons [9, 69] [] (fun _ _ h => .move (h _)) rfl rfl <|
                  .cons [70, 71, 69] [] (fun _ _ h => .valB hc45 (h _)) rfl rfl <|
                  .cons [69, 72] [] (fun _ _ h => .brF (h _)) rfl rfl <|
                  .cons [73] [] (fun _ _ h => .move (h _)) rfl rfl <|
                  .cons [74] [] (fun _ _ h => .skip (h _)) rfl rfl <|
                  .cons [74] [] (fun _ _ h => .skip (h _)) rfl rfl <|
                  .cons [74] [] (fun _ _ h => .skip (h _)) rfl rfl <|
                  .cons [74] [] (fun _ _ h => .skip (h _)) rfl rfl <|
                  .cons [74] [] (fun _ _ h => .skip (h _)) rfl rfl <|
                  .cons [74, 79] [] (fun _ _ h => .brT (h _)) rfl rfl <|
                  .cons [80] [] (fun _ _ h => .move (h _)) rfl rfl <|
                  .cons [81] [] (fun _ _ h => .skip (h _)) rfl rfl <|
                  .cons [81] [] (fun _ _ h => .skip (h _)) rfl rfl <|
                  .cons [81] [] (fun _ _ h => .skip (h _)) rfl rfl <|
                  .cons [81] [] (fun _ _ h => .skip (h _)) rfl rfl <|
                  .cons [81] [] (fun _ _ h => .skip (h _)) rfl rfl <|
                  .cons [81] [] (fun _ _ h => .skip (h _)) rfl rfl <|
                  .cons [81] [] (fun _ _ h => .skip (h _)) rfl rfl <|
                  .cons [81, 88] [] (fun _ _ h => .brT (h _)) rfl rfl <|
                  .cons [89] [] (fun _ _ h => .move (h _)) rfl rfl <|
                  .cons [90] [] (fun _ _ h => .skip (h _)) rfl rfl <|
                  .cons [90] [] (fun _ _ h => .skip (h _)) rfl rfl <|
                  .cons [90] [] (fun _ _ h => .skip (h _)) rfl rfl <|
                  .cons [90] [] (fun _ _ h => .skip (h _)) rfl rfl <|
                  .cons [90] [] (fun _ _ h => .skip (h _)) rfl rfl <|
                  .cons [90] [] (fun _ _ h => .skip (h _)) rfl rfl <|
                  .cons [90] [] (fun _ _ h => .skip (h _)) rfl rfl <|
                  .cons [90, 97] [] (fun _ _ h => .brT (h _)) rfl rfl <|
                  .nil)
                  (.nil)
                  (by kernel_rfl) rfl (.cons rfl (.cons rfl (.cons rfl (.cons rfl (.cons rfl (.cons rfl (.cons rfl (.cons rfl (.cons rfl (.cons rfl (.nil))))))))))) (.nil) (.nil) ?_
                exact ⟨_, (.inl ⟨rfl, h⟩), (imp_of (.cons rfl (.cons rfl (.cons rfl (.cons rfl (.nil))))) (.nil))⟩
              · replace h := (if_neg (nt hc45)).symm.trans h
                rcases bool_em (decide ((y11.1.length : Int) > (y7.1.length : Int))) with hc46 | hc46
                · replace h := (if_pos hc46).symm.trans h
                  refine .draw [] [[], [], [], [], [], [], [], [], [], [], [], [], [], [], [], [], [], [], [], [], [], [], [], [], [], [], [], [], [], [], [], [], [], [], [], [], [], [], [], [], [], [], [], []] [[], [], [], [], [], [], [], [], [], [], [], [], [], [], [], [], [], [], [], [], [], [], [], [], [], [], [], [], [], [], [], [], [], [], [], [], [], [], [], [], [], [], [], []] [[]]
                    [(0, 0), (1, 0), (2, 0), (3, 0), (4, 0), (5, 0), (6, 0), (7, 0), (8, 0), (9, 0), (10, 0), (11, 0), (12, 0), (13, 0), (14, 0), (15, 0), (16, 0), (17, 0), (18, 0), (19, 0), (20, 0), (21, 0), (22, 0), (23, 0), (24, 0), (25, 0), (26, 0), (27, 0), (28, 0), (29, 0), (30, 0), (31, 0), (32, 0), (33, 0), (34, 0), (35, 0), (36, 0), (37, 0), (38, 0), (39, 0), (40, 0), (41, 0), (42, 0), (43, 0)] [] 0
                    [⟨[(55, .int .i64 y9.2.2), (56, .bool false), (57, .bool false), (58, .int .i64 y9.2.1), (59, .sl 5 .ro (y7.2.map (PV.int .u8))), (60, .int .i64 (y7.2.length : Int)), (61, .bool false), (62, .bool false), (63, .bool false), (64, .sl 22 .ro (y9.1.map pv22)), (65, .sl 22 .ro (y7.1.map pv22)), (66, .bool y43), (67, .bool false), (68, .bool false), (69, .bool false), (70, .int .i64 y11.2.1), (71, .int .i64 y8), (72, .bool false), (73, .bool false), (74, .bool false), (75, .sl 22 .ro (y11.1.map pv22)), (76, .int .i64 (y11.1.length : Int)), (77, .sl 22 .ro (y7.1.map pv22)), (78, .int .i64 (y7.1.length : Int)), (79, .bool true), (80, .bool true), (81, .bool true), (82, .tup []), (83, .tup []), (84, .tup []), (85, .tup []), (86, .tup []), (87, .tup []), (88, .tup []), (89, .bool true), (90, .bool true), (91, .tup []), (92, .tup []), (93, .tup []), (94, .tup []), (95, .tup []), (96, .tup []), (97, .tup []), (98, .bool true), (2, .sl 5 .ro (a2.map (PV.int .u8))), (7, .sl 22 .ro (y7.1.map pv22)), (8, .sl 5 .ro (y7.2.map (PV.int .u8))), (9, .int .i64 y8), (10, .sl 22 .ro (y9.1.map pv22)), (11, .int .i64 y9.2.1), (12, .int .i64 y9.2.2), (13, .sl 22 .ro (y11.1.map pv22)), (14, .int .i64 y11.2.1), (16, .sl 5 .ro (y13.map (PV.int .u8)))], [], []⟩]
                    [(2, .sl 5 .ro (a2.map (PV.int .u8))), (7, .sl 22 .ro (y7.1.map pv22)), (8, .sl 5 .ro (y7.2.map (PV.int .u8))), (9, .int .i64 y8), (10, .sl 22 .ro (y9.1.map pv22)), (11, .int .i64 y9.2.1), (12, .int .i64 y9.2.2), (13, .sl 22 .ro (y11.1.map pv22)), (14, .int .i64 y11.2.1), (16, .sl 5 .ro (y13.map (PV.int .u8)))]
                    (.cons [12] [] (fun _ _ h => .move (h _)) rfl rfl <|
                    .cons [55] [] (fun _ _ h => .valB hc41 (h _)) rfl rfl <|
                    .cons [56] [] (fun _ _ h => .move (h _)) rfl rfl <|
                    .cons [11, 57] [] (fun _ _ h => .move (h _)) rfl rfl <|
                    .cons [8, 57] [] (fun _ _ h => .move (h _)) rfl rfl <|
                    .cons [59, 57] [] (fun _ _ h => .lenL (f := (PV.int .u8)) (h _)) rfl rfl <|
                    .cons [58, 60, 57] [] (fun _ _ h => .valB hc42 (h _)) rfl rfl <|
                    .cons [57, 61] [] (fun _ _ h => .brF (h _)) rfl rfl <|
                    .cons [62] [] (fun _ _ h => .move (h _)) rfl rfl <|
                    .cons [10, 63] [] (fun _ _ h => .move (h _)) rfl rfl <|
                    .cons [7, 63] [] (fun _ _ h => .move (h _)) rfl rfl <|
                    .cons [64, 65, 63] [] (fun _ _ h => .cP (g50 hy43) (h _)) rfl rfl <|
                    .cons [66, 63] [] (fun _ _ h => .valB hc44 (h _)) rfl rfl <|
                    .cons [63, 67] [] (fun _ _ h => .brF (h _)) rfl rfl <|
                    .cons [68] [] (fun _ _ h => .move (h _)) rfl rfl <|
                    .cons [14, 69] [] (fun _ _ h => .move (h _)) rfl rfl <|
                    .cons [9, 69] [] (fun _ _ h => .move (h _)) rfl rfl <|
                    .cons [70, 71, 69] [] (fun _ _ h => .valB hc45 (h _)) rfl rfl <|
                    .cons [69, 72] [] (fun _ _ h => .brF (h _)) rfl rfl <|
                    .cons [73] [] (fun _ _ h => .move (h _)) rfl rfl <|
                    .cons [13, 74] [] (fun _ _ h => .move (h _)) rfl rfl <|
                    .cons [75, 74] [] (fun _ _ h => .lenL (f := pv22) (h _)) rfl rfl <|
                    .cons [7, 74] [] (fun _ _ h => .move (h _)) rfl rfl <|
                    .cons [77, 74] [] (fun _ _ h => .lenL (f := pv22) (h _)) rfl rfl <|
                    .cons [76, 78, 74] [] (fun _ _ h => .valB hc46 (h _)) rfl rfl <|
                    .cons [74, 79] [] (fun _ _ h => .brF (h _)) rfl rfl <|
                    .cons [80] [] (fun _ _ h => .move (h _)) rfl rfl <|
                    .cons [81] [] (fun _ _ h => .skip (h _)) rfl rfl <|
                    .cons [81] [] (fun _ _ h => .skip (h _)) rfl rfl <|
                    .cons [81] [] (fun _ _ h => .skip (h _)) rfl rfl <|
                    .cons [81] [] (fun _ _ h => .skip (h _)) rfl rfl <|
                    .cons [81] [] (fun _ _ h => .skip (h _)) rfl rfl <|
                    .cons [81] [] (fun _ _ h => .skip (h _)) rfl rfl <|
                    .cons [81] [] (fun _ _ h => .skip (h _)) rfl rfl <|
                    .cons [81, 88] [] (fun _ _ h => .brT (h _)) rfl rfl <|
                    .cons [89] [] (fun _ _ h => .move (h _)) rfl rfl <|
                    .cons [90] [] (fun _ _ h => .skip (h _)) rfl rfl <|
                    .cons [90] [] (fun _ _ h => .skip (h _)) rfl rfl <|
                    .cons [90] [] (fun _ _ h => .skip (h _)) rfl rfl <|
                    .cons [90] [] (fun _ _ h => .skip (h _)) rfl rfl <|
                    .cons [90] [] (fun _ _ h => .skip (h _)) rfl rfl <|
                    .cons [90] [] (fun _ _ h => .skip (h _)) rfl rfl <|
                    .cons [90] [] (fun _ _ h => .skip (h _)) rfl rfl <|
                    .cons [90, 97] [] (fun _ _ h => .brT (h _)) rfl rfl <|
                    .nil)
                    (.nil)
                    (by kernel_rfl) rfl (.cons rfl (.cons rfl (.cons rfl (.cons rfl (.cons rfl (.cons rfl (.cons rfl (.cons rfl (.cons rfl (.cons rfl (.nil))))))))))) (.nil) (.nil) ?_
                  exact ⟨_, (.inl ⟨rfl, h⟩), (imp_of (.cons rfl (.cons rfl (.cons rfl (.cons rfl (.nil))))) (.nil))⟩
                · replace h := (if_neg (nt hc46)).symm.trans h
                  obtain ⟨x47, hx47, h⟩ := bindE h
                  obtain ⟨y48, hy48, h⟩ := bindE h
                  rcases bool_em (!y48) with hc49 | hc49
                  · replace h := (if_pos hc49).symm.trans h
                    refine .draw [] [[], [], [], [], [], [], [], [], [], [], [], [], [], [], [], [], [], [], [], [], [], [], [], [], [], [], [], [], [], [], [], [], [], [], [], [], [], [], [], [], [], [], [], []] [[], [], [], [], [], [], [], [], [], [], [], [], [], [], [], [], [], [], [], [], [], [], [], [], [], [], [], [], [], [], [], [], [], [], [], [], [], [], [], [], [], [], [], []] [[]]
                      [(0, 0), (1, 0), (2, 0), (3, 0), (4, 0), (5, 0), (6, 0), (7, 0), (8, 0), (9, 0), (10, 0), (11, 0), (12, 0), (13, 0), (14, 0), (15, 0), (16, 0), (17, 0), (18, 0), (19, 0), (20, 0), (21, 0), (22, 0), (23, 0), (24, 0), (25, 0), (26, 0), (27, 0), (28, 0), (29, 0), (30, 0), (31, 0), (32, 0), (33, 0), (34, 0), (35, 0), (36, 0), (37, 0), (38, 0), (39, 0), (40, 0), (41, 0), (42, 0), (43, 0)] [] 0
                      [⟨[(55, .int .i64 y9.2.2), (56, .bool false), (57, .bool false), (58, .int .i64 y9.2.1), (59, .sl 5 .ro (y7.2.map (PV.int .u8))), (60, .int .i64 (y7.2.length : Int)), (61, .bool false), (62, .bool false), (63, .bool false), (64, .sl 22 .ro (y9.1.map pv22)), (65, .sl 22 .ro (y7.1.map pv22)), (66, .bool y43), (67, .bool false), (68, .bool false), (69, .bool false), (70, .int .i64 y11.2.1), (71, .int .i64 y8), (72, .bool false), (73, .bool false), (74, .bool false), (75, .sl 22 .ro (y11.1.map pv22)), (76, .int .i64 (y11.1.length : Int)), (77, .sl 22 .ro (y7.1.map pv22)), (78, .int .i64 (y7.1.length : Int)), (79, .bool false), (80, .bool false), (81, .bool false), (82, .sl 22 .ro (y11.1.map pv22)), (83, .sl 22 .ro (y7.1.map pv22)), (84, .sl 22 .ro (y11.1.map pv22)), (85, .int .i64 (y11.1.length : Int)), (86, .sl 22 .ro (x47.map pv22)), (87, .bool y48), (88, .bool true), (89, .bool true), (90, .bool true), (91, .tup []), (92, .tup []), (93, .tup []), (94, .tup []), (95, .tup []), (96, .tup []), (97, .tup []), (98, .bool true), (2, .sl 5 .ro (a2.map (PV.int .u8))), (7, .sl 22 .ro (y7.1.map pv22)), (8, .sl 5 .ro (y7.2.map (PV.int .u8))), (9, .int .i64 y8), (10, .sl 22 .ro (y9.1.map pv22)), (11, .int .i64 y9.2.1), (12, .int .i64 y9.2.2), (13, .sl 22 .ro (y11.1.map pv22)), (14, .int .i64 y11.2.1), (16, .sl 5 .ro (y13.map (PV.int .u8)))], [], []⟩]
                      [(2, .sl 5 .ro (a2.map (PV.int .u8))), (7, .sl 22 .ro (y7.1.map pv22)), (8, .sl 5 .ro (y7.2.map (PV.int .u8))), (9, .int .i64 y8), (10, .sl 22 .ro (y9.1.map pv22)), (11, .int .i64 y9.2.1), (12, .int .i64 y9.2.2), (13, .sl 22 .ro (y11.1.map pv22)), (14, .int .i64 y11.2.1), (16, .sl 5 .ro (y13.map (PV.int .u8)))]
                      (.cons [12] [] (fun _ _ h => .move (h _)) rfl rfl <|
                      .cons [55] [] (fun _ _ h => .valB hc41 (h _)) rfl rfl <|
                      .cons [56] [] (fun _ _ h => .move (h _)) rfl rfl <|
                      .cons [11, 57] [] (fun _ _ h => .move (h _)) rfl rfl <|
                      .cons [8, 57] [] (fun _ _ h => .move (h _)) rfl rfl <|
                      .cons [59, 57] [] (fun _ _ h => .lenL (f := (PV.int .u8)) (h _)) rfl rfl <|
                      .cons [58, 60, 57] [] (fun _ _ h => .valB hc42 (h _)) rfl rfl <|
                      .cons [57, 61] [] (fun _ _ h => .brF (h _)) rfl rfl <|
                      .cons [62] [] (fun _ _ h => .move (h _)) rfl rfl <|
                      .cons [10, 63] [] (fun _ _ h => .move (h _)) rfl rfl <|
                      .cons [7, 63] [] (fun _ _ h => .move (h _)) rfl rfl <|
                      .cons [64, 65, 63] [] (fun _ _ h => .cP (g50 hy43) (h _)) rfl rfl <|
                      .cons [66, 63] [] (fun _ _ h => .valB hc44 (h _)) rfl rfl <|
                      .cons [63, 67] [] (fun _ _ h => .brF (h _)) rfl rfl <|
                      .cons [68] [] (fun _ _ h => .move (h _)) rfl rfl <|
                      .cons [14, 69] [] (fun _ _ h => .move (h _)) rfl rfl <|
                      .cons [9, 69] [] (fun _ _ h => .move (h _)) rfl rfl <|
                      .cons [70, 71, 69] [] (fun _ _ h => .valB hc45 (h _)) rfl rfl <|
                      .cons [69, 72] [] (fun _ _ h => .brF (h _)) rfl rfl <|
                      .cons [73] [] (fun _ _ h => .move (h _)) rfl rfl <|
                      .cons [13, 74] [] (fun _ _ h => .move (h _)) rfl rfl <|
                      .cons [75, 74] [] (fun _ _ h => .lenL (f := pv22) (h _)) rfl rfl <|
                      .cons [7, 74] [] (fun _ _ h => .move (h _)) rfl rfl <|
                      .cons [77, 74] [] (fun _ _ h => .lenL (f := pv22) (h _)) rfl rfl <|
                      .cons [76, 78, 74] [] (fun _ _ h => .valB hc46 (h _)) rfl rfl <|
                      .cons [74, 79] [] (fun _ _ h => .brF (h _)) rfl rfl <|
                      .cons [80] [] (fun _ _ h => .move (h _)) rfl rfl <|
                      .cons [13, 81] [] (fun _ _ h => .move (h _)) rfl rfl <|
                      .cons [7, 81] [] (fun _ _ h => .move (h _)) rfl rfl <|
                      .cons [13, 81] [] (fun _ _ h => .move (h _)) rfl rfl <|
                      .cons [84, 81] [] (fun _ _ h => .lenL (f := pv22) (h _)) rfl rfl <|
                      .cons [83, 85, 81] [] (fun _ _ h => .partL (f := pv22) hx47 (h _)) rfl rfl <|
                      .cons [82, 86, 81] [] (fun _ _ h => .cP (g50 hy48) (h _)) rfl rfl <|
                      .cons [87, 81] [] (fun _ _ h => .valB hc49 (h _)) rfl rfl <|
                      .cons [81, 88] [] (fun _ _ h => .brF (h _)) rfl rfl <|
                      .cons [89] [] (fun _ _ h => .move (h _)) rfl rfl <|
                      .cons [90] [] (fun _ _ h => .skip (h _)) rfl rfl <|
                      .cons [90] [] (fun _ _ h => .skip (h _)) rfl rfl <|
                      .cons [90] [] (fun _ _ h => .skip (h _)) rfl rfl <|
                      .cons [90] [] (fun _ _ h => .skip (h _)) rfl rfl <|
                      .cons [90] [] (fun _ _ h => .skip (h _)) rfl rfl <|
                      .cons [90] [] (fun _ _ h => .skip (h _)) rfl rfl <|
                      .cons [90] [] (fun _ _ h => .skip (h _)) rfl rfl <|
                      .cons [90, 97] [] (fun _ _ h => .brT (h _)) rfl rfl <|
                      .nil)
                      (.nil)
                      (by kernel_rfl) rfl (.cons rfl (.cons rfl (.cons rfl (.cons rfl (.cons rfl (.cons rfl (.cons rfl (.cons rfl (.cons rfl (.cons rfl (.nil))))))))))) (.nil) (.nil) ?_
                    exact ⟨_, (.inl ⟨rfl, h⟩), (imp_of (.cons rfl (.cons rfl (.cons rfl (.cons rfl (.nil))))) (.nil))⟩
                  · replace h := (if_neg (nt hc49)).symm.trans h
                    obtain ⟨x50, hx50, h⟩ := bindE h
                    refine .draw [] [[], [], [], [], [], [], [], [], [], [], [], [], [], [], [], [], [], [], [], [], [], [], [], [], [], [], [], [], [], [], [], [], [], [], [], [], [], [], [], [], [], [], [], []] [[], [], [], [], [], [], [], [], [], [], [], [], [], [], [], [], [], [], [], [], [], [], [], [], [], [], [], [], [], [], [], [], [], [], [], [], [], [], [], [], [], [], [], []] [[]]
                      [(0, 0), (1, 0), (2, 0), (3, 0), (4, 0), (5, 0), (6, 0), (7, 0), (8, 0), (9, 0), (10, 0), (11, 0), (12, 0), (13, 0), (14, 0), (15, 0), (16, 0), (17, 0), (18, 0), (19, 0), (20, 0), (21, 0), (22, 0), (23, 0), (24, 0), (25, 0), (26, 0), (27, 0), (28, 0), (29, 0), (30, 0), (31, 0), (32, 0), (33, 0), (34, 0), (35, 0), (36, 0), (37, 0), (38, 0), (39, 0), (40, 0), (41, 0), (42, 0), (43, 0)] [] 0
                      [⟨[(55, .int .i64 y9.2.2), (56, .bool false), (57, .bool false), (58, .int .i64 y9.2.1), (59, .sl 5 .ro (y7.2.map (PV.int .u8))), (60, .int .i64 (y7.2.length : Int)), (61, .bool false), (62, .bool false), (63, .bool false), (64, .sl 22 .ro (y9.1.map pv22)), (65, .sl 22 .ro (y7.1.map pv22)), (66, .bool y43), (67, .bool false), (68, .bool false), (69, .bool false), (70, .int .i64 y11.2.1), (71, .int .i64 y8), (72, .bool false), (73, .bool false), (74, .bool false), (75, .sl 22 .ro (y11.1.map pv22)), (76, .int .i64 (y11.1.length : Int)), (77, .sl 22 .ro (y7.1.map pv22)), (78, .int .i64 (y7.1.length : Int)), (79, .bool false), (80, .bool false), (81, .bool false), (82, .sl 22 .ro (y11.1.map pv22)), (83, .sl 22 .ro (y7.1.map pv22)), (84, .sl 22 .ro (y11.1.map pv22)), (85, .int .i64 (y11.1.length : Int)), (86, .sl 22 .ro (x47.map pv22)), (87, .bool y48), (88, .bool false), (89, .bool false), (90, .bool false), (91, .sl 5 .ro (y13.map (PV.int .u8))), (92, .str (mkStr y13)), (93, .sl 5 .ro (y7.2.map (PV.int .u8))), (94, .int .i64 y11.2.1), (95, .sl 5 .ro (x50.map (PV.int .u8))), (96, .str (mkStr x50)), (97, .bool (!(sEq (mkStr y13) (mkStr x50)))), (98, .bool (!(sEq (mkStr y13) (mkStr x50)))), (2, .sl 5 .ro (a2.map (PV.int .u8))), (7, .sl 22 .ro (y7.1.map pv22)), (8, .sl 5 .ro (y7.2.map (PV.int .u8))), (9, .int .i64 y8), (10, .sl 22 .ro (y9.1.map pv22)), (11, .int .i64 y9.2.1), (12, .int .i64 y9.2.2), (13, .sl 22 .ro (y11.1.map pv22)), (14, .int .i64 y11.2.1), (16, .sl 5 .ro (y13.map (PV.int .u8)))], [], []⟩]
                      [(2, .sl 5 .ro (a2.map (PV.int .u8))), (7, .sl 22 .ro (y7.1.map pv22)), (8, .sl 5 .ro (y7.2.map (PV.int .u8))), (9, .int .i64 y8), (10, .sl 22 .ro (y9.1.map pv22)), (11, .int .i64 y9.2.1), (12, .int .i64 y9.2.2), (13, .sl 22 .ro (y11.1.map pv22)), (14, .int .i64 y11.2.1), (16, .sl 5 .ro (y13.map (PV.int .u8)))]
                      (.cons [12] [] (fun _ _ h => .move (h _)) rfl rfl <|
                      .cons [55] [] (fun _ _ h => .valB hc41 (h _)) rfl rfl <|
                      .cons [56] [] (fun _ _ h => .move (h _)) rfl rfl <|
                      .cons [11, 57] [] (fun _ _ h => .move (h _)) rfl rfl <|
                      .cons [8, 57] [] (fun _ _ h => .move (h _)) rfl rfl <|
                      .cons [59, 57] [] (fun _ _ h => .lenL (f := (PV.int .u8)) (h _)) rfl rfl <|
                      .cons [58, 60, 57] [] (fun _ _ h => .valB hc42 (h _)) rfl rfl <|
                      .cons [57, 61] [] (fun _ _ h => .brF (h _)) rfl rfl <|
                      .cons [62] [] (fun _ _ h => .move (h _)) rfl rfl <|
                      .cons [10, 63] [] (fun _ _ h => .move (h _)) rfl rfl <|
                      .cons [7, 63] [] (fun _ _ h => .move (h _)) rfl rfl <|
                      .cons [64, 65, 63] [] (fun _ _ h => .cP (g50 hy43) (h _)) rfl rfl <|
                      .cons [66, 63] [] (fun _ _ h => .valB hc44 (h _)) rfl rfl <|
                      .cons [63, 67] [] (fun _ _ h => .brF (h _)) rfl rfl <|
                      .cons [68] [] (fun _ _ h => .move (h _)) rfl rfl <|
                      .cons [14, 69] [] (fun _ _ h => .move (h _)) rfl rfl <|
                      .cons [9, 69] [] (fun _ _ h => .move (h _)) rfl rfl <|
                      .cons [70, 71, 69] [] (fun _ _ h => .valB hc45 (h _)) rfl rfl <|
                      .cons [69, 72] [] (fun _ _ h => .brF (h _)) rfl rfl <|
                      .cons [73] [] (fun _ _ h => .move (h _)) rfl rfl <|
                      .cons [13, 74] [] (fun _ _ h => .move (h _)) rfl rfl <|
                      .cons [75, 74] [] (fun _ _ h => .lenL (f := pv22) (h _)) rfl rfl <|
                      .cons [7, 74] [] (fun _ _ h => .move (h _)) rfl rfl <|
                      .cons [77, 74] [] (fun _ _ h => .lenL (f := pv22) (h _)) rfl rfl <|
                      .cons [76, 78, 74] [] (fun _ _ h => .valB hc46 (h _)) rfl rfl <|
                      .cons [74, 79] [] (fun _ _ h => .brF (h _)) rfl rfl <|
                      .cons [80] [] (fun _ _ h => .move (h _)) rfl rfl <|
                      .cons [13, 81] [] (fun _ _ h => .move (h _)) rfl rfl <|
                      .cons [7, 81] [] (fun _ _ h => .move (h _)) rfl rfl <|
                      .cons [13, 81] [] (fun _ _ h => .move (h _)) rfl rfl <|
                      .cons [84, 81] [] (fun _ _ h => .lenL (f := pv22) (h _)) rfl rfl <|
                      .cons [83, 85, 81] [] (fun _ _ h => .partL (f := pv22) hx47 (h _)) rfl rfl <|
                      .cons [82, 86, 81] [] (fun _ _ h => .cP (g50 hy48) (h _)) rfl rfl <|
                      .cons [87, 81] [] (fun _ _ h => .valB hc49 (h _)) rfl rfl <|
                      .cons [81, 88] [] (fun _ _ h => .brF (h _)) rfl rfl <|
                      .cons [89] [] (fun _ _ h => .move (h _)) rfl rfl <|
                      .cons [16, 90] [] (fun _ _ h => .move (h _)) rfl rfl <|
                      .cons [91, 90] [] (fun _ _ h => .toStr (h _)) rfl rfl <|
                      .cons [8, 90] [] (fun _ _ h => .move (h _)) rfl rfl <|
                      .cons [14, 90] [] (fun _ _ h => .move (h _)) rfl rfl <|
                      .cons [93, 94, 90] [] (fun _ _ h => .partL (f := (PV.int .u8)) hx50 (h _)) rfl rfl <|
                      .cons [95, 90] [] (fun _ _ h => .toStr (h _)) rfl rfl <|
                      .cons [92, 96, 90] [] (fun _ _ h => .val (h _)) rfl rfl <|
                      .cons [90, 97] [] (fun _ _ h => .brF (h _)) rfl rfl <|
                      .nil)
                      (.nil)
                      (by kernel_rfl) rfl (.cons rfl (.cons rfl (.cons rfl (.cons rfl (.cons rfl (.cons rfl (.cons rfl (.cons rfl (.cons rfl (.cons rfl (.nil))))))))))) (.nil) (.nil) ?_
                    exact ⟨_, (.inr (⟨_, rfl, h⟩)), (imp_of (.cons rfl (.cons rfl (.cons rfl (.cons rfl (.nil))))) (.nil))⟩
      · rintro T (⟨rfl, h⟩ | ⟨v39, rfl, h⟩)
        · subst hj38
          refine .condT ?_
          refine .seq ?_
          refine .region ?_
          refine .assign ?_
          refine .nil ?_
          cases h
          exact .ret (fin_gen0 none)
        · subst hj40
          refine .cond (fun hc51 => ?_) (fun hc51 => ?_)
          · replace h := (if_pos hc51).symm.trans h
            refine .seq ?_
            refine .region ?_
            refine .assign ?_
            refine .nil ?_
            cases h
            exact .ret (fin_gen0 none)
          · replace h := (if_neg (nt hc51)).symm.trans h
            refine .skip ?_
            refine .seq ?_
            refine .region ?_
            refine .move ?_
            refine .move ?_
            obtain ⟨y52, hy52, h⟩ := bindE h
            refine .cP (g46r hy52) ?_
            refine .move ?_
            refine .val ?_
            refine .val ?_
            refine .assign ?_
            refine .assign ?_
            refine .nil ?_
            refine .seq ?_
            refine .region ?_
            refine .move ?_
            obtain ⟨y53, hy53, h⟩ := bindE h
            refine .cP (g48r hy53) ?_
            refine .move ?_
            refine .val ?_
            refine .val ?_
            refine .val ?_
            refine .assign ?_
            refine .assign ?_
            refine .assign ?_
            refine .nil ?_
            refine .seq ?_
            rcases bool_em ((y52.2 == (0 : Int))) with hc61 | hc61
            · replace h := (if_pos hc61).symm.trans h
              rcases bool_em ((y53.2.2 == (0 : Int))) with hc62 | hc62
              · replace h := (if_pos hc62).symm.trans h
                rcases bool_em (((y53.1.length : Int) == (w64 ((y11.1.length : Int) + (1 : Int))))) with hc63 | hc63
                · replace h := (if_pos hc63).symm.trans h
                  obtain ⟨x64, hx64, h⟩ := bindE h
                  obtain ⟨y65, hy65, h⟩ := bindE h
                  rcases bool_em (y65) with hc66 | hc66
                  · replace h := (if_pos hc66).symm.trans h
                    obtain ⟨x67, hx67, h⟩ := bindE h
                    refine .draw [] [[], [], [], [], [], [], [], [], [], [], [], [], [], [], [], [], [], [], [], [], [], [], [], [], [], [], [], [], [], [], [], [], [], []] [[], [], [], [], [], [], [], [], [], [], [], [], [], [], [], [], [], [], [], [], [], [], [], [], [], [], [], [], [], [], [], [], [], []] [[]]
                      [(0, 0), (1, 0), (2, 0), (3, 0), (4, 0), (5, 0), (6, 0), (7, 0), (8, 0), (9, 0), (10, 0), (11, 0), (12, 0), (13, 0), (14, 0), (15, 0), (16, 0), (17, 0), (18, 0), (19, 0), (20, 0), (21, 0), (22, 0), (23, 0), (24, 0), (25, 0), (26, 0), (27, 0), (28, 0), (29, 0), (30, 0), (31, 0), (32, 0), (33, 0)] [] 0
                      [⟨[(111, .int .i64 y52.2), (112, .bool true), (113, .bool true), (114, .int .i64 y53.2.2), (115, .bool true), (116, .bool true), (117, .bool true), (118, .sl 22 .ro (y53.1.map pv22)), (119, .int .i64 (y53.1.length : Int)), (120, .sl 22 .ro (y11.1.map pv22)), (121, .int .i64 (y11.1.length : Int)), (122, .int .i64 (w64 ((y11.1.length : Int) + (1 : Int)))), (123, .bool true), (124, .bool true), (125, .bool true), (126, .sl 22 .ro (y53.1.map pv22)), (127, .sl 22 .ro (y11.1.map pv22)), (128, .int .i64 (y11.1.length : Int)), (129, .sl 22 .ro (x64.map pv22)), (130, .sl 22 .ro (y11.1.map pv22)), (131, .bool true), (132, .bool true), (133, .bool true), (134, .sl 22 .ro (y53.1.map pv22)), (135, .sl 22 .ro (y11.1.map pv22)), (136, .int .i64 (y11.1.length : Int)), (137, .ep 22 .ro (y53.1.map pv22) ((y11.1.length : Int) : Int).toNat 0), (138, .sl 5 .ro (x67.map (PV.int .u8))), (139, .str (mkStr x67)), (140, .sl 5 .ro (a2.map (PV.int .u8))), (141, .str (mkStr a2)), (142, .bool (sEq (mkStr x67) (mkStr a2))), (143, .bool (sEq (mkStr x67) (mkStr a2))), (6, .bool (sEq (mkStr x67) (mkStr a2))), (2, .sl 5 .ro (a2.map (PV.int .u8))), (13, .sl 22 .ro (y11.1.map pv22)), (18, .int .i64 y52.2), (19, .sl 22 .ro (y53.1.map pv22)), (21, .int .i64 y53.2.2)], [], []⟩]
                      [(2, .sl 5 .ro (a2.map (PV.int .u8))), (13, .sl 22 .ro (y11.1.map pv22)), (18, .int .i64 y52.2), (19, .sl 22 .ro (y53.1.map pv22)), (21, .int .i64 y53.2.2)]
                      (.cons [18] [] (fun _ _ h => .move (h _)) rfl rfl <|
                      .cons [111] [] (fun _ _ h => .valB hc61 (h _)) rfl rfl <|
                      .cons [112] [] (fun _ _ h => .move (h _)) rfl rfl <|
                      .cons [21, 113] [] (fun _ _ h => .move (h _)) rfl rfl <|
                      .cons [114, 113] [] (fun _ _ h => .valB hc62 (h _)) rfl rfl <|
                      .cons [113, 115] [] (fun _ _ h => .brT (h _)) rfl rfl <|
                      .cons [116] [] (fun _ _ h => .move (h _)) rfl rfl <|
                      .cons [19, 117] [] (fun _ _ h => .move (h _)) rfl rfl <|
                      .cons [118, 117] [] (fun _ _ h => .lenL (f := pv22) (h _)) rfl rfl <|
                      .cons [13, 117] [] (fun _ _ h => .move (h _)) rfl rfl <|
                      .cons [120, 117] [] (fun _ _ h => .lenL (f := pv22) (h _)) rfl rfl <|
                      .cons [121, 117] [] (fun _ _ h => .val (h _)) rfl rfl <|
                      .cons [119, 122, 117] [] (fun _ _ h => .valB hc63 (h _)) rfl rfl <|
                      .cons [117, 123] [] (fun _ _ h => .brT (h _)) rfl rfl <|
                      .cons [124] [] (fun _ _ h => .move (h _)) rfl rfl <|
                      .cons [19, 125] [] (fun _ _ h => .move (h _)) rfl rfl <|
                      .cons [13, 125] [] (fun _ _ h => .move (h _)) rfl rfl <|
                      .cons [127, 125] [] (fun _ _ h => .lenL (f := pv22) (h _)) rfl rfl <|
                      .cons [126, 128, 125] [] (fun _ _ h => .partL (f := pv22) hx64 (h _)) rfl rfl <|
                      .cons [13, 125] [] (fun _ _ h => .move (h _)) rfl rfl <|
                      .cons [129, 130, 125] [] (fun _ _ h => .cP (g50 hy65) (by rw [hc66]; exact h _)) rfl rfl <|
                      .cons [125, 131] [] (fun _ _ h => .brT (h _)) rfl rfl <|
                      .cons [132] [] (fun _ _ h => .move (h _)) rfl rfl <|
                      .cons [19, 133] [] (fun _ _ h => .move (h _)) rfl rfl <|
                      .cons [13, 133] [] (fun _ _ h => .move (h _)) rfl rfl <|
                      .cons [135, 133] [] (fun _ _ h => .lenL (f := pv22) (h _)) rfl rfl <|
                      .cons [134, 136, 133] [] (fun _ _ h => .idxL (f := pv22) hx67 (h _)) rfl rfl <|
                      .cons [137, 133] [] (fun _ _ h => .ldL hx67 (h _)) rfl rfl <|
                      .cons [138, 133] [] (fun _ _ h => .toStr (h _)) rfl rfl <|
                      .cons [2, 133] [] (fun _ _ h => .move (h _)) rfl rfl <|
                      .cons [140, 133] [] (fun _ _ h => .toStr (h _)) rfl rfl <|
                      .cons [139, 141, 133] [] (fun _ _ h => .val (h _)) rfl rfl <|
                      .cons [133, 142] [] (fun _ _ h => .brT (h _)) rfl rfl <|
                      .cons [143] [] (fun _ _ h => .assign (h _)) rfl rfl <|
                      .nil)
                      (.nil)
                      (by kernel_rfl) rfl (.cons rfl (.cons rfl (.cons rfl (.cons rfl (.cons rfl (.nil)))))) (.nil) (.nil) ?_
                    cases h
                    exact .ret (fin_gen0 none)
                  · replace h := (if_neg (nt hc66)).symm.trans h
                    refine .draw [] [[], [], [], [], [], [], [], [], [], [], [], [], [], [], [], [], [], [], [], [], [], [], [], [], [], [], [], [], [], [], [], [], [], []] [[], [], [], [], [], [], [], [], [], [], [], [], [], [], [], [], [], [], [], [], [], [], [], [], [], [], [], [], [], [], [], [], [], []] [[]]
                      [(0, 0), (1, 0), (2, 0), (3, 0), (4, 0), (5, 0), (6, 0), (7, 0), (8, 0), (9, 0), (10, 0), (11, 0), (12, 0), (13, 0), (14, 0), (15, 0), (16, 0), (17, 0), (18, 0), (19, 0), (20, 0), (21, 0), (22, 0), (23, 0), (24, 0), (25, 0), (26, 0), (27, 0), (28, 0), (29, 0), (30, 0), (31, 0), (32, 0), (33, 0)] [] 0
                      [⟨[(111, .int .i64 y52.2), (112, .bool true), (113, .bool true), (114, .int .i64 y53.2.2), (115, .bool true), (116, .bool true), (117, .bool true), (118, .sl 22 .ro (y53.1.map pv22)), (119, .int .i64 (y53.1.length : Int)), (120, .sl 22 .ro (y11.1.map pv22)), (121, .int .i64 (y11.1.length : Int)), (122, .int .i64 (w64 ((y11.1.length : Int) + (1 : Int)))), (123, .bool true), (124, .bool true), (125, .bool true), (126, .sl 22 .ro (y53.1.map pv22)), (127, .sl 22 .ro (y11.1.map pv22)), (128, .int .i64 (y11.1.length : Int)), (129, .sl 22 .ro (x64.map pv22)), (130, .sl 22 .ro (y11.1.map pv22)), (131, .bool false), (132, .bool false), (133, .bool false), (134, .tup []), (135, .tup []), (136, .tup []), (137, .tup []), (138, .tup []), (139, .tup []), (140, .tup []), (141, .tup []), (142, .tup []), (143, .bool false), (6, .bool false), (2, .sl 5 .ro (a2.map (PV.int .u8))), (13, .sl 22 .ro (y11.1.map pv22)), (18, .int .i64 y52.2), (19, .sl 22 .ro (y53.1.map pv22)), (21, .int .i64 y53.2.2)], [], []⟩]
                      [(2, .sl 5 .ro (a2.map (PV.int .u8))), (13, .sl 22 .ro (y11.1.map pv22)), (18, .int .i64 y52.2), (19, .sl 22 .ro (y53.1.map pv22)), (21, .int .i64 y53.2.2)]
                      (.cons [18] [] (fun _ _ h => .move (h _)) rfl rfl <|
                      .cons [111] [] (fun _ _ h => .valB hc61 (h _)) rfl rfl <|
                      .cons [112] [] (fun _ _ h => .move (h _)) rfl rfl <|
                      .cons [21, 113] [] (fun _ _ h => .move (h _)) rfl rfl <|
                      .cons [114, 113] [] (fun _ _ h => .valB hc62 (h _)) rfl rfl <|
                      .cons [113, 115] [] (fun _ _ h => .brT (h _)) rfl rfl <|
                      .cons [116] [] (fun _ _ h => .move (h _)) rfl rfl <|
                      .cons [19, 117] [] (fun _ _ h => .move (h _)) rfl rfl <|
                      .cons [118, 117] [] (fun _ _ h => .lenL (f := pv22) (h _)) rfl rfl <|
                      .cons [13, 117] [] (fun _ _ h => .move (h _)) rfl rfl <|
                      .cons [120, 117] [] (fun _ _ h => .lenL (f := pv22) (h _)) rfl rfl <|
                      .cons [121, 117] [] (fun _ _ h => .val (h _)) rfl rfl <|
                      .cons [119, 122, 117] [] (fun _ _ h => .valB hc63 (h _)) rfl rfl <|
                      .cons [117, 123] [] (fun _ _ h => .brT (h _)) rfl rfl <|
                      .cons [124] [] (fun _ _ h => .move (h _)) rfl rfl <|
                      .cons [19, 125] [] (fun _ _ h => .move (h _)) rfl rfl <|
                      .cons [13, 125] [] (fun _ _ h => .move (h _)) rfl rfl <|
                      .cons [127, 125] [] (fun _ _ h => .lenL (f := pv22) (h _)) rfl rfl <|
                      .cons [126, 128, 125] [] (fun _ _ h => .partL (f := pv22) hx64 (h _)) rfl rfl <|
                      .cons [13, 125] [] (fun _ _ h => .move (h _)) rfl rfl <|
                      .cons [129, 130, 125] [] (fun _ _ h => .cP (g50 hy65) (by rw [hc66]; exact h _)) rfl rfl <|
                      .cons [125, 131] [] (fun _ _ h => .brT (h _)) rfl rfl <|
                      .cons [132] [] (fun _ _ h => .move (h _)) rfl rfl <|
                      .cons [133] [] (fun _ _ h => .skip (h _)) rfl rfl <|
                      .cons [133] [] (fun _ _ h => .skip (h _)) rfl rfl <|
                      .cons [133] [] (fun _ _ h => .skip (h _)) rfl rfl <|
                      .cons [133] [] (fun _ _ h => .skip (h _)) rfl rfl <|
                      .cons [133] [] (fun _ _ h => .skip (h _)) rfl rfl <|
                      .cons [133] [] (fun _ _ h => .skip (h _)) rfl rfl <|
                      .cons [133] [] (fun _ _ h => .skip (h _)) rfl rfl <|
                      .cons [133] [] (fun _ _ h => .skip (h _)) rfl rfl <|
                      .cons [133] [] (fun _ _ h => .skip (h _)) rfl rfl <|
                      .cons [133, 142] [] (fun _ _ h => .brF (h _)) rfl rfl <|
                      .cons [143] [] (fun _ _ h => .assign (h _)) rfl rfl <|
                      .nil)
                      (.nil)
                      (by kernel_rfl) rfl (.cons rfl (.cons rfl (.cons rfl (.cons rfl (.cons rfl (.nil)))))) (.nil) (.nil) ?_
                    cases h
                    exact .ret (fin_gen0 none)
                · replace h := (if_neg (nt hc63)).symm.trans h
                  refine .draw [] [[], [], [], [], [], [], [], [], [], [], [], [], [], [], [], [], [], [], [], [], [], [], [], [], [], [], [], [], [], [], [], [], [], []] [[], [], [], [], [], [], [], [], [], [], [], [], [], [], [], [], [], [], [], [], [], [], [], [], [], [], [], [], [], [], [], [], [], []] [[]]
                    [(0, 0), (1, 0), (2, 0), (3, 0), (4, 0), (5, 0), (6, 0), (7, 0), (8, 0), (9, 0), (10, 0), (11, 0), (12, 0), (13, 0), (14, 0), (15, 0), (16, 0), (17, 0), (18, 0), (19, 0), (20, 0), (21, 0), (22, 0), (23, 0), (24, 0), (25, 0), (26, 0), (27, 0), (28, 0), (29, 0), (30, 0), (31, 0), (32, 0), (33, 0)] [] 0
                    [⟨[(111, .int .i64 y52.2), (112, .bool true), (113, .bool true), (114, .int .i64 y53.2.2), (115, .bool true), (116, .bool true), (117, .bool true), (118, .sl 22 .ro (y53.1.map pv22)), (119, .int .i64 (y53.1.length : Int)), (120, .sl 22 .ro (y11.1.map pv22)), (121, .int .i64 (y11.1.length : Int)), (122, .int .i64 (w64 ((y11.1.length : Int) + (1 : Int)))), (123, .bool false), (124, .bool false), (125, .bool false), (126, .tup []), (127, .tup []), (128, .tup []), (129, .tup []), (130, .tup []), (131, .tup []), (132, .bool false), (133, .bool false), (134, .tup []), (135, .tup []), (136, .tup []), (137, .tup []), (138, .tup []), (139, .tup []), (140, .tup []), (141, .tup []), (142, .tup []), (143, .bool false), (6, .bool false), (2, .sl 5 .ro (a2.map (PV.int .u8))), (13, .sl 22 .ro (y11.1.map pv22)), (18, .int .i64 y52.2), (19, .sl 22 .ro (y53.1.map pv22)), (21, .int .i64 y53.2.2)], [], []⟩]
                    [(2, .sl 5 .ro (a2.map (PV.int .u8))), (13, .sl 22 .ro (y11.1.map pv22)), (18, .int .i64 y52.2), (19, .sl 22 .ro (y53.1.map pv22)), (21, .int .i64 y53.2.2)]
                    (.cons [18] [] (fun _ _ h => .move (h _)) rfl rfl <|
                    .cons [111] [] (fun _ _ h => .valB hc61 (h _)) rfl rfl <|
                    .cons [112] [] (fun _ _ h => .move (h _)) rfl rfl <|
                    .cons [21, 113] [] (fun _ _ h => .move (h _)) rfl rfl <|
                    .cons [114, 113] [] (fun _ _ h => .valB hc62 (h _)) rfl rfl <|
                    .cons [113, 115] [] (fun _ _ h => .brT (h _)) rfl rfl <|
                    .cons [116] [] (fun _ _ h => .move (h _)) rfl rfl <|
                    .cons [19, 117] [] (fun _ _ h => .move (h _)) rfl rfl <|
                    .cons [118, 117] [] (fun _ _ h => .lenL (f := pv22) (h _)) rfl rfl <|
                    .cons [13, 117] [] (fun _ _ h => .move (h _)) rfl rfl <|
                    .cons [120, 117] [] (fun _ _ h => .lenL (f := pv22) (h _)) rfl rfl <|
                    .cons [121, 117] [] (fun _ _ h => .val (h _)) rfl rfl <|
                    .cons [119, 122, 117] [] (fun _ _ h => .valB hc63 (h _)) rfl rfl <|
                    .cons [117, 123] [] (fun _ _ h => .brT (h _)) rfl rfl <|
                    .cons [124] [] (fun _ _ h => .move (h _)) rfl rfl <|
                    .cons [125] [] (fun _ _ h => .skip (h _)) rfl rfl <|
                    .cons [125] [] (fun _ _ h => .skip (h _)) rfl rfl <|
                    .cons [125] [] (fun _ _ h => .skip (h _)) rfl rfl <|
                    .cons [125] [] (fun _ _ h => .skip (h _)) rfl rfl <|
                    .cons [125] [] (fun _ _ h => .skip (h _)) rfl rfl <|
                    .cons [125] [] (fun _ _ h => .skip (h _)) rfl rfl <|
                    .cons [125, 131] [] (fun _ _ h => .brF (h _)) rfl rfl <|
                    .cons [132] [] (fun _ _ h => .move (h _)) rfl rfl <|
                    .cons [133] [] (fun _ _ h => .skip (h _)) rfl rfl <|
                    .cons [133] [] (fun _ _ h => .skip (h _)) rfl rfl <|
                    .cons [133] [] (fun _ _ h => .skip (h _)) rfl rfl <|
                    .cons [133] [] (fun _ _ h => .skip (h _)) rfl rfl <|
                    .cons [133] [] (fun _ _ h => .skip (h _)) rfl rfl <|
                    .cons [133] [] (fun _ _ h => .skip (h _)) rfl rfl <|
                    .cons [133] [] (fun _ _ h => .skip (h _)) rfl rfl <|
                    .cons [133] [] (fun _ _ h => .skip (h _)) rfl rfl <|
                    .cons [133] [] (fun _ _ h => .skip (h _)) rfl rfl <|
                    .cons [133, 142] [] (fun _ _ h => .brF (h _)) rfl rfl <|
                    .cons [143] [] (fun _ _ h => .assign (h _)) rfl rfl <|
                    .nil)
                    (.nil)
                    (by kernel_rfl) rfl (.cons rfl (.cons rfl (.cons rfl (.cons rfl (.cons rfl (.nil)))))) (.nil) (.nil) ?_
                  cases h
                  exact .ret (fin_gen0 none)
              · replace h := (if_neg (nt hc62)).symm.trans h
                refine .draw [] [[], [], [], [], [], [], [], [], [], [], [], [], [], [], [], [], [], [], [], [], [], [], [], [], [], [], [], [], [], [], [], [], [], []] [[], [], [], [], [], [], [], [], [], [], [], [], [], [], [], [], [], [], [], [], [], [], [], [], [], [], [], [], [], [], [], [], [], []] [[]]
                  [(0, 0), (1, 0), (2, 0), (3, 0), (4, 0), (5, 0), (6, 0), (7, 0), (8, 0), (9, 0), (10, 0), (11, 0), (12, 0), (13, 0), (14, 0), (15, 0), (16, 0), (17, 0), (18, 0), (19, 0), (20, 0), (21, 0), (22, 0), (23, 0), (24, 0), (25, 0), (26, 0), (27, 0), (28, 0), (29, 0), (30, 0), (31, 0), (32, 0), (33, 0)] [] 0
                  [⟨[(111, .int .i64 y52.2), (112, .bool true), (113, .bool true), (114, .int .i64 y53.2.2), (115, .bool false), (116, .bool false), (117, .bool false), (118, .tup []), (119, .tup []), (120, .tup []), (121, .tup []), (122, .tup []), (123, .tup []), (124, .bool false), (125, .bool false), (126, .tup []), (127, .tup []), (128, .tup []), (129, .tup []), (130, .tup []), (131, .tup []), (132, .bool false), (133, .bool false), (134, .tup []), (135, .tup []), (136, .tup []), (137, .tup []), (138, .tup []), (139, .tup []), (140, .tup []), (141, .tup []), (142, .tup []), (143, .bool false), (6, .bool false), (2, .sl 5 .ro (a2.map (PV.int .u8))), (13, .sl 22 .ro (y11.1.map pv22)), (18, .int .i64 y52.2), (19, .sl 22 .ro (y53.1.map pv22)), (21, .int .i64 y53.2.2)], [], []⟩]
                  [(2, .sl 5 .ro (a2.map (PV.int .u8))), (13, .sl 22 .ro (y11.1.map pv22)), (18, .int .i64 y52.2), (19, .sl 22 .ro (y53.1.map pv22)), (21, .int .i64 y53.2.2)]
                  (.cons [18] [] (fun _ _ h => .move (h _)) rfl rfl <|
                  .cons [111] [] (fun _ _ h => .valB hc61 (h _)) rfl rfl <|
                  .cons [112] [] (fun _ _ h => .move (h _)) rfl rfl <|
                  .cons [21, 113] [] (fun _ _ h => .move (h _)) rfl rfl <|
                  .cons [114, 113] [] (fun _ _ h => .valB hc62 (h _)) rfl rfl <|
                  .cons [113, 115] [] (fun _ _ h => .brT (h _)) rfl rfl <|
                  .cons [116] [] (fun _ _ h => .move (h _)) rfl rfl <|
                  .cons [117] [] (fun _ _ h => .skip (h _)) rfl rfl <|
                  .cons [117] [] (fun _ _ h => .skip (h _)) rfl rfl <|
                  .cons [117] [] (fun _ _ h => .skip (h _)) rfl rfl <|
                  .cons [117] [] (fun _ _ h => .skip (h _)) rfl rfl <|
                  .cons [117] [] (fun _ _ h => .skip (h _)) rfl rfl <|
                  .cons [117] [] (fun _ _ h => .skip (h _)) rfl rfl <|
                  .cons [117, 123] [] (fun _ _ h => .brF (h _)) rfl rfl <|
                  .cons [124] [] (fun _ _ h => .move (h _)) rfl rfl <|
                  .cons [125] [] (fun _ _ h => .skip (h _)) rfl rfl <|
                  .cons [125] [] (fun _ _ h => .skip (h _)) rfl rfl <|
                  .cons [125] [] (fun _ _ h => .skip (h _)) rfl rfl <|
                  .cons [125] [] (fun _ _ h => .skip (h _)) rfl rfl <|
                  .cons [125] [] (fun _ _ h => .skip (h _)) rfl rfl <|
                  .cons [125] [] (fun _ _ h => .skip (h _)) rfl rfl <|
                  .cons [125, 131] [] (fun _ _ h => .brF (h _)) rfl rfl <|
                  .cons [132] [] (fun _ _ h => .move (h _)) rfl rfl <|
                  .cons [133] [] (fun _ _ h => .skip (h _)) rfl rfl <|
                  .cons [133] [] (fun _ _ h => .skip (h _)) rfl rfl <|
                  .cons [133] [] (fun _ _ h => .skip (h _)) rfl rfl <|
                  .cons [133] [] (fun _ _ h => .skip (h _)) rfl rfl <|
                  .cons [133] [] (fun _ _ h => .skip (h _)) rfl rfl <|
                  .cons [133] [] (fun _ _ h => .skip (h _)) rfl rfl <|
                  .cons [133] [] (fun _ _ h => .skip (h _)) rfl rfl <|
                  .cons [133] [] (fun _ _ h => .skip (h _)) rfl rfl <|
                  .cons [133] [] (fun _ _ h => .skip (h _)) rfl rfl <|
                  .cons [133, 142] [] (fun _ _ h => .brF (h _)) rfl rfl <|
                  .cons [143] [] (fun _ _ h => .assign (h _)) rfl rfl <|
                  .nil)
                  (.nil)
                  (by kernel_rfl) rfl (.cons rfl (.cons rfl (.cons rfl (.cons rfl (.cons rfl (.nil)))))) (.nil) (.nil) ?_
                cases h
                exact .ret (fin_gen0 none)
            · replace h := (if_neg (nt hc61)).symm.trans h
              refine .draw [] [[], [], [], [], [], [], [], [], [], [], [], [], [], [], [], [], [], [], [], [], [], [], [], [], [], [], [], [], [], [], [], [], [], []] [[], [], [], [], [], [], [], [], [], [], [], [], [], [], [], [], [], [], [], [], [], [], [], [], [], [], [], [], [], [], [], [], [], []] [[]]
                [(0, 0), (1, 0), (2, 0), (3, 0), (4, 0), (5, 0), (6, 0), (7, 0), (8, 0), (9, 0), (10, 0), (11, 0), (12, 0), (13, 0), (14, 0), (15, 0), (16, 0), (17, 0), (18, 0), (19, 0), (20, 0), (21, 0), (22, 0), (23, 0), (24, 0), (25, 0), (26, 0), (27, 0), (28, 0), (29, 0), (30, 0), (31, 0), (32, 0), (33, 0)] [] 0
                [⟨[(111, .int .i64 y52.2), (112, .bool false), (113, .bool false), (114, .tup []), (115, .tup []), (116, .bool false), (117, .bool false), (118, .tup []), (119, .tup []), (120, .tup []), (121, .tup []), (122, .tup []), (123, .tup []), (124, .bool false), (125, .bool false), (126, .tup []), (127, .tup []), (128, .tup []), (129, .tup []), (130, .tup []), (131, .tup []), (132, .bool false), (133, .bool false), (134, .tup []), (135, .tup []), (136, .tup []), (137, .tup []), (138, .tup []), (139, .tup []), (140, .tup []), (141, .tup []), (142, .tup []), (143, .bool false), (6, .bool false), (2, .sl 5 .ro (a2.map (PV.int .u8))), (13, .sl 22 .ro (y11.1.map pv22)), (18, .int .i64 y52.2), (19, .sl 22 .ro (y53.1.map pv22)), (21, .int .i64 y53.2.2)], [], []⟩]
                [(2, .sl 5 .ro (a2.map (PV.int .u8))), (13, .sl 22 .ro (y11.1.map pv22)), (18, .int .i64 y52.2), (19, .sl 22 .ro (y53.1.map pv22)), (21, .int .i64 y53.2.2)]
                (.cons [18] [] (fun _ _ h => .move (h _)) rfl rfl <|
                .cons [111] [] (fun _ _ h => .valB hc61 (h _)) rfl rfl <|
                .cons [112] [] (fun _ _ h => .move (h _)) rfl rfl <|
                .cons [113] [] (fun _ _ h => .skip (h _)) rfl rfl <|
                .cons [113] [] (fun _ _ h => .skip (h _)) rfl rfl <|
                .cons [113, 115] [] (fun _ _ h => .brF (h _)) rfl rfl <|
                .cons [116] [] (fun _ _ h => .move (h _)) rfl rfl <|
                .cons [117] [] (fun _ _ h => .skip (h _)) rfl rfl <|
                .cons [117] [] (fun _ _ h => .skip (h _)) rfl rfl <|
                .cons [117] [] (fun _ _ h => .skip (h _)) rfl rfl <|
                .cons [117] [] (fun _ _ h => .skip (h _)) rfl rfl <|
                .cons [117] [] (fun _ _ h => .skip (h _)) rfl rfl <|
                .cons [117] [] (fun _ _ h => .skip (h _)) rfl rfl <|
                .cons [117, 123] [] (fun _ _ h => .brF (h _)) rfl rfl <|
                .cons [124] [] (fun _ _ h => .move (h _)) rfl rfl <|
                .cons [125] [] (fun _ _ h => .skip (h _)) rfl rfl <|
                .cons [125] [] (fun _ _ h => .skip (h _)) rfl rfl <|
                .cons [125] [] (fun _ _ h => .skip (h _)) rfl rfl <|
                .cons [125] [] (fun _ _ h => .skip (h _)) rfl rfl <|
                .cons [125] [] (fun _ _ h => .skip (h _)) rfl rfl <|
                .cons [125] [] (fun _ _ h => .skip (h _)) rfl rfl <|
                .cons [125, 131] [] (fun _ _ h => .brF (h _)) rfl rfl <|
                .cons [132] [] (fun _ _ h => .move (h _)) rfl rfl <|
                .cons [133] [] (fun _ _ h => .skip (h _)) rfl rfl <|
                .cons [133] [] (fun _ _ h => .skip (h _)) rfl rfl <|
                .cons [133] [] (fun _ _ h => .skip (h _)) rfl rfl <|
                .cons [133] [] (fun _ _ h => .skip (h _)) rfl rfl <|
                .cons [133] [] (fun _ _ h => .skip (h _)) rfl rfl <|
                .cons [133] [] (fun _ _ h => .skip (h _)) rfl rfl <|
                .cons [133] [] (fun _ _ h => .skip (h _)) rfl rfl <|
                .cons [133] [] (fun _ _ h => .skip (h _)) rfl rfl <|
                .cons [133] [] (fun _ _ h => .skip (h _)) rfl rfl <|
                .cons [133, 142] [] (fun _ _ h => .brF (h _)) rfl rfl <|
                .cons [143] [] (fun _ _ h => .assign (h _)) rfl rfl <|
                .nil)
                (.nil)
                (by kernel_rfl) rfl (.cons rfl (.cons rfl (.cons rfl (.cons rfl (.cons rfl (.nil)))))) (.nil) (.nil) ?_
              cases h
              exact .ret (fin_gen0 none)
end Go.Proofs.Ytcahjpkmldmjdaa
