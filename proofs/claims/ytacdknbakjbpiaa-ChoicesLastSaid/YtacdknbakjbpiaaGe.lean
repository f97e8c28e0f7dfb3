/-
  Plain functions of choices, slices, soundservicelaw30, soundservicemill, soundserviceref02, soundserviceref30, words, and that the code does what they say.
-/
import Derived.Test.YtacdknbakjbpiaaGd
import Derived.Test.YtacdknbakjbpiaaAb37
namespace Go.Proofs.Ytacdknbakjbpiaa
open Go Ab
/- slices.Equal[[]uint64,uint64] -/
def f109_l1 (n : Nat) (a0 : (List Int)) (a1 : (List Int)) (j17 : Unit → Option Bool) : Nat → Int → Option Bool
  | 0, _ => none
  | m28 + 1, v22 =>
    if decide (v22 < (a0.length : Int)) then (
    (lAt a0 v22).bind fun x34 =>
    (lAt a1 v22).bind fun x35 =>
    if (x34 != x35) then (
    some false)
    else (
    f109_l1 n a0 a1 j17 m28 (w64 (v22 + (1 : Int)))))
    else (
    j17 ())
def f109 (n : Nat) (a0 : (List Int)) (a1 : (List Int)) : Option Bool :=
  if ((a0.length : Int) != (a1.length : Int)) then (
  some false)
  else (
  joinK (fun (_ : Unit) =>
  some true) fun j17 =>
  f109_l1 n a0 a1 j17 n 0)
set_option maxHeartbeats 4000000 in
set_option maxRecDepth 100000 in
theorem g109 {n : Nat} {a0 : (List Int)} {a1 : (List Int)} {r : Bool} (h : f109 n a0 a1 = some r) :
    Ab.Can Try.prog 109 [.sl 71 .ro (a0.map (PV.int .u64)), .sl 71 .ro (a1.map (PV.int .u64))] H0 (.bool r) H0 := by
  refine can_of tabOK mix Try.call109 Try.func109 rfl (by kernel_rfl) (by show _ ≤ 26; simp) fun _ => ?_
  rw [f109] at h
  refine .seq ?_
  refine .region ?_
  refine .assign ?_
  refine .nil ?_
  refine .seq ?_
  refine .seq ?_
  refine .region ?_
  refine .move ?_
  refine .lenL (f := (PV.int .u64)) ?_
  refine .move ?_
  refine .lenL (f := (PV.int .u64)) ?_
  refine .val ?_
  refine .nil ?_
  refine .cond (fun hc2 => ?_) (fun hc2 => ?_)
  · replace h := (if_pos hc2).symm.trans h
    refine .seq ?_
    refine .region ?_
    refine .assign ?_
    refine .nil ?_
    cases h
    exact .ret (fin_gen0 none)
  · replace h := (if_neg (nt hc2)).symm.trans h
    refine .skip ?_
    obtain ⟨j17, hj17, h⟩ := joinE h
    refine .cutI (fun T => (T = St.of [] [] ∧ j17 () = some r)) ?_ ?_
    · refine .seq ?_
      refine .region ?_
      refine .move ?_
      refine .lenL (f := (PV.int .u64)) ?_
      refine .move ?_
      refine .nil ?_
      refine .block ?_
      refine .loopI (fun m T => ∃ (v22 : Int), T = St.of [(0, .sl 71 .ro (a0.map (PV.int .u64))), (1, .sl 71 .ro (a1.map (PV.int .u64))), (12, .int .i64 (a0.length : Int)), (13, .int .i64 v22)] [] ∧ f109_l1 n a0 a1 j17 m v22 = some r) _ _ ⟨_, rfl, h⟩ (imp_of (.cons rfl (.cons rfl (.cons rfl (.cons rfl (.nil))))) (.nil)) ?_
      rintro m28 T ⟨v22, rfl, h⟩
      obtain _ | m28 := m28
      · rw [f109_l1] at h; cases h
      rw [f109_l1] at h
      refine .seq ?_
      refine .region ?_
      refine .val ?_
      refine .nil ?_
      refine .seq ?_
      refine .cond (fun hc30 => ?_) (fun hc30 => ?_)
      · replace h := (if_pos hc30).symm.trans h
        refine .skip ?_
        refine .seq ?_
        refine .block ?_
        refine .seq ?_
        refine .region ?_
        refine .move ?_
        refine .assign ?_
        refine .nil ?_
        refine .seq ?_
        obtain ⟨x34, hx34, h⟩ := bindE h
        obtain ⟨x35, hx35, h⟩ := bindE h
        refine .draw [] [[], [], [], [], [], [], [], [], []] [[], [], [], [], [], [], [], [], []] [[]]
          [(0, 0), (1, 0), (2, 0), (3, 0), (4, 0), (5, 0), (6, 0), (7, 0), (8, 0)] [] 0
          [⟨[(16, .sl 71 .ro (a0.map (PV.int .u64))), (17, .int .i64 v22), (18, .ep 71 .ro (a0.map (PV.int .u64)) (v22 : Int).toNat 0), (19, .int .u64 x34), (20, .sl 71 .ro (a1.map (PV.int .u64))), (21, .int .i64 v22), (22, .ep 71 .ro (a1.map (PV.int .u64)) (v22 : Int).toNat 0), (23, .int .u64 x35), (24, .bool (x34 != x35)), (0, .sl 71 .ro (a0.map (PV.int .u64))), (1, .sl 71 .ro (a1.map (PV.int .u64))), (5, .int .i64 v22), (12, .int .i64 (a0.length : Int)), (13, .int .i64 v22)], [], []⟩]
          [(0, .sl 71 .ro (a0.map (PV.int .u64))), (1, .sl 71 .ro (a1.map (PV.int .u64))), (5, .int .i64 v22), (12, .int .i64 (a0.length : Int)), (13, .int .i64 v22)]
          (.cons [0] [] (fun _ _ h => .move (h _)) rfl rfl <|
          .cons [5] [] (fun _ _ h => .move (h _)) rfl rfl <|
          .cons [16, 17] [] (fun _ _ h => .idxL (f := (PV.int .u64)) hx34 (h _)) rfl rfl <|
          .cons [18] [] (fun _ _ h => .ldL hx34 (h _)) rfl rfl <|
          .cons [1] [] (fun _ _ h => .move (h _)) rfl rfl <|
          .cons [5] [] (fun _ _ h => .move (h _)) rfl rfl <|
          .cons [20, 21] [] (fun _ _ h => .idxL (f := (PV.int .u64)) hx35 (h _)) rfl rfl <|
          .cons [22] [] (fun _ _ h => .ldL hx35 (h _)) rfl rfl <|
          .cons [19, 23] [] (fun _ _ h => .val (h _)) rfl rfl <|
          .nil)
          (.nil)
          (by kernel_rfl) rfl (.cons rfl (.cons rfl (.cons rfl (.cons rfl (.cons rfl (.nil)))))) (.nil) (.nil) ?_
        refine .imp (T := St.of [(0, .sl 71 .ro (a0.map (PV.int .u64))), (1, .sl 71 .ro (a1.map (PV.int .u64))), (12, .int .i64 (a0.length : Int)), (13, .int .i64 v22), (24, .bool (x34 != x35))] []) (imp_of (.cons rfl (.cons rfl (.cons rfl (.cons rfl (.cons rfl (.nil)))))) (.nil)) ?_
        refine .cond (fun hc36 => ?_) (fun hc36 => ?_)
        · replace h := (if_pos hc36).symm.trans h
          refine .seq ?_
          refine .region ?_
          refine .assign ?_
          refine .nil ?_
          cases h
          exact .ret (fin_gen0 none)
        · replace h := (if_neg (nt hc36)).symm.trans h
          refine .skip ?_
          refine .region ?_
          refine .val ?_
          refine .move ?_
          refine .nil ?_
          exact ⟨m28, _, Nat.lt_succ_self m28, ⟨_, rfl, h⟩, (imp_of (.cons rfl (.cons rfl (.cons rfl (.cons rfl (.nil))))) (.nil))⟩
      · replace h := (if_neg (nt hc30)).symm.trans h
        refine .exit (.hit ?_)
        exact ⟨_, ⟨rfl, h⟩, (imp_of (.nil) (.nil))⟩
    · rintro T ⟨rfl, h⟩
      subst hj17
      refine .seq ?_
      refine .region ?_
      refine .assign ?_
      refine .nil ?_
      cases h
      exact .ret (fin_gen0 none)

/- soundservice/choices.like -/
def f81 (n : Nat) (a0 : Choose) (a1 : Choose) : Option Bool :=
  if sEq a0.Role a1.Role then (
  (f109 n a0.Set a1.Set).bind fun y4 =>
  some y4)
  else (
  some false)
set_option maxHeartbeats 4000000 in
set_option maxRecDepth 100000 in
theorem g81 {n : Nat} {a0 : Choose} {a1 : Choose} {r : Bool} (h : f81 n a0 a1 = some r) :
    Ab.Can Try.prog 81 [.agg [.str a0.Role, .sl 71 .ro (a0.Set.map (PV.int .u64)), .int .u64 a0.Device], .agg [.str a1.Role, .sl 71 .ro (a1.Set.map (PV.int .u64)), .int .u64 a1.Device]] H0 (.bool r) H0 := by
  refine can_of tabOK mix Try.call81 Try.func81 rfl (by kernel_rfl) (by show _ ≤ 17; simp) fun _ => ?_
  rw [f81] at h
  refine .seq ?_
  refine .region ?_
  refine .boxL (cs := [.str a0.Role, .sl 71 .ro (a0.Set.map (PV.int .u64)), .int .u64 a0.Device]) ?_
  refine .boxL (cs := [.str a1.Role, .sl 71 .ro (a1.Set.map (PV.int .u64)), .int .u64 a1.Device]) ?_
  refine .assign ?_
  refine .nil ?_
  refine .seq ?_
  refine .region ?_
  refine .val ?_
  refine .val ?_
  refine .val ?_
  refine .val ?_
  refine .val ?_
  refine .move ?_
  refine .caseG (fun hc3 => ?_) (fun hc3 => ?_)
  · replace h := (if_pos hc3).symm.trans h
    refine .val ?_
    refine .val ?_
    refine .val ?_
    refine .val ?_
    obtain ⟨y4, hy4, h⟩ := bindE h
    refine .cP (g109 hy4) ?_
    refine .brT ?_
    refine .assign ?_
    refine .nil ?_
    cases h
    exact .ret (fin_gen0 none)
  · replace h := (if_neg (nt hc3)).symm.trans h
    refine .skip ?_
    refine .skip ?_
    refine .skip ?_
    refine .skip ?_
    refine .skip ?_
    refine .brF ?_
    refine .assign ?_
    refine .nil ?_
    cases h
    exact .ret (fin_gen0 none)

/- soundservice/choices.Valid$1 -/
def f80 (n : Nat) (a0 : Choose) (c0 : Choose) : Option Bool :=
  (f81 n (⟨c0.Role, c0.Set, c0.Device⟩ : Choose) (⟨a0.Role, a0.Set, a0.Device⟩ : Choose)).bind fun y1 =>
  some y1
set_option maxHeartbeats 4000000 in
set_option maxRecDepth 100000 in
theorem g80 {n : Nat} {a0 : Choose} {c0 : Choose} {r : Bool} (h : f80 n a0 c0 = some r) :
    Ab.Can Try.prog 80 [.agg [.str a0.Role, .sl 71 .ro (a0.Set.map (PV.int .u64)), .int .u64 a0.Device], .ptr (.par 0) 0] (lookH [(.par 0, [.str c0.Role, .sl 71 .ro (c0.Set.map (PV.int .u64)), .int .u64 c0.Device])]) (.bool r) (lookH [(.par 0, [.str c0.Role, .sl 71 .ro (c0.Set.map (PV.int .u64)), .int .u64 c0.Device])]) := by
  refine can_of tabOK mix Try.call80 Try.func80 rfl (by kernel_rfl) (by show _ ≤ 7; simp) fun _ => ?_
  rw [f80] at h
  refine .seq ?_
  refine .region ?_
  refine .boxL (cs := [.str a0.Role, .sl 71 .ro (a0.Set.map (PV.int .u64)), .int .u64 a0.Device]) ?_
  refine .assign ?_
  refine .nil ?_
  refine .seq ?_
  refine .region ?_
  refine .val (v := .agg [.str c0.Role, .sl 71 .ro (c0.Set.map (PV.int .u64)), .int .u64 c0.Device]) ?_
  refine .val (v := .agg [.str a0.Role, .sl 71 .ro (a0.Set.map (PV.int .u64)), .int .u64 a0.Device]) ?_
  obtain ⟨y1, hy1, h⟩ := bindE h
  refine .cP (g81 hy1) ?_
  refine .assign ?_
  refine .nil ?_
  cases h
  exact .ret (fin_gen none (.par .nil))

/- soundservice/words.Name -/
def f110_l1 (n : Nat) (a0 : ByteArray) (j174 : Unit → Option Bool) : Nat → Int → Option Bool
  | 0, _ => none
  | m291 + 1, v232 =>
    if decide (v232 < (a0.size : Int)) then (
    joinK (fun (_ : Unit) =>
    f110_l1 n a0 j174 m291 (w64 (v232 + (1 : Int)))) fun j349 =>
    (sAt a0 v232).bind fun x350 =>
    joinK (fun (_ : Unit) =>
    joinK (fun (_ : Unit) =>
    joinK (fun (_ : Unit) =>
    some false) fun j388 =>
    joinK (fun (_ : Unit) =>
    j349 ()) fun j389 =>
    if !(decide ((bitsI .or .u8 x350 (32 : Int)) ≤ (122 : Int))) then (
    if (v232 == (0 : Int)) then (
    j388 ())
    else (
    j389 ()))
    else (
    j389 ())) fun j369 =>
    joinK (fun (v370 : Bool) =>
    joinK (fun (_ : Unit) =>
    some false) fun j394 =>
    joinK (fun (_ : Unit) =>
    if !v370 then (
    some false)
    else (
    j349 ())) fun j395 =>
    joinK (fun (_ : Unit) =>
    j349 ()) fun j396 =>
    if !(decide ((bitsI .or .u8 x350 (32 : Int)) ≤ (122 : Int))) then (
    if (v232 == (0 : Int)) then (
    j394 ())
    else (
    j395 ()))
    else (
    j396 ())) fun j371 =>
    (sAt a0 v232).bind fun x372 =>
    if decide (x372 ≥ (48 : Int)) then (
    (sAt a0 v232).bind fun x374 =>
    if decide (x374 ≤ (57 : Int)) then (
    j369 ())
    else (
    (sAt a0 v232).bind fun x376 =>
    if (x376 == (45 : Int)) then (
    j369 ())
    else (
    (sAt a0 v232).bind fun x378 =>
    if (x378 == (46 : Int)) then (
    j369 ())
    else (
    (sAt a0 v232).bind fun x380 =>
    j371 (x380 == (95 : Int))))))
    else (
    (sAt a0 v232).bind fun x381 =>
    if (x381 == (45 : Int)) then (
    j369 ())
    else (
    (sAt a0 v232).bind fun x383 =>
    if (x383 == (46 : Int)) then (
    j369 ())
    else (
    (sAt a0 v232).bind fun x385 =>
    j371 (x385 == (95 : Int)))))) fun j352 =>
    joinK (fun (_ : Unit) =>
    joinK (fun (_ : Unit) =>
    joinK (fun (_ : Unit) =>
    some false) fun j432 =>
    joinK (fun (_ : Unit) =>
    j349 ()) fun j433 =>
    if (v232 == (0 : Int)) then (
    j432 ())
    else (
    j433 ())) fun j414 =>
    joinK (fun (v415 : Bool) =>
    joinK (fun (_ : Unit) =>
    some false) fun j436 =>
    joinK (fun (_ : Unit) =>
    if !v415 then (
    some false)
    else (
    j349 ())) fun j437 =>
    if (v232 == (0 : Int)) then (
    j436 ())
    else (
    j437 ())) fun j416 =>
    (sAt a0 v232).bind fun x417 =>
    if decide (x417 ≥ (48 : Int)) then (
    (sAt a0 v232).bind fun x419 =>
    if decide (x419 ≤ (57 : Int)) then (
    j414 ())
    else (
    (sAt a0 v232).bind fun x421 =>
    if (x421 == (45 : Int)) then (
    j414 ())
    else (
    (sAt a0 v232).bind fun x423 =>
    if (x423 == (46 : Int)) then (
    j414 ())
    else (
    (sAt a0 v232).bind fun x425 =>
    j416 (x425 == (95 : Int))))))
    else (
    (sAt a0 v232).bind fun x426 =>
    if (x426 == (45 : Int)) then (
    j414 ())
    else (
    (sAt a0 v232).bind fun x428 =>
    if (x428 == (46 : Int)) then (
    j414 ())
    else (
    (sAt a0 v232).bind fun x430 =>
    j416 (x430 == (95 : Int)))))) fun j353 =>
    if decide ((bitsI .or .u8 x350 (32 : Int)) ≥ (97 : Int)) then (
    j352 ())
    else (
    j353 ()))
    else (
    j174 ())
def f110 (n : Nat) (a0 : ByteArray) : Option Bool :=
  joinK (fun (_ : Unit) =>
  if !(sEq a0 (⟨#[]⟩ : ByteArray)) then (
  some (decide ((a0.size : Int) ≤ (64 : Int))))
  else (
  some false)) fun j174 =>
  f110_l1 n a0 j174 n 0
set_option maxHeartbeats 4000000 in
set_option maxRecDepth 100000 in
theorem g110 {n : Nat} {a0 : ByteArray} {r : Bool} (h : f110 n a0 = some r) :
    Ab.Can Try.prog 110 [.str a0] H0 (.bool r) H0 := by
  refine can_of tabOK mix Try.call110 Try.func110 rfl (by kernel_rfl) (by show _ ≤ 68; simp) fun _ => ?_
  rw [f110] at h
  refine .seq ?_
  refine .region ?_
  refine .assign ?_
  refine .nil ?_
  obtain ⟨j174, hj174, h⟩ := joinE h
  refine .cutI (fun T => (T = St.of [(0, .str a0)] [] ∧ j174 () = some r)) ?_ ?_
  · refine .seq ?_
    refine .region ?_
    refine .move ?_
    refine .val ?_
    refine .move ?_
    refine .nil ?_
    refine .block ?_
    refine .loopI (fun m T => ∃ (v232 : Int), T = St.of [(0, .str a0), (8, .int .i64 (a0.size : Int)), (9, .int .i64 v232)] [] ∧ f110_l1 n a0 j174 m v232 = some r) _ _ ⟨_, rfl, h⟩ (imp_of (.cons rfl (.cons rfl (.cons rfl (.nil)))) (.nil)) ?_
    rintro m291 T ⟨v232, rfl, h⟩
    obtain _ | m291 := m291
    · rw [f110_l1] at h; cases h
    rw [f110_l1] at h
    refine .seq ?_
    refine .region ?_
    refine .val ?_
    refine .nil ?_
    refine .seq ?_
    refine .cond (fun hc293 => ?_) (fun hc293 => ?_)
    · replace h := (if_pos hc293).symm.trans h
      refine .skip ?_
      obtain ⟨j349, hj349, h⟩ := joinE h
      refine .cutI (fun T => (T = St.of [(0, .str a0), (8, .int .i64 (a0.size : Int)), (9, .int .i64 v232)] [] ∧ j349 () = some r)) ?_ ?_
      · refine .block ?_
        refine .seq ?_
        refine .region ?_
        refine .move ?_
        refine .assign ?_
        refine .nil ?_
        refine .seq ?_
        refine .region ?_
        refine .move ?_
        refine .move ?_
        obtain ⟨x350, hx350, h⟩ := bindE h
        refine .atS hx350 ?_
        refine .val ?_
        refine .assign ?_
        refine .nil ?_
        obtain ⟨j352, hj352, h⟩ := joinE h
        obtain ⟨j353, hj353, h⟩ := joinE h
        refine .cutI (fun T => (T = St.of [(0, .str a0), (3, .int .i64 v232), (5, .bool (decide ((bitsI .or .u8 x350 (32 : Int)) ≤ (122 : Int)))), (8, .int .i64 (a0.size : Int)), (9, .int .i64 v232)] [] ∧ j352 () = some r) ∨ (T = St.of [(0, .str a0), (3, .int .i64 v232), (5, .bool false), (8, .int .i64 (a0.size : Int)), (9, .int .i64 v232)] [] ∧ j353 () = some r)) ?_ ?_
        · refine .region ?_
          refine .move ?_
          refine .val ?_
          refine .move ?_
          refine .caseG (fun hc354 => ?_) (fun hc354 => ?_)
          · replace h := (if_pos hc354).symm.trans h
            refine .move ?_
            refine .val ?_
            refine .brT ?_
            refine .assign ?_
            refine .nil ?_
            exact ⟨_, (.inl ⟨rfl, h⟩), (imp_of (.cons rfl (.cons rfl (.cons rfl (.cons rfl (.cons rfl (.nil)))))) (.nil))⟩
          · replace h := (if_neg (nt hc354)).symm.trans h
            refine .skip ?_
            refine .skip ?_
            refine .brF ?_
            refine .assign ?_
            refine .nil ?_
            exact ⟨_, (.inr (⟨rfl, h⟩)), (imp_of (.cons rfl (.cons rfl (.cons rfl (.cons rfl (.cons rfl (.nil)))))) (.nil))⟩
        · rintro T (⟨rfl, h⟩ | ⟨rfl, h⟩)
          · subst hj352
            obtain ⟨j369, hj369, h⟩ := joinE h
            obtain ⟨j371, hj371, h⟩ := joinE h
            refine .cutI (fun T => (T = St.of [(0, .str a0), (3, .int .i64 v232), (5, .bool (decide ((bitsI .or .u8 x350 (32 : Int)) ≤ (122 : Int)))), (6, .bool true), (8, .int .i64 (a0.size : Int)), (9, .int .i64 v232)] [] ∧ j369 () = some r) ∨ (∃ (v370 : Bool), T = St.of [(0, .str a0), (3, .int .i64 v232), (5, .bool (decide ((bitsI .or .u8 x350 (32 : Int)) ≤ (122 : Int)))), (6, .bool v370), (8, .int .i64 (a0.size : Int)), (9, .int .i64 v232)] [] ∧ j371 v370 = some r)) ?_ ?_
            · refine .region ?_
              refine .move ?_
              refine .move ?_
              obtain ⟨x372, hx372, h⟩ := bindE h
              refine .atS hx372 ?_
              refine .val ?_
              refine .move ?_
              refine .caseG (fun hc373 => ?_) (fun hc373 => ?_)
              · replace h := (if_pos hc373).symm.trans h
                refine .move ?_
                refine .move ?_
                obtain ⟨x374, hx374, h⟩ := bindE h
                refine .atS hx374 ?_
                refine .val ?_
                refine .brT ?_
                refine .move ?_
                refine .caseG (fun hc375 => ?_) (fun hc375 => ?_)
                · replace h := (if_pos hc375).symm.trans h
                  refine .skip ?_
                  refine .skip ?_
                  refine .skip ?_
                  refine .skip ?_
                  refine .brT ?_
                  refine .move ?_
                  refine .skip ?_
                  refine .skip ?_
                  refine .skip ?_
                  refine .skip ?_
                  refine .brT ?_
                  refine .move ?_
                  refine .skip ?_
                  refine .skip ?_
                  refine .skip ?_
                  refine .skip ?_
                  refine .brT ?_
                  refine .assign ?_
                  refine .nil ?_
                  exact ⟨_, (.inl ⟨rfl, h⟩), (imp_of (.cons rfl (.cons rfl (.cons rfl (.cons rfl (.cons rfl (.cons rfl (.nil))))))) (.nil))⟩
                · replace h := (if_neg (nt hc375)).symm.trans h
                  refine .move ?_
                  refine .move ?_
                  obtain ⟨x376, hx376, h⟩ := bindE h
                  refine .atS hx376 ?_
                  refine .val ?_
                  refine .brF ?_
                  refine .move ?_
                  refine .caseG (fun hc377 => ?_) (fun hc377 => ?_)
                  · replace h := (if_pos hc377).symm.trans h
                    refine .skip ?_
                    refine .skip ?_
                    refine .skip ?_
                    refine .skip ?_
                    refine .brT ?_
                    refine .move ?_
                    refine .skip ?_
                    refine .skip ?_
                    refine .skip ?_
                    refine .skip ?_
                    refine .brT ?_
                    refine .assign ?_
                    refine .nil ?_
                    exact ⟨_, (.inl ⟨rfl, h⟩), (imp_of (.cons rfl (.cons rfl (.cons rfl (.cons rfl (.cons rfl (.cons rfl (.nil))))))) (.nil))⟩
                  · replace h := (if_neg (nt hc377)).symm.trans h
                    refine .move ?_
                    refine .move ?_
                    obtain ⟨x378, hx378, h⟩ := bindE h
                    refine .atS hx378 ?_
                    refine .val ?_
                    refine .brF ?_
                    refine .move ?_
                    refine .caseG (fun hc379 => ?_) (fun hc379 => ?_)
                    · replace h := (if_pos hc379).symm.trans h
                      refine .skip ?_
                      refine .skip ?_
                      refine .skip ?_
                      refine .skip ?_
                      refine .brT ?_
                      refine .assign ?_
                      refine .nil ?_
                      exact ⟨_, (.inl ⟨rfl, h⟩), (imp_of (.cons rfl (.cons rfl (.cons rfl (.cons rfl (.cons rfl (.cons rfl (.nil))))))) (.nil))⟩
                    · replace h := (if_neg (nt hc379)).symm.trans h
                      refine .move ?_
                      refine .move ?_
                      obtain ⟨x380, hx380, h⟩ := bindE h
                      refine .atS hx380 ?_
                      refine .val ?_
                      refine .brF ?_
                      refine .assign ?_
                      refine .nil ?_
                      exact ⟨_, (.inr (⟨_, rfl, h⟩)), (imp_of (.cons rfl (.cons rfl (.cons rfl (.cons rfl (.cons rfl (.cons rfl (.nil))))))) (.nil))⟩
              · replace h := (if_neg (nt hc373)).symm.trans h
                refine .skip ?_
                refine .skip ?_
                refine .skip ?_
                refine .skip ?_
                refine .brF ?_
                refine .move ?_
                refine .move ?_
                refine .move ?_
                obtain ⟨x381, hx381, h⟩ := bindE h
                refine .atS hx381 ?_
                refine .val ?_
                refine .brF ?_
                refine .move ?_
                refine .caseG (fun hc382 => ?_) (fun hc382 => ?_)
                · replace h := (if_pos hc382).symm.trans h
                  refine .skip ?_
                  refine .skip ?_
                  refine .skip ?_
                  refine .skip ?_
                  refine .brT ?_
                  refine .move ?_
                  refine .skip ?_
                  refine .skip ?_
                  refine .skip ?_
                  refine .skip ?_
                  refine .brT ?_
                  refine .assign ?_
                  refine .nil ?_
                  exact ⟨_, (.inl ⟨rfl, h⟩), (imp_of (.cons rfl (.cons rfl (.cons rfl (.cons rfl (.cons rfl (.cons rfl (.nil))))))) (.nil))⟩
                · replace h := (if_neg (nt hc382)).symm.trans h
                  refine .move ?_
                  refine .move ?_
                  obtain ⟨x383, hx383, h⟩ := bindE h
                  refine .atS hx383 ?_
                  refine .val ?_
                  refine .brF ?_
                  refine .move ?_
                  refine .caseG (fun hc384 => ?_) (fun hc384 => ?_)
                  · replace h := (if_pos hc384).symm.trans h
                    refine .skip ?_
                    refine .skip ?_
                    refine .skip ?_
                    refine .skip ?_
                    refine .brT ?_
                    refine .assign ?_
                    refine .nil ?_
                    exact ⟨_, (.inl ⟨rfl, h⟩), (imp_of (.cons rfl (.cons rfl (.cons rfl (.cons rfl (.cons rfl (.cons rfl (.nil))))))) (.nil))⟩
                  · replace h := (if_neg (nt hc384)).symm.trans h
                    refine .move ?_
                    refine .move ?_
                    obtain ⟨x385, hx385, h⟩ := bindE h
                    refine .atS hx385 ?_
                    refine .val ?_
                    refine .brF ?_
                    refine .assign ?_
                    refine .nil ?_
                    exact ⟨_, (.inr (⟨_, rfl, h⟩)), (imp_of (.cons rfl (.cons rfl (.cons rfl (.cons rfl (.cons rfl (.cons rfl (.nil))))))) (.nil))⟩
            · rintro T (⟨rfl, h⟩ | ⟨v370, rfl, h⟩)
              · subst hj369
                obtain ⟨j388, hj388, h⟩ := joinE h
                obtain ⟨j389, hj389, h⟩ := joinE h
                refine .cutI (fun T => (T = St.of [(0, .str a0), (8, .int .i64 (a0.size : Int)), (9, .int .i64 v232), (59, .bool true)] [] ∧ j388 () = some r) ∨ (T = St.of [(0, .str a0), (8, .int .i64 (a0.size : Int)), (9, .int .i64 v232), (59, .bool false)] [] ∧ j389 () = some r)) ?_ ?_
                · refine .region ?_
                  refine .move ?_
                  refine .val ?_
                  refine .move ?_
                  refine .caseG (fun hc390 => ?_) (fun hc390 => ?_)
                  · replace h := (if_pos hc390).symm.trans h
                    refine .move ?_
                    refine .val ?_
                    refine .move ?_
                    refine .caseG (fun hc391 => ?_) (fun hc391 => ?_)
                    · replace h := (if_pos hc391).symm.trans h
                      refine .skip ?_
                      refine .skip ?_
                      refine .brT ?_
                      refine .brT ?_
                      refine .nil ?_
                      exact ⟨_, (.inl ⟨rfl, h⟩), (imp_of (.cons rfl (.cons rfl (.cons rfl (.cons rfl (.nil))))) (.nil))⟩
                    · replace h := (if_neg (nt hc391)).symm.trans h
                      refine .move ?_
                      refine .val ?_
                      refine .brF ?_
                      refine .brT ?_
                      refine .nil ?_
                      exact ⟨_, (.inr (⟨rfl, h⟩)), (imp_of (.cons rfl (.cons rfl (.cons rfl (.cons rfl (.nil))))) (.nil))⟩
                  · replace h := (if_neg (nt hc390)).symm.trans h
                    refine .skip ?_
                    refine .skip ?_
                    refine .skip ?_
                    refine .skip ?_
                    refine .skip ?_
                    refine .skip ?_
                    refine .brF ?_
                    refine .nil ?_
                    exact ⟨_, (.inr (⟨rfl, h⟩)), (imp_of (.cons rfl (.cons rfl (.cons rfl (.cons rfl (.nil))))) (.nil))⟩
                · rintro T (⟨rfl, h⟩ | ⟨rfl, h⟩)
                  · subst hj388
                    refine .condT ?_
                    refine .seq ?_
                    refine .region ?_
                    refine .assign ?_
                    refine .nil ?_
                    cases h
                    exact .ret (fin_gen0 none)
                  · subst hj389
                    refine .condF ?_
                    refine .skip ?_
                    exact ⟨_, ⟨rfl, h⟩, (imp_of (.cons rfl (.cons rfl (.cons rfl (.nil)))) (.nil))⟩
              · subst hj371
                obtain ⟨j394, hj394, h⟩ := joinE h
                obtain ⟨j395, hj395, h⟩ := joinE h
                obtain ⟨j396, hj396, h⟩ := joinE h
                refine .cutI (fun T => (T = St.of [(0, .str a0), (8, .int .i64 (a0.size : Int)), (9, .int .i64 v232), (59, .bool true)] [] ∧ j394 () = some r) ∨ (T = St.of [(0, .str a0), (8, .int .i64 (a0.size : Int)), (9, .int .i64 v232), (59, .bool (!v370))] [] ∧ j395 () = some r) ∨ (T = St.of [(0, .str a0), (8, .int .i64 (a0.size : Int)), (9, .int .i64 v232), (59, .bool false)] [] ∧ j396 () = some r)) ?_ ?_
                · refine .region ?_
                  refine .move ?_
                  refine .val ?_
                  refine .move ?_
                  refine .caseG (fun hc397 => ?_) (fun hc397 => ?_)
                  · replace h := (if_pos hc397).symm.trans h
                    refine .move ?_
                    refine .val ?_
                    refine .move ?_
                    refine .caseG (fun hc398 => ?_) (fun hc398 => ?_)
                    · replace h := (if_pos hc398).symm.trans h
                      refine .skip ?_
                      refine .skip ?_
                      refine .brT ?_
                      refine .brT ?_
                      refine .nil ?_
                      exact ⟨_, (.inl ⟨rfl, h⟩), (imp_of (.cons rfl (.cons rfl (.cons rfl (.cons rfl (.nil))))) (.nil))⟩
                    · replace h := (if_neg (nt hc398)).symm.trans h
                      refine .move ?_
                      refine .val ?_
                      refine .brF ?_
                      refine .brT ?_
                      refine .nil ?_
                      exact ⟨_, (.inr (.inl ⟨rfl, h⟩)), (imp_of (.cons rfl (.cons rfl (.cons rfl (.cons rfl (.nil))))) (.nil))⟩
                  · replace h := (if_neg (nt hc397)).symm.trans h
                    refine .skip ?_
                    refine .skip ?_
                    refine .skip ?_
                    refine .skip ?_
                    refine .skip ?_
                    refine .skip ?_
                    refine .brF ?_
                    refine .nil ?_
                    exact ⟨_, (.inr (.inr (⟨rfl, h⟩))), (imp_of (.cons rfl (.cons rfl (.cons rfl (.cons rfl (.nil))))) (.nil))⟩
                · rintro T (⟨rfl, h⟩ | ⟨rfl, h⟩ | ⟨rfl, h⟩)
                  · subst hj394
                    refine .condT ?_
                    refine .seq ?_
                    refine .region ?_
                    refine .assign ?_
                    refine .nil ?_
                    cases h
                    exact .ret (fin_gen0 none)
                  · subst hj395
                    refine .cond (fun hc399 => ?_) (fun hc399 => ?_)
                    · replace h := (if_pos hc399).symm.trans h
                      refine .seq ?_
                      refine .region ?_
                      refine .assign ?_
                      refine .nil ?_
                      cases h
                      exact .ret (fin_gen0 none)
                    · replace h := (if_neg (nt hc399)).symm.trans h
                      refine .skip ?_
                      exact ⟨_, ⟨rfl, h⟩, (imp_of (.cons rfl (.cons rfl (.cons rfl (.nil)))) (.nil))⟩
                  · subst hj396
                    refine .condF ?_
                    refine .skip ?_
                    exact ⟨_, ⟨rfl, h⟩, (imp_of (.cons rfl (.cons rfl (.cons rfl (.nil)))) (.nil))⟩
          · subst hj353
            obtain ⟨j414, hj414, h⟩ := joinE h
            obtain ⟨j416, hj416, h⟩ := joinE h
            refine .cutI (fun T => (T = St.of [(0, .str a0), (3, .int .i64 v232), (5, .bool false), (6, .bool true), (8, .int .i64 (a0.size : Int)), (9, .int .i64 v232)] [] ∧ j414 () = some r) ∨ (∃ (v415 : Bool), T = St.of [(0, .str a0), (3, .int .i64 v232), (5, .bool false), (6, .bool v415), (8, .int .i64 (a0.size : Int)), (9, .int .i64 v232)] [] ∧ j416 v415 = some r)) ?_ ?_
            · refine .region ?_
              refine .move ?_
              refine .move ?_
              obtain ⟨x417, hx417, h⟩ := bindE h
              refine .atS hx417 ?_
              refine .val ?_
              refine .move ?_
              refine .caseG (fun hc418 => ?_) (fun hc418 => ?_)
              · replace h := (if_pos hc418).symm.trans h
                refine .move ?_
                refine .move ?_
                obtain ⟨x419, hx419, h⟩ := bindE h
                refine .atS hx419 ?_
                refine .val ?_
                refine .brT ?_
                refine .move ?_
                refine .caseG (fun hc420 => ?_) (fun hc420 => ?_)
                · replace h := (if_pos hc420).symm.trans h
                  refine .skip ?_
                  refine .skip ?_
                  refine .skip ?_
                  refine .skip ?_
                  refine .brT ?_
                  refine .move ?_
                  refine .skip ?_
                  refine .skip ?_
                  refine .skip ?_
                  refine .skip ?_
                  refine .brT ?_
                  refine .move ?_
                  refine .skip ?_
                  refine .skip ?_
                  refine .skip ?_
                  refine .skip ?_
                  refine .brT ?_
                  refine .assign ?_
                  refine .nil ?_
                  exact ⟨_, (.inl ⟨rfl, h⟩), (imp_of (.cons rfl (.cons rfl (.cons rfl (.cons rfl (.cons rfl (.cons rfl (.nil))))))) (.nil))⟩
                · replace h := (if_neg (nt hc420)).symm.trans h
                  refine .move ?_
                  refine .move ?_
                  obtain ⟨x421, hx421, h⟩ := bindE h
                  refine .atS hx421 ?_
                  refine .val ?_
                  refine .brF ?_
                  refine .move ?_
                  refine .caseG (fun hc422 => ?_) (fun hc422 => ?_)
                  · replace h := (if_pos hc422).symm.trans h
                    refine .skip ?_
                    refine .skip ?_
                    refine .skip ?_
                    refine .skip ?_
                    refine .brT ?_
                    refine .move ?_
                    refine .skip ?_
                    refine .skip ?_
                    refine .skip ?_
                    refine .skip ?_
                    refine .brT ?_
                    refine .assign ?_
                    refine .nil ?_
                    exact ⟨_, (.inl ⟨rfl, h⟩), (imp_of (.cons rfl (.cons rfl (.cons rfl (.cons rfl (.cons rfl (.cons rfl (.nil))))))) (.nil))⟩
                  · replace h := (if_neg (nt hc422)).symm.trans h
                    refine .move ?_
                    refine .move ?_
                    obtain ⟨x423, hx423, h⟩ := bindE h
                    refine .atS hx423 ?_
                    refine .val ?_
                    refine .brF ?_
                    refine .move ?_
                    refine .caseG (fun hc424 => ?_) (fun hc424 => ?_)
                    · replace h := (if_pos hc424).symm.trans h
                      refine .skip ?_
                      refine .skip ?_
                      refine .skip ?_
                      refine .skip ?_
                      refine .brT ?_
                      refine .assign ?_
                      refine .nil ?_
                      exact ⟨_, (.inl ⟨rfl, h⟩), (imp_of (.cons rfl (.cons rfl (.cons rfl (.cons rfl (.cons rfl (.cons rfl (.nil))))))) (.nil))⟩
                    · replace h := (if_neg (nt hc424)).symm.trans h
                      refine .move ?_
                      refine .move ?_
                      obtain ⟨x425, hx425, h⟩ := bindE h
                      refine .atS hx425 ?_
                      refine .val ?_
                      refine .brF ?_
                      refine .assign ?_
                      refine .nil ?_
                      exact ⟨_, (.inr (⟨_, rfl, h⟩)), (imp_of (.cons rfl (.cons rfl (.cons rfl (.cons rfl (.cons rfl (.cons rfl (.nil))))))) (.nil))⟩
              · replace h := (if_neg (nt hc418)).symm.trans h
                refine .skip ?_
                refine .skip ?_
                refine .skip ?_
                refine .skip ?_
                refine .brF ?_
                refine .move ?_
                refine .move ?_
                refine .move ?_
                obtain ⟨x426, hx426, h⟩ := bindE h
                refine .atS hx426 ?_
                refine .val ?_
                refine .brF ?_
                refine .move ?_
                refine .caseG (fun hc427 => ?_) (fun hc427 => ?_)
                · replace h := (if_pos hc427).symm.trans h
                  refine .skip ?_
                  refine .skip ?_
                  refine .skip ?_
                  refine .skip ?_
                  refine .brT ?_
                  refine .move ?_
                  refine .skip ?_
                  refine .skip ?_
                  refine .skip ?_
                  refine .skip ?_
                  refine .brT ?_
                  refine .assign ?_
                  refine .nil ?_
                  exact ⟨_, (.inl ⟨rfl, h⟩), (imp_of (.cons rfl (.cons rfl (.cons rfl (.cons rfl (.cons rfl (.cons rfl (.nil))))))) (.nil))⟩
                · replace h := (if_neg (nt hc427)).symm.trans h
                  refine .move ?_
                  refine .move ?_
                  obtain ⟨x428, hx428, h⟩ := bindE h
                  refine .atS hx428 ?_
                  refine .val ?_
                  refine .brF ?_
                  refine .move ?_
                  refine .caseG (fun hc429 => ?_) (fun hc429 => ?_)
                  · replace h := (if_pos hc429).symm.trans h
                    refine .skip ?_
                    refine .skip ?_
                    refine .skip ?_
                    refine .skip ?_
                    refine .brT ?_
                    refine .assign ?_
                    refine .nil ?_
                    exact ⟨_, (.inl ⟨rfl, h⟩), (imp_of (.cons rfl (.cons rfl (.cons rfl (.cons rfl (.cons rfl (.cons rfl (.nil))))))) (.nil))⟩
                  · replace h := (if_neg (nt hc429)).symm.trans h
                    refine .move ?_
                    refine .move ?_
                    obtain ⟨x430, hx430, h⟩ := bindE h
                    refine .atS hx430 ?_
                    refine .val ?_
                    refine .brF ?_
                    refine .assign ?_
                    refine .nil ?_
                    exact ⟨_, (.inr (⟨_, rfl, h⟩)), (imp_of (.cons rfl (.cons rfl (.cons rfl (.cons rfl (.cons rfl (.cons rfl (.nil))))))) (.nil))⟩
            · rintro T (⟨rfl, h⟩ | ⟨v415, rfl, h⟩)
              · subst hj414
                obtain ⟨j432, hj432, h⟩ := joinE h
                obtain ⟨j433, hj433, h⟩ := joinE h
                refine .cutI (fun T => (T = St.of [(0, .str a0), (8, .int .i64 (a0.size : Int)), (9, .int .i64 v232), (59, .bool true)] [] ∧ j432 () = some r) ∨ (T = St.of [(0, .str a0), (8, .int .i64 (a0.size : Int)), (9, .int .i64 v232), (59, .bool false)] [] ∧ j433 () = some r)) ?_ ?_
                · refine .region ?_
                  refine .move ?_
                  refine .val ?_
                  refine .move ?_
                  refine .move ?_
                  refine .val ?_
                  refine .move ?_
                  refine .caseG (fun hc434 => ?_) (fun hc434 => ?_)
                  · replace h := (if_pos hc434).symm.trans h
                    refine .skip ?_
                    refine .skip ?_
                    refine .brT ?_
                    refine .brT ?_
                    refine .nil ?_
                    exact ⟨_, (.inl ⟨rfl, h⟩), (imp_of (.cons rfl (.cons rfl (.cons rfl (.cons rfl (.nil))))) (.nil))⟩
                  · replace h := (if_neg (nt hc434)).symm.trans h
                    refine .move ?_
                    refine .val ?_
                    refine .brF ?_
                    refine .brT ?_
                    refine .nil ?_
                    exact ⟨_, (.inr (⟨rfl, h⟩)), (imp_of (.cons rfl (.cons rfl (.cons rfl (.cons rfl (.nil))))) (.nil))⟩
                · rintro T (⟨rfl, h⟩ | ⟨rfl, h⟩)
                  · subst hj432
                    refine .condT ?_
                    refine .seq ?_
                    refine .region ?_
                    refine .assign ?_
                    refine .nil ?_
                    cases h
                    exact .ret (fin_gen0 none)
                  · subst hj433
                    refine .condF ?_
                    refine .skip ?_
                    exact ⟨_, ⟨rfl, h⟩, (imp_of (.cons rfl (.cons rfl (.cons rfl (.nil)))) (.nil))⟩
              · subst hj416
                obtain ⟨j436, hj436, h⟩ := joinE h
                obtain ⟨j437, hj437, h⟩ := joinE h
                refine .cutI (fun T => (T = St.of [(0, .str a0), (8, .int .i64 (a0.size : Int)), (9, .int .i64 v232), (59, .bool true)] [] ∧ j436 () = some r) ∨ (T = St.of [(0, .str a0), (8, .int .i64 (a0.size : Int)), (9, .int .i64 v232), (59, .bool (!v415))] [] ∧ j437 () = some r)) ?_ ?_
                · refine .region ?_
                  refine .move ?_
                  refine .val ?_
                  refine .move ?_
                  refine .move ?_
                  refine .val ?_
                  refine .move ?_
                  refine .caseG (fun hc438 => ?_) (fun hc438 => ?_)
                  · replace h := (if_pos hc438).symm.trans h
                    refine .skip ?_
                    refine .skip ?_
                    refine .brT ?_
                    refine .brT ?_
                    refine .nil ?_
                    exact ⟨_, (.inl ⟨rfl, h⟩), (imp_of (.cons rfl (.cons rfl (.cons rfl (.cons rfl (.nil))))) (.nil))⟩
                  · replace h := (if_neg (nt hc438)).symm.trans h
                    refine .move ?_
                    refine .val ?_
                    refine .brF ?_
                    refine .brT ?_
                    refine .nil ?_
                    exact ⟨_, (.inr (⟨rfl, h⟩)), (imp_of (.cons rfl (.cons rfl (.cons rfl (.cons rfl (.nil))))) (.nil))⟩
                · rintro T (⟨rfl, h⟩ | ⟨rfl, h⟩)
                  · subst hj436
                    refine .condT ?_
                    refine .seq ?_
                    refine .region ?_
                    refine .assign ?_
                    refine .nil ?_
                    cases h
                    exact .ret (fin_gen0 none)
                  · subst hj437
                    refine .cond (fun hc439 => ?_) (fun hc439 => ?_)
                    · replace h := (if_pos hc439).symm.trans h
                      refine .seq ?_
                      refine .region ?_
                      refine .assign ?_
                      refine .nil ?_
                      cases h
                      exact .ret (fin_gen0 none)
                    · replace h := (if_neg (nt hc439)).symm.trans h
                      refine .skip ?_
                      exact ⟨_, ⟨rfl, h⟩, (imp_of (.cons rfl (.cons rfl (.cons rfl (.nil)))) (.nil))⟩
      · rintro T ⟨rfl, h⟩
        subst hj349
        refine .region ?_
        refine .val ?_
        refine .move ?_
        refine .nil ?_
        exact ⟨m291, _, Nat.lt_succ_self m291, ⟨_, rfl, h⟩, (imp_of (.cons rfl (.cons rfl (.cons rfl (.nil)))) (.nil))⟩
    · replace h := (if_neg (nt hc293)).symm.trans h
      refine .exit (.hit ?_)
      exact ⟨_, ⟨rfl, h⟩, (imp_of (.cons rfl (.nil)) (.nil))⟩
  · rintro T ⟨rfl, h⟩
    subst hj174
    refine .seq ?_
    refine .region ?_
    refine .move ?_
    refine .val ?_
    refine .move ?_
    refine .caseG (fun hc441 => ?_) (fun hc441 => ?_)
    · replace h := (if_pos hc441).symm.trans h
      refine .move ?_
      refine .val ?_
      refine .val ?_
      refine .brT ?_
      refine .assign ?_
      refine .nil ?_
      cases h
      exact .ret (fin_gen0 none)
    · replace h := (if_neg (nt hc441)).symm.trans h
      refine .skip ?_
      refine .skip ?_
      refine .skip ?_
      refine .brF ?_
      refine .assign ?_
      refine .nil ?_
      cases h
      exact .ret (fin_gen0 none)

/- soundservice/choices.Ascending -/
def f90_l1 (n : Nat) (a0 : (List Int)) (j36 : Unit → Option Bool) : Nat → Int → Option Bool
  | 0, _ => none
  | m61 + 1, v48 =>
    if decide (v48 < (a0.length : Int)) then (
    joinK (fun (_ : Unit) =>
    f90_l1 n a0 j36 m61 (w64 (v48 + (1 : Int)))) fun j73 =>
    (lAt a0 v48).bind fun x74 =>
    joinK (fun (_ : Unit) =>
    some false) fun j78 =>
    joinK (fun (v79 : Bool) =>
    if v79 then (
    some false)
    else (
    j73 ())) fun j80 =>
    joinK (fun (_ : Unit) =>
    j73 ()) fun j81 =>
    if decide (x74 < (1 : Int)) then (
    j78 ())
    else (
    if decide (v48 > (0 : Int)) then (
    (lAt a0 (w64 (v48 - (1 : Int)))).bind fun x84 =>
    j80 (decide (x74 ≤ x84)))
    else (
    j81 ())))
    else (
    j36 ())
def f90 (n : Nat) (a0 : (List Int)) : Option Bool :=
  joinK (fun (_ : Unit) =>
  some true) fun j36 =>
  f90_l1 n a0 j36 n 0
set_option maxHeartbeats 4000000 in
set_option maxRecDepth 100000 in
theorem g90 {n : Nat} {a0 : (List Int)} {r : Bool} (h : f90 n a0 = some r) :
    Ab.Can Try.prog 90 [.sl 71 .ro (a0.map (PV.int .u64))] H0 (.bool r) H0 := by
  refine can_of tabOK mix Try.call90 Try.func90 rfl (by kernel_rfl) (by show _ ≤ 28; simp) fun _ => ?_
  rw [f90] at h
  refine .seq ?_
  refine .region ?_
  refine .assign ?_
  refine .nil ?_
  obtain ⟨j36, hj36, h⟩ := joinE h
  refine .cutI (fun T => (T = St.of [] [] ∧ j36 () = some r)) ?_ ?_
  · refine .seq ?_
    refine .region ?_
    refine .move ?_
    refine .lenL (f := (PV.int .u64)) ?_
    refine .move ?_
    refine .nil ?_
    refine .block ?_
    refine .loopI (fun m T => ∃ (v48 : Int), T = St.of [(0, .sl 71 .ro (a0.map (PV.int .u64))), (5, .sl 71 .ro (a0.map (PV.int .u64))), (6, .int .i64 (a0.length : Int)), (7, .int .i64 v48)] [] ∧ f90_l1 n a0 j36 m v48 = some r) _ _ ⟨_, rfl, h⟩ (imp_of (.cons rfl (.cons rfl (.cons rfl (.cons rfl (.nil))))) (.nil)) ?_
    rintro m61 T ⟨v48, rfl, h⟩
    obtain _ | m61 := m61
    · rw [f90_l1] at h; cases h
    rw [f90_l1] at h
    refine .seq ?_
    refine .region ?_
    refine .val ?_
    refine .nil ?_
    refine .seq ?_
    refine .cond (fun hc63 => ?_) (fun hc63 => ?_)
    · replace h := (if_pos hc63).symm.trans h
      refine .skip ?_
      obtain ⟨j73, hj73, h⟩ := joinE h
      refine .cutI (fun T => (T = St.of [(0, .sl 71 .ro (a0.map (PV.int .u64))), (5, .sl 71 .ro (a0.map (PV.int .u64))), (6, .int .i64 (a0.length : Int)), (7, .int .i64 v48)] [] ∧ j73 () = some r)) ?_ ?_
      · refine .block ?_
        refine .seq ?_
        refine .region ?_
        refine .move ?_
        obtain ⟨x74, hx74, h⟩ := bindE h
        refine .idxL (f := (PV.int .u64)) hx74 ?_
        refine .ldL hx74 (y := .int .u64 x74) ?_
        refine .assign ?_
        refine .assign ?_
        refine .nil ?_
        obtain ⟨j78, hj78, h⟩ := joinE h
        obtain ⟨j80, hj80, h⟩ := joinE h
        obtain ⟨j81, hj81, h⟩ := joinE h
        refine .cutI (fun T => (T = St.of [(0, .sl 71 .ro (a0.map (PV.int .u64))), (5, .sl 71 .ro (a0.map (PV.int .u64))), (6, .int .i64 (a0.length : Int)), (7, .int .i64 v48), (26, .bool true)] [] ∧ j78 () = some r) ∨ (∃ (v79 : Bool), T = St.of [(0, .sl 71 .ro (a0.map (PV.int .u64))), (5, .sl 71 .ro (a0.map (PV.int .u64))), (6, .int .i64 (a0.length : Int)), (7, .int .i64 v48), (26, .bool v79)] [] ∧ j80 v79 = some r) ∨ (T = St.of [(0, .sl 71 .ro (a0.map (PV.int .u64))), (5, .sl 71 .ro (a0.map (PV.int .u64))), (6, .int .i64 (a0.length : Int)), (7, .int .i64 v48), (26, .bool false)] [] ∧ j81 () = some r)) ?_ ?_
        · refine .region ?_
          refine .move ?_
          refine .val ?_
          refine .move ?_
          refine .caseG (fun hc82 => ?_) (fun hc82 => ?_)
          · replace h := (if_pos hc82).symm.trans h
            refine .skip ?_
            refine .skip ?_
            refine .skip ?_
            refine .skip ?_
            refine .skip ?_
            refine .skip ?_
            refine .skip ?_
            refine .skip ?_
            refine .skip ?_
            refine .skip ?_
            refine .skip ?_
            refine .brT ?_
            refine .nil ?_
            exact ⟨_, (.inl ⟨rfl, h⟩), (imp_of (.cons rfl (.cons rfl (.cons rfl (.cons rfl (.cons rfl (.nil)))))) (.nil))⟩
          · replace h := (if_neg (nt hc82)).symm.trans h
            refine .move ?_
            refine .val ?_
            refine .move ?_
            refine .caseG (fun hc83 => ?_) (fun hc83 => ?_)
            · replace h := (if_pos hc83).symm.trans h
              refine .move ?_
              refine .move ?_
              refine .move ?_
              refine .val ?_
              obtain ⟨x84, hx84, h⟩ := bindE h
              refine .idxL (f := (PV.int .u64)) hx84 ?_
              refine .ldL hx84 (y := .int .u64 x84) ?_
              refine .val ?_
              refine .brT ?_
              refine .brF ?_
              refine .nil ?_
              exact ⟨_, (.inr (.inl ⟨_, rfl, h⟩)), (imp_of (.cons rfl (.cons rfl (.cons rfl (.cons rfl (.cons rfl (.nil)))))) (.nil))⟩
            · replace h := (if_neg (nt hc83)).symm.trans h
              refine .skip ?_
              refine .skip ?_
              refine .skip ?_
              refine .skip ?_
              refine .skip ?_
              refine .skip ?_
              refine .skip ?_
              refine .brF ?_
              refine .brF ?_
              refine .nil ?_
              exact ⟨_, (.inr (.inr (⟨rfl, h⟩))), (imp_of (.cons rfl (.cons rfl (.cons rfl (.cons rfl (.cons rfl (.nil)))))) (.nil))⟩
        · rintro T (⟨rfl, h⟩ | ⟨v79, rfl, h⟩ | ⟨rfl, h⟩)
          · subst hj78
            refine .condT ?_
            refine .seq ?_
            refine .region ?_
            refine .assign ?_
            refine .nil ?_
            cases h
            exact .ret (fin_gen0 none)
          · subst hj80
            refine .cond (fun hc85 => ?_) (fun hc85 => ?_)
            · replace h := (if_pos hc85).symm.trans h
              refine .seq ?_
              refine .region ?_
              refine .assign ?_
              refine .nil ?_
              cases h
              exact .ret (fin_gen0 none)
            · replace h := (if_neg (nt hc85)).symm.trans h
              refine .skip ?_
              exact ⟨_, ⟨rfl, h⟩, (imp_of (.cons rfl (.cons rfl (.cons rfl (.cons rfl (.nil))))) (.nil))⟩
          · subst hj81
            refine .condF ?_
            refine .skip ?_
            exact ⟨_, ⟨rfl, h⟩, (imp_of (.cons rfl (.cons rfl (.cons rfl (.cons rfl (.nil))))) (.nil))⟩
      · rintro T ⟨rfl, h⟩
        subst hj73
        refine .region ?_
        refine .val ?_
        refine .move ?_
        refine .nil ?_
        exact ⟨m61, _, Nat.lt_succ_self m61, ⟨_, rfl, h⟩, (imp_of (.cons rfl (.cons rfl (.cons rfl (.cons rfl (.nil))))) (.nil))⟩
    · replace h := (if_neg (nt hc63)).symm.trans h
      refine .exit (.hit ?_)
      exact ⟨_, ⟨rfl, h⟩, (imp_of (.nil) (.nil))⟩
  · rintro T ⟨rfl, h⟩
    subst hj36
    refine .seq ?_
    refine .region ?_
    refine .assign ?_
    refine .nil ?_
    cases h
    exact .ret (fin_gen0 none)

/- slices.Index[[]uint64,uint64] -/
def f115_l1 (n : Nat) (a0 : (List Int)) (a1 : Int) (j12 : Unit → Option Int) : Nat → Int → Option Int
  | 0, _ => none
  | m21 + 1, v16 =>
    if decide (v16 < (a0.length : Int)) then (
    (lAt a0 v16).bind fun x26 =>
    if (a1 == x26) then (
    some v16)
    else (
    f115_l1 n a0 a1 j12 m21 (w64 (v16 + (1 : Int)))))
    else (
    j12 ())
def f115 (n : Nat) (a0 : (List Int)) (a1 : Int) : Option Int :=
  joinK (fun (_ : Unit) =>
  some (-1)) fun j12 =>
  f115_l1 n a0 a1 j12 n 0
set_option maxHeartbeats 4000000 in
set_option maxRecDepth 100000 in
theorem g115 {n : Nat} {a0 : (List Int)} {a1 : Int} {r : Int} (h : f115 n a0 a1 = some r) :
    Ab.Can Try.prog 115 [.sl 71 .ro (a0.map (PV.int .u64)), .int .u64 a1] H0 (.int .i64 r) H0 := by
  refine can_of tabOK mix Try.call115 Try.func115 rfl (by kernel_rfl) (by show _ ≤ 19; simp) fun _ => ?_
  rw [f115] at h
  refine .seq ?_
  refine .region ?_
  refine .assign ?_
  refine .nil ?_
  obtain ⟨j12, hj12, h⟩ := joinE h
  refine .cutI (fun T => (T = St.of [] [] ∧ j12 () = some r)) ?_ ?_
  · refine .seq ?_
    refine .region ?_
    refine .move ?_
    refine .lenL (f := (PV.int .u64)) ?_
    refine .move ?_
    refine .nil ?_
    refine .block ?_
    refine .loopI (fun m T => ∃ (v16 : Int), T = St.of [(0, .sl 71 .ro (a0.map (PV.int .u64))), (1, .int .u64 a1), (7, .int .i64 (a0.length : Int)), (8, .int .i64 v16)] [] ∧ f115_l1 n a0 a1 j12 m v16 = some r) _ _ ⟨_, rfl, h⟩ (imp_of (.cons rfl (.cons rfl (.cons rfl (.cons rfl (.nil))))) (.nil)) ?_
    rintro m21 T ⟨v16, rfl, h⟩
    obtain _ | m21 := m21
    · rw [f115_l1] at h; cases h
    rw [f115_l1] at h
    refine .seq ?_
    refine .region ?_
    refine .val ?_
    refine .nil ?_
    refine .seq ?_
    refine .cond (fun hc23 => ?_) (fun hc23 => ?_)
    · replace h := (if_pos hc23).symm.trans h
      refine .skip ?_
      refine .seq ?_
      refine .block ?_
      refine .seq ?_
      refine .region ?_
      refine .move ?_
      refine .assign ?_
      refine .nil ?_
      refine .seq ?_
      refine .region ?_
      refine .move ?_
      refine .move ?_
      refine .move ?_
      obtain ⟨x26, hx26, h⟩ := bindE h
      refine .idxL (f := (PV.int .u64)) hx26 ?_
      refine .ldL hx26 (y := .int .u64 x26) ?_
      refine .val ?_
      refine .nil ?_
      refine .cond (fun hc27 => ?_) (fun hc27 => ?_)
      · replace h := (if_pos hc27).symm.trans h
        refine .seq ?_
        refine .region ?_
        refine .move ?_
        refine .assign ?_
        refine .nil ?_
        cases h
        exact .ret (fin_gen0 none)
      · replace h := (if_neg (nt hc27)).symm.trans h
        refine .skip ?_
        refine .region ?_
        refine .val ?_
        refine .move ?_
        refine .nil ?_
        exact ⟨m21, _, Nat.lt_succ_self m21, ⟨_, rfl, h⟩, (imp_of (.cons rfl (.cons rfl (.cons rfl (.cons rfl (.nil))))) (.nil))⟩
    · replace h := (if_neg (nt hc23)).symm.trans h
      refine .exit (.hit ?_)
      exact ⟨_, ⟨rfl, h⟩, (imp_of (.nil) (.nil))⟩
  · rintro T ⟨rfl, h⟩
    subst hj12
    refine .seq ?_
    refine .region ?_
    refine .assign ?_
    refine .nil ?_
    cases h
    exact .ret (fin_gen0 none)

/- slices.Contains[[]uint64,uint64] -/
def f92 (n : Nat) (a0 : (List Int)) (a1 : Int) : Option Bool :=
  (f115 n a0 a1).bind fun y1 =>
  some (decide (y1 ≥ (0 : Int)))
set_option maxHeartbeats 4000000 in
set_option maxRecDepth 100000 in
theorem g92 {n : Nat} {a0 : (List Int)} {a1 : Int} {r : Bool} (h : f92 n a0 a1 = some r) :
    Ab.Can Try.prog 92 [.sl 71 .ro (a0.map (PV.int .u64)), .int .u64 a1] H0 (.bool r) H0 := by
  refine can_of tabOK mix Try.call92 Try.func92 rfl (by kernel_rfl) (by show _ ≤ 9; simp) fun _ => ?_
  rw [f92] at h
  refine .seq ?_
  refine .region ?_
  refine .assign ?_
  refine .nil ?_
  refine .seq ?_
  refine .region ?_
  refine .move ?_
  refine .move ?_
  obtain ⟨y1, hy1, h⟩ := bindE h
  refine .cP (g115 hy1) ?_
  refine .val ?_
  refine .assign ?_
  refine .nil ?_
  cases h
  exact .ret (fin_gen0 none)

/- soundservice/choices.Proper -/
def f82 (n : Nat) (a0 : Choose) : Option Bool :=
  (f110 n a0.Role).bind fun y8 =>
  if y8 then (
  if decide ((a0.Set.length : Int) ≥ (1 : Int)) then (
  if decide ((a0.Set.length : Int) ≤ (8 : Int)) then (
  (f90 n a0.Set).bind fun y12 =>
  if y12 then (
  (f92 n a0.Set a0.Device).bind fun y14 =>
  some y14)
  else (
  some false))
  else (
  some false))
  else (
  some false))
  else (
  some false)
set_option maxHeartbeats 4000000 in
set_option maxRecDepth 100000 in
theorem g82 {n : Nat} {a0 : Choose} {r : Bool} (h : f82 n a0 = some r) :
    Ab.Can Try.prog 82 [.agg [.str a0.Role, .sl 71 .ro (a0.Set.map (PV.int .u64)), .int .u64 a0.Device]] H0 (.bool r) H0 := by
  refine can_of tabOK mix Try.call82 Try.func82 rfl (by kernel_rfl) (by show _ ≤ 30; simp) fun _ => ?_
  rw [f82] at h
  refine .seq ?_
  refine .region ?_
  refine .boxL (cs := [.str a0.Role, .sl 71 .ro (a0.Set.map (PV.int .u64)), .int .u64 a0.Device]) ?_
  refine .assign ?_
  refine .nil ?_
  refine .seq ?_
  refine .region ?_
  refine .val ?_
  refine .val ?_
  obtain ⟨y8, hy8, h⟩ := bindE h
  refine .cP (g110 hy8) ?_
  refine .move ?_
  refine .caseG (fun hc9 => ?_) (fun hc9 => ?_)
  · replace h := (if_pos hc9).symm.trans h
    refine .val ?_
    refine .val ?_
    refine .lenL (f := (PV.int .u64)) ?_
    refine .val ?_
    refine .brT ?_
    refine .move ?_
    refine .caseG (fun hc10 => ?_) (fun hc10 => ?_)
    · replace h := (if_pos hc10).symm.trans h
      refine .val ?_
      refine .val ?_
      refine .lenL (f := (PV.int .u64)) ?_
      refine .val ?_
      refine .brT ?_
      refine .move ?_
      refine .caseG (fun hc11 => ?_) (fun hc11 => ?_)
      · replace h := (if_pos hc11).symm.trans h
        refine .val ?_
        refine .val ?_
        obtain ⟨y12, hy12, h⟩ := bindE h
        refine .cP (g90 hy12) ?_
        refine .brT ?_
        refine .move ?_
        refine .caseG (fun hc13 => ?_) (fun hc13 => ?_)
        · replace h := (if_pos hc13).symm.trans h
          refine .val ?_
          refine .val ?_
          refine .val ?_
          refine .val ?_
          obtain ⟨y14, hy14, h⟩ := bindE h
          refine .cP (g92 hy14) ?_
          refine .brT ?_
          refine .assign ?_
          refine .nil ?_
          cases h
          exact .ret (fin_gen0 none)
        · replace h := (if_neg (nt hc13)).symm.trans h
          refine .skip ?_
          refine .skip ?_
          refine .skip ?_
          refine .skip ?_
          refine .skip ?_
          refine .brF ?_
          refine .assign ?_
          refine .nil ?_
          cases h
          exact .ret (fin_gen0 none)
      · replace h := (if_neg (nt hc11)).symm.trans h
        refine .skip ?_
        refine .skip ?_
        refine .skip ?_
        refine .brF ?_
        refine .move ?_
        refine .skip ?_
        refine .skip ?_
        refine .skip ?_
        refine .skip ?_
        refine .skip ?_
        refine .brF ?_
        refine .assign ?_
        refine .nil ?_
        cases h
        exact .ret (fin_gen0 none)
    · replace h := (if_neg (nt hc10)).symm.trans h
      refine .skip ?_
      refine .skip ?_
      refine .skip ?_
      refine .skip ?_
      refine .brF ?_
      refine .move ?_
      refine .skip ?_
      refine .skip ?_
      refine .skip ?_
      refine .brF ?_
      refine .move ?_
      refine .skip ?_
      refine .skip ?_
      refine .skip ?_
      refine .skip ?_
      refine .skip ?_
      refine .brF ?_
      refine .assign ?_
      refine .nil ?_
      cases h
      exact .ret (fin_gen0 none)
  · replace h := (if_neg (nt hc9)).symm.trans h
    refine .skip ?_
    refine .skip ?_
    refine .skip ?_
    refine .skip ?_
    refine .brF ?_
    refine .move ?_
    refine .skip ?_
    refine .skip ?_
    refine .skip ?_
    refine .skip ?_
    refine .brF ?_
    refine .move ?_
    refine .skip ?_
    refine .skip ?_
    refine .skip ?_
    refine .brF ?_
    refine .move ?_
    refine .skip ?_
    refine .skip ?_
    refine .skip ?_
    refine .skip ?_
    refine .skip ?_
    refine .brF ?_
    refine .assign ?_
    refine .nil ?_
    cases h
    exact .ret (fin_gen0 none)

/- slices.IndexFunc[[]soundservice/api.Choose,soundservice/api.Choose] -/
def f111_l1 (n : Nat) (a0 : (List Choose)) (p1 : Choose → Option Bool) (j15 : Unit → Option Int) : Nat → Int → Option Int
  | 0, _ => none
  | m26 + 1, v20 =>
    if decide (v20 < (a0.length : Int)) then (
    (lAt a0 v20).bind fun x32 =>
    (p1 x32).bind fun y33 =>
    if y33 then (
    some v20)
    else (
    f111_l1 n a0 p1 j15 m26 (w64 (v20 + (1 : Int)))))
    else (
    j15 ())
def f111 (n : Nat) (a0 : (List Choose)) (p1 : Choose → Option Bool) : Option Int :=
  joinK (fun (_ : Unit) =>
  some (-1)) fun j15 =>
  f111_l1 n a0 p1 j15 n 0
set_option maxHeartbeats 4000000 in
set_option maxRecDepth 100000 in
theorem g111 {n : Nat} {a0 : (List Choose)} {p1 : Choose → Option Bool} {c1 : Nat} {q1 : List PV} {hp : List (Ab.Id × List PV)} (hp1 : ∀ (x0 : Choose) (b : Bool), p1 x0 = some b → Ab.Can Try.prog c1 ([.agg [.str x0.Role, .sl 71 .ro (x0.Set.map (PV.int .u64)), .int .u64 x0.Device]] ++ q1) (lookH hp) (.bool b) (lookH hp)) (hq : CapOK q1 hp = true) (ho1 : PV.roDs q1 = q1) {r : Int} (h : f111 n a0 p1 = some r) :
    Ab.Can Try.prog 111 [.sl 73 .ro (a0.map pv73), .fn c1 q1] (lookH hp) (.int .i64 r) (lookH hp) := by
  refine can_of tabOK mix Try.call111 Try.func111 rfl (by kernel_rfl) (by show _ ≤ 19; simp) fun _ => ?_
  rw [f111] at h
  refine .seq ?_
  refine .region ?_
  refine .assign ?_
  refine .nil ?_
  obtain ⟨j15, hj15, h⟩ := joinE h
  refine .cutI (fun T => (T = St.of [] hp ∧ j15 () = some r)) ?_ ?_
  · refine .seq ?_
    refine .region ?_
    refine .move ?_
    refine .lenL (f := pv73) ?_
    refine .move ?_
    refine .nil ?_
    refine .block ?_
    refine .loopI (fun m T => ∃ (v20 : Int), T = St.of [(0, .sl 73 .ro (a0.map pv73)), (1, .fn c1 q1), (7, .int .i64 (a0.length : Int)), (8, .int .i64 v20)] hp ∧ f111_l1 n a0 p1 j15 m v20 = some r) _ _ ⟨_, rfl, h⟩ (imp_opq (.cons rfl (.cons rfl (.cons rfl (.cons rfl (.nil))))) rfl) ?_
    rintro m26 T ⟨v20, rfl, h⟩
    obtain _ | m26 := m26
    · rw [f111_l1] at h; cases h
    rw [f111_l1] at h
    refine .seq ?_
    refine .region ?_
    refine .val ?_
    refine .nil ?_
    refine .seq ?_
    refine .cond (fun hc28 => ?_) (fun hc28 => ?_)
    · replace h := (if_pos hc28).symm.trans h
      refine .skip ?_
      refine .seq ?_
      refine .block ?_
      refine .seq ?_
      refine .region ?_
      refine .move ?_
      refine .assign ?_
      refine .nil ?_
      refine .seq ?_
      refine .region ?_
      refine .move ?_
      refine .move ?_
      refine .move ?_
      obtain ⟨x32, hx32, h⟩ := bindE h
      refine .idxL (f := pv73) hx32 ?_
      refine .ldL hx32 (y := .agg [.str x32.Role, .sl 71 .ro (x32.Set.map (PV.int .u64)), .int .u64 x32.Device]) ?_
      obtain ⟨y33, hy33, h⟩ := bindE h
      refine .cF (hp1 _ _ hy33) hq ho1 ?_
      refine .nil ?_
      refine .cond (fun hc34 => ?_) (fun hc34 => ?_)
      · replace h := (if_pos hc34).symm.trans h
        refine .seq ?_
        refine .region ?_
        refine .move ?_
        refine .assign ?_
        refine .nil ?_
        cases h
        exact .ret (fin_opq hq rfl)
      · replace h := (if_neg (nt hc34)).symm.trans h
        refine .skip ?_
        refine .region ?_
        refine .val ?_
        refine .move ?_
        refine .nil ?_
        exact ⟨m26, _, Nat.lt_succ_self m26, ⟨_, rfl, h⟩, (imp_opq (.cons rfl (.cons rfl (.cons rfl (.cons rfl (.nil))))) rfl)⟩
    · replace h := (if_neg (nt hc28)).symm.trans h
      refine .exit (.hit ?_)
      exact ⟨_, ⟨rfl, h⟩, (imp_opq (.nil) rfl)⟩
  · rintro T ⟨rfl, h⟩
    subst hj15
    refine .seq ?_
    refine .region ?_
    refine .assign ?_
    refine .nil ?_
    cases h
    exact .ret (fin_opq hq rfl)

/- slices.ContainsFunc[[]soundservice/api.Choose,soundservice/api.Choose] -/
def f83 (n : Nat) (a0 : (List Choose)) (p1 : Choose → Option Bool) : Option Bool :=
  (f111 n a0 p1).bind fun y1 =>
  some (decide (y1 ≥ (0 : Int)))
set_option maxHeartbeats 4000000 in
set_option maxRecDepth 100000 in
theorem g83 {n : Nat} {a0 : (List Choose)} {p1 : Choose → Option Bool} {c1 : Nat} {q1 : List PV} {hp : List (Ab.Id × List PV)} (hp1 : ∀ (x0 : Choose) (b : Bool), p1 x0 = some b → Ab.Can Try.prog c1 ([.agg [.str x0.Role, .sl 71 .ro (x0.Set.map (PV.int .u64)), .int .u64 x0.Device]] ++ q1) (lookH hp) (.bool b) (lookH hp)) (hq : CapOK q1 hp = true) (ho1 : PV.roDs q1 = q1) {r : Bool} (h : f83 n a0 p1 = some r) :
    Ab.Can Try.prog 83 [.sl 73 .ro (a0.map pv73), .fn c1 q1] (lookH hp) (.bool r) (lookH hp) := by
  refine can_of tabOK mix Try.call83 Try.func83 rfl (by kernel_rfl) (by show _ ≤ 9; simp) fun _ => ?_
  rw [f83] at h
  refine .seq ?_
  refine .region ?_
  refine .assign ?_
  refine .nil ?_
  refine .seq ?_
  refine .region ?_
  refine .move ?_
  refine .move ?_
  obtain ⟨y1, hy1, h⟩ := bindE h
  refine .cQ (g111 hp1 hq ho1 hy1) hq (fun i hi => by simpa [PV.idss, PV.ids] using hi) ?_
  refine .val ?_
  refine .assign ?_
  refine .nil ?_
  cases h
  exact .ret (fin_opq hq rfl)

/- soundservice/choices.Valid -/
def f45_l1 (n : Nat) (a0 : Memory) (j35 : Unit → Option Bool) : Nat → Int → Option Bool
  | 0, _ => none
  | m58 + 1, v46 =>
    if decide (v46 < (a0.Choices.length : Int)) then (
    (lAt a0.Choices v46).bind fun x70 =>
    joinK (fun (_ : Unit) =>
    some false) fun j75 =>
    joinK (fun (v76 : Bool) =>
    if v76 then (
    some false)
    else (
    f45_l1 n a0 j35 m58 (w64 (v46 + (1 : Int))))) fun j77 =>
    (f82 n (⟨x70.Role, x70.Set, x70.Device⟩ : Choose)).bind fun y78 =>
    if !y78 then (
    j75 ())
    else (
    (lPart a0.Choices (0 : Int) v46).bind fun x80 =>
    (f83 n x80 (fun z0 => f80 n z0 (⟨x70.Role, x70.Set, x70.Device⟩ : Choose))).bind fun y81 =>
    j77 y81))
    else (
    j35 ())
def f45 (n : Nat) (a0 : Memory) : Option Bool :=
  if decide ((a0.Choices.length : Int) > (32 : Int)) then (
  some false)
  else (
  joinK (fun (_ : Unit) =>
  some true) fun j35 =>
  f45_l1 n a0 j35 n 0)
set_option maxHeartbeats 4000000 in
set_option maxRecDepth 100000 in
theorem g45 {n : Nat} {a0 : Memory} {r : Bool} (h : f45 n a0 = some r) :
    Ab.Can Try.prog 45 [.agg [.sl 73 .ro (a0.Choices.map pv73)]] H0 (.bool r) H0 := by
  refine can_of tabOK mix Try.call45 Try.func45 rfl (by kernel_rfl) (by show _ ≤ 31; simp) fun _ => ?_
  rw [f45] at h
  refine .seq ?_
  refine .region ?_
  refine .boxL (cs := [.sl 73 .ro (a0.Choices.map pv73)]) ?_
  refine .assign ?_
  refine .nil ?_
  refine .seq ?_
  refine .seq ?_
  refine .region ?_
  refine .val ?_
  refine .val ?_
  refine .lenL (f := pv73) ?_
  refine .val ?_
  refine .nil ?_
  refine .cond (fun hc2 => ?_) (fun hc2 => ?_)
  · replace h := (if_pos hc2).symm.trans h
    refine .seq ?_
    refine .region ?_
    refine .assign ?_
    refine .nil ?_
    cases h
    exact .ret (fin_gen0 none)
  · replace h := (if_neg (nt hc2)).symm.trans h
    refine .skip ?_
    obtain ⟨j35, hj35, h⟩ := joinE h
    refine .cutI (fun T => (T = St.of [] [] ∧ j35 () = some r)) ?_ ?_
    · refine .seq ?_
      refine .region ?_
      refine .val ?_
      refine .val ?_
      refine .lenL (f := pv73) ?_
      refine .move ?_
      refine .nil ?_
      refine .block ?_
      refine .loopI (fun m T => ∃ (v46 : Int), T = St.of [(1, .ptr (.loc 0 0) 0), (11, .sl 73 .ro (a0.Choices.map pv73)), (12, .int .i64 (a0.Choices.length : Int)), (13, .int .i64 v46)] [((.loc 0 0), [.sl 73 .ro (a0.Choices.map pv73)])] ∧ f45_l1 n a0 j35 m v46 = some r) _ _ ⟨_, rfl, h⟩ (imp_of (.cons rfl (.cons rfl (.cons rfl (.cons rfl (.nil))))) (.cons rfl (.nil))) ?_
      rintro m58 T ⟨v46, rfl, h⟩
      obtain _ | m58 := m58
      · rw [f45_l1] at h; cases h
      rw [f45_l1] at h
      refine .seq ?_
      refine .region ?_
      refine .val ?_
      refine .nil ?_
      refine .seq ?_
      refine .cond (fun hc60 => ?_) (fun hc60 => ?_)
      · replace h := (if_pos hc60).symm.trans h
        refine .skip ?_
        refine .seq ?_
        refine .block ?_
        refine .seq ?_
        refine .region ?_
        refine .move ?_
        obtain ⟨x70, hx70, h⟩ := bindE h
        refine .idxL (f := pv73) hx70 ?_
        refine .ldL hx70 (y := .agg [.str x70.Role, .sl 71 .ro (x70.Set.map (PV.int .u64)), .int .u64 x70.Device]) ?_
        refine .allocL (cs := [.str (⟨#[]⟩ : ByteArray), .sl 71 .full [], .int .u64 0]) ?_
        refine .assign ?_
        refine .wrL (cs := [.str x70.Role, .sl 71 .ro (x70.Set.map (PV.int .u64)), .int .u64 x70.Device]) ?_
        refine .nil ?_
        refine .seq ?_
        refine .region ?_
        refine .val (v := .fn 80 [.ptr (.loc 5 3) 0]) ?_
        refine .assign ?_
        refine .nil ?_
        obtain ⟨j75, hj75, h⟩ := joinE h
        obtain ⟨j77, hj77, h⟩ := joinE h
        refine .cutI (fun T => (T = St.of [(1, .ptr (.loc 0 0) 0), (11, .sl 73 .ro (a0.Choices.map pv73)), (12, .int .i64 (a0.Choices.length : Int)), (13, .int .i64 v46), (29, .bool true)] [((.loc 0 0), [.sl 73 .ro (a0.Choices.map pv73)])] ∧ j75 () = some r) ∨ (∃ (v76 : Bool), T = St.of [(1, .ptr (.loc 0 0) 0), (11, .sl 73 .ro (a0.Choices.map pv73)), (12, .int .i64 (a0.Choices.length : Int)), (13, .int .i64 v46), (29, .bool v76)] [((.loc 0 0), [.sl 73 .ro (a0.Choices.map pv73)])] ∧ j77 v76 = some r)) ?_ ?_
        · refine .region ?_
          refine .val (v := .agg [.str x70.Role, .sl 71 .ro (x70.Set.map (PV.int .u64)), .int .u64 x70.Device]) ?_
          obtain ⟨y78, hy78, h⟩ := bindE h
          refine .cP (g82 hy78) ?_
          refine .val ?_
          refine .move ?_
          refine .caseG (fun hc79 => ?_) (fun hc79 => ?_)
          · replace h := (if_pos hc79).symm.trans h
            refine .skip ?_
            refine .skip ?_
            refine .skip ?_
            refine .skip ?_
            refine .skip ?_
            refine .skip ?_
            refine .brT ?_
            refine .nil ?_
            exact ⟨_, (.inl ⟨rfl, h⟩), (imp_of (.cons rfl (.cons rfl (.cons rfl (.cons rfl (.cons rfl (.nil)))))) (.cons rfl (.nil)))⟩
          · replace h := (if_neg (nt hc79)).symm.trans h
            refine .val ?_
            refine .val ?_
            refine .move ?_
            obtain ⟨x80, hx80, h⟩ := bindE h
            refine .partL (f := pv73) hx80 ?_
            refine .move ?_
            obtain ⟨y81, hy81, h⟩ := bindE h
            refine .cH (.loc 5 3) (g83 (q1 := [.ptr (.par 0) 0]) (hp := [(.par 0, [.str x70.Role, .sl 71 .ro (x70.Set.map (PV.int .u64)), .int .u64 x70.Device])]) (fun _ _ hz => g80 hz) rfl rfl hy81) ?_
            refine .brF ?_
            refine .nil ?_
            exact ⟨_, (.inr (⟨_, rfl, h⟩)), (imp_of (.cons rfl (.cons rfl (.cons rfl (.cons rfl (.cons rfl (.nil)))))) (.cons rfl (.nil)))⟩
        · rintro T (⟨rfl, h⟩ | ⟨v76, rfl, h⟩)
          · subst hj75
            refine .condT ?_
            refine .seq ?_
            refine .region ?_
            refine .assign ?_
            refine .nil ?_
            cases h
            exact .ret (fin_gen0 none)
          · subst hj77
            refine .cond (fun hc82 => ?_) (fun hc82 => ?_)
            · replace h := (if_pos hc82).symm.trans h
              refine .seq ?_
              refine .region ?_
              refine .assign ?_
              refine .nil ?_
              cases h
              exact .ret (fin_gen0 none)
            · replace h := (if_neg (nt hc82)).symm.trans h
              refine .skip ?_
              refine .region ?_
              refine .val ?_
              refine .move ?_
              refine .nil ?_
              exact ⟨m58, _, Nat.lt_succ_self m58, ⟨_, rfl, h⟩, (imp_of (.cons rfl (.cons rfl (.cons rfl (.cons rfl (.nil))))) (.cons rfl (.nil)))⟩
      · replace h := (if_neg (nt hc60)).symm.trans h
        refine .exit (.hit ?_)
        exact ⟨_, ⟨rfl, h⟩, (imp_of (.nil) (.nil))⟩
    · rintro T ⟨rfl, h⟩
      subst hj35
      refine .seq ?_
      refine .region ?_
      refine .assign ?_
      refine .nil ?_
      cases h
      exact .ret (fin_gen0 none)

/- soundservice/choices.Remember$1 -/
def f87 (n : Nat) (a0 : Choose) (c0 : Choose) : Option Bool :=
  (f81 n (⟨c0.Role, c0.Set, c0.Device⟩ : Choose) (⟨a0.Role, a0.Set, a0.Device⟩ : Choose)).bind fun y1 =>
  some y1
set_option maxHeartbeats 4000000 in
set_option maxRecDepth 100000 in
theorem g87 {n : Nat} {a0 : Choose} {c0 : Choose} {r : Bool} (h : f87 n a0 c0 = some r) :
    Ab.Can Try.prog 87 [.agg [.str a0.Role, .sl 71 .ro (a0.Set.map (PV.int .u64)), .int .u64 a0.Device], .ptr (.par 0) 0] (lookH [(.par 0, [.str c0.Role, .sl 71 .ro (c0.Set.map (PV.int .u64)), .int .u64 c0.Device])]) (.bool r) (lookH [(.par 0, [.str c0.Role, .sl 71 .ro (c0.Set.map (PV.int .u64)), .int .u64 c0.Device])]) := by
  refine can_of tabOK mix Try.call87 Try.func87 rfl (by kernel_rfl) (by show _ ≤ 7; simp) fun _ => ?_
  rw [f87] at h
  refine .seq ?_
  refine .region ?_
  refine .boxL (cs := [.str a0.Role, .sl 71 .ro (a0.Set.map (PV.int .u64)), .int .u64 a0.Device]) ?_
  refine .assign ?_
  refine .nil ?_
  refine .seq ?_
  refine .region ?_
  refine .val (v := .agg [.str c0.Role, .sl 71 .ro (c0.Set.map (PV.int .u64)), .int .u64 c0.Device]) ?_
  refine .val (v := .agg [.str a0.Role, .sl 71 .ro (a0.Set.map (PV.int .u64)), .int .u64 a0.Device]) ?_
  obtain ⟨y1, hy1, h⟩ := bindE h
  refine .cP (g81 hy1) ?_
  refine .assign ?_
  refine .nil ?_
  cases h
  exact .ret (fin_gen none (.par .nil))

/- soundservice/choices.Forget$1 -/
def f95 (_n : Nat) (a0 : Choose) (c0 : Bool) (c1 : Int) : Option Bool :=
  if c0 then (
  some (a0.Device == c1))
  else (
  some false)
set_option maxHeartbeats 4000000 in
set_option maxRecDepth 100000 in
theorem g95 {n : Nat} {a0 : Choose} {c0 : Bool} {c1 : Int} {r : Bool} (h : f95 n a0 c0 c1 = some r) :
    Ab.Can Try.prog 95 [.agg [.str a0.Role, .sl 71 .ro (a0.Set.map (PV.int .u64)), .int .u64 a0.Device], .ptr (.par 0) 0, .ptr (.par 1) 0] (lookH [(.par 0, [.bool c0]), (.par 1, [.int .u64 c1])]) (.bool r) (lookH [(.par 0, [.bool c0]), (.par 1, [.int .u64 c1])]) := by
  refine can_of tabOK mix Try.call95 Try.func95 rfl (by kernel_rfl) (by show _ ≤ 12; simp) fun _ => ?_
  rw [f95] at h
  refine .seq ?_
  refine .region ?_
  refine .boxL (cs := [.str a0.Role, .sl 71 .ro (a0.Set.map (PV.int .u64)), .int .u64 a0.Device]) ?_
  refine .assign ?_
  refine .nil ?_
  refine .seq ?_
  refine .region ?_
  refine .val ?_
  refine .move ?_
  refine .caseG (fun hc2 => ?_) (fun hc2 => ?_)
  · replace h := (if_pos hc2).symm.trans h
    refine .val ?_
    refine .val ?_
    refine .val ?_
    refine .val ?_
    refine .brT ?_
    refine .assign ?_
    refine .nil ?_
    cases h
    exact .ret (fin_gen none (.par (.par .nil)))
  · replace h := (if_neg (nt hc2)).symm.trans h
    refine .skip ?_
    refine .skip ?_
    refine .skip ?_
    refine .skip ?_
    refine .brF ?_
    refine .assign ?_
    refine .nil ?_
    cases h
    exact .ret (fin_gen none (.par (.par .nil)))

/- slices.Clone[[]uint64,uint64] -/
def f88 (_n : Nat) (a0 : (List Int)) : Option (List Int) :=
  (lApp ([] : List Int) a0).bind fun x6 =>
  some x6
set_option maxHeartbeats 4000000 in
set_option maxRecDepth 100000 in
theorem g88 {n : Nat} {a0 : (List Int)} {r : (List Int)} (h : f88 n a0 = some r) :
    Ab.Can Try.prog 88 [.sl 71 .ro (a0.map (PV.int .u64))] H0 (.sl 71 (.own (.rrow 0)) (r.map (PV.int .u64))) H0 := by
  refine can_of tabOK mix Try.call88 Try.func88 rfl (by kernel_rfl) (by show _ ≤ 8; simp) fun _ => ?_
  rw [f88] at h
  refine .seq ?_
  refine .region ?_
  refine .assign ?_
  refine .nil ?_
  refine .seq ?_
  refine .seq ?_
  refine .region ?_
  refine .move ?_
  refine .nd rfl rfl fun b3 hb4 => ?_
  rcases bool_em b3 with hc | hc
  · have h0 := hb4 hc
    rw [List.map_eq_nil_iff] at h0
    subst h0
    subst hc
    replace h : some ([] : List Int) = some r := Eq.trans (by simp [lApp]) h
    refine .nil ?_
    refine .condT ?_
    refine .seq ?_
    refine .region ?_
    refine .assign ?_
    refine .nil ?_
    cases h
    refine .imp (Imp.slot 2 (v := .sl 71 (.own (.row 0 0)) (([] : List Int).map (PV.int .u64))) (.own _ (.row 0 0)) rfl) ?_
    exact .ret (fin_gen0 (some (.row 0 0)))
  · subst hc
    refine .nil ?_
    refine .condF ?_
    refine .skip ?_
    refine .seq ?_
    refine .region ?_
    refine .litE (.row 8005 0) ?_
    refine .move ?_
    obtain ⟨x6, hx6, h⟩ := bindE h
    refine .appL (f := (PV.int .u64)) hx6 ?_
    refine .assign ?_
    refine .nil ?_
    cases h
    exact .ret (fin_gen0 (some (.row 3 2)))
theorem g88r {n : Nat} {a0 : (List Int)} {r : (List Int)} (h : f88 n a0 = some r) :
    Ab.Can Try.prog 88 [.sl 71 .ro (a0.map (PV.int .u64))] H0 (.sl 71 .ro (r.map (PV.int .u64))) H0 := Can.frzR (hq := []) (g88 h)

/- soundservice/choices.copied -/
def f86s87_l1 (n : Nat) (a0 : Memory) (c0 : Choose) (j44 : (List Choose) → (List Choose) → Option Memory) : Nat → (List Choose) → (List Choose) → Int → Option Memory
  | 0, _, _, _ => none
  | m75 + 1, v58, v60, v62 =>
    if decide (v62 < (a0.Choices.length : Int)) then (
    joinK (fun (v83 : (List Choose)) =>
    f86s87_l1 n a0 c0 j44 m75 v58 v83 (w64 (v62 + (1 : Int)))) fun j85 =>
    (lAt a0.Choices v62).bind fun x86 =>
    (f87 n (⟨x86.Role, x86.Set, x86.Device⟩ : Choose) (⟨c0.Role, c0.Set, c0.Device⟩ : Choose)).bind fun y87 =>
    if !y87 then (
    (f88 n x86.Set).bind fun y89 =>
    (lApp v60 ([(⟨x86.Role, y89, x86.Device⟩ : Choose)] : List Choose)).bind fun x90 =>
    j85 x90)
    else (
    j85 v60))
    else (
    j44 v58 v60)
def f86s87 (n : Nat) (a0 : Memory) (c0 : Choose) : Option Memory :=
  joinK (fun (v40 : (List Choose)) (v42 : (List Choose)) =>
  some (⟨v42⟩ : Memory)) fun j44 =>
  f86s87_l1 n a0 c0 j44 n ([] : List Choose) ([] : List Choose) 0
set_option maxHeartbeats 4000000 in
set_option maxRecDepth 100000 in
theorem g86s87 {n : Nat} {a0 : Memory} {c0 : Choose} {r : Memory} (h : f86s87 n a0 c0 = some r) :
    Ab.Can Try.prog 86 [.agg [.sl 73 .ro (a0.Choices.map pv73)], .fn 87 [.ptr (.par 0) 0]] (lookH [(.par 0, [.str c0.Role, .sl 71 .ro (c0.Set.map (PV.int .u64)), .int .u64 c0.Device])]) (.agg [.sl 73 (.own (.rrow 0)) (r.Choices.map pv73)]) (lookH [(.par 0, [.str c0.Role, .sl 71 .ro (c0.Set.map (PV.int .u64)), .int .u64 c0.Device])]) := by
  refine can_of tabOK mix Try.call86 Try.func86 rfl (by kernel_rfl) (by show _ ≤ 30; simp) fun _ => ?_
  rw [f86s87] at h
  refine .seq ?_
  refine .region ?_
  refine .boxL (cs := [.sl 73 .ro (a0.Choices.map pv73)]) ?_
  refine .allocL (cs := [.sl 73 .full []]) ?_
  refine .nil ?_
  refine .seq ?_
  refine .region ?_
  refine .assign ?_
  refine .nil ?_
  obtain ⟨j44, hj44, h⟩ := joinE h
  refine .cutI (fun T => (∃ (v40 : (List Choose)) (v42 : (List Choose)), T = St.of [(4, .ptr (.loc 0 1) 0), (5, .sl 73 (.own (.row 9043 0)) (v42.map pv73))] [((.loc 0 1), [.sl 73 (.own (.row 9041 0)) (v40.map pv73)]), ((.par 0), [.str c0.Role, .sl 71 .ro (c0.Set.map (PV.int .u64)), .int .u64 c0.Device])] ∧ j44 v40 v42 = some r)) ?_ ?_
  · refine .seq ?_
    refine .region ?_
    refine .val ?_
    refine .val ?_
    refine .lenL (f := pv73) ?_
    refine .move ?_
    refine .nil ?_
    refine .block ?_
    refine .loopI (fun m T => ∃ (v58 : (List Choose)) (v60 : (List Choose)) (v62 : Int), T = St.of [(1, .fn 87 [.ptr (.par 0) 0]), (4, .ptr (.loc 0 1) 0), (5, .sl 73 (.own (.row 9061 0)) (v60.map pv73)), (9, .sl 73 .ro (a0.Choices.map pv73)), (10, .int .i64 (a0.Choices.length : Int)), (11, .int .i64 v62)] [((.loc 0 1), [.sl 73 (.own (.row 9059 0)) (v58.map pv73)]), ((.par 0), [.str c0.Role, .sl 71 .ro (c0.Set.map (PV.int .u64)), .int .u64 c0.Device])] ∧ f86s87_l1 n a0 c0 j44 m v58 v60 v62 = some r) _ _ ⟨_, _, _, rfl, h⟩ (imp_of (.cons rfl (.cons rfl (.wk (.own _ _) rfl (.cons rfl (.cons rfl (.cons rfl (.nil))))))) (.wk (.cons (.own _ _) rfl (.nil)) rfl (.cons rfl (.nil)))) ?_
    rintro m75 T ⟨v58, v60, v62, rfl, h⟩
    obtain _ | m75 := m75
    · rw [f86s87_l1] at h; cases h
    rw [f86s87_l1] at h
    refine .seq ?_
    refine .region ?_
    refine .val ?_
    refine .nil ?_
    refine .seq ?_
    refine .cond (fun hc77 => ?_) (fun hc77 => ?_)
    · replace h := (if_pos hc77).symm.trans h
      refine .skip ?_
      obtain ⟨j85, hj85, h⟩ := joinE h
      refine .cutI (fun T => (∃ (v83 : (List Choose)), T = St.of [(1, .fn 87 [.ptr (.par 0) 0]), (4, .ptr (.loc 0 1) 0), (5, .sl 73 (.own (.row 9084 0)) (v83.map pv73)), (9, .sl 73 .ro (a0.Choices.map pv73)), (10, .int .i64 (a0.Choices.length : Int)), (11, .int .i64 v62)] [((.loc 0 1), [.sl 73 (.own (.row 9059 0)) (v58.map pv73)]), ((.par 0), [.str c0.Role, .sl 71 .ro (c0.Set.map (PV.int .u64)), .int .u64 c0.Device])] ∧ j85 v83 = some r)) ?_ ?_
      · refine .block ?_
        refine .seq ?_
        refine .region ?_
        obtain ⟨x86, hx86, h⟩ := bindE h
        refine .idxL (f := pv73) hx86 ?_
        refine .ldL hx86 (y := .agg [.str x86.Role, .sl 71 .ro (x86.Set.map (PV.int .u64)), .int .u64 x86.Device]) ?_
        refine .allocL (cs := [.str (⟨#[]⟩ : ByteArray), .sl 71 .full [], .int .u64 0]) ?_
        refine .wrL (cs := [.str x86.Role, .sl 71 .ro (x86.Set.map (PV.int .u64)), .int .u64 x86.Device]) ?_
        refine .nil ?_
        refine .seq ?_
        refine .region ?_
        refine .move ?_
        refine .val (v := .agg [.str x86.Role, .sl 71 .ro (x86.Set.map (PV.int .u64)), .int .u64 x86.Device]) ?_
        obtain ⟨y87, hy87, h⟩ := bindE h
        refine .cH (.par 0) (g87 hy87) ?_
        refine .val ?_
        refine .nil ?_
        refine .cond (fun hc88 => ?_) (fun hc88 => ?_)
        · replace h := (if_pos hc88).symm.trans h
          refine .seq ?_
          refine .region ?_
          refine .val ?_
          refine .val ?_
          obtain ⟨y89, hy89, h⟩ := bindE h
          refine .cP (g88r hy89) ?_
          refine .val ?_
          refine .wrL (cs := [.str x86.Role, .sl 71 .ro (y89.map (PV.int .u64)), .int .u64 x86.Device]) ?_
          refine .nil ?_
          refine .region ?_
          refine .move ?_
          refine .val (v := .agg [.str x86.Role, .sl 71 .ro (y89.map (PV.int .u64)), .int .u64 x86.Device]) ?_
          refine .litR (f := pv73) ([(⟨x86.Role, y89, x86.Device⟩ : Choose)] : List Choose) ?_
          obtain ⟨x90, hx90, h⟩ := bindE h
          refine .appL (f := pv73) hx90 ?_
          refine .assign ?_
          refine .nil ?_
          exact ⟨_, ⟨_, rfl, h⟩, (Imp.trans (Imp.swap (.row 7 3) (.row 9084 0) rfl rfl rfl) (imp_of (.cons rfl (.cons rfl (.cons rfl (.cons rfl (.cons rfl (.cons rfl (.nil))))))) (.cons rfl (.cons rfl (.nil)))))⟩
        · replace h := (if_neg (nt hc88)).symm.trans h
          refine .skip ?_
          exact ⟨_, ⟨_, rfl, h⟩, (Imp.trans (Imp.swap (.row 9061 0) (.row 9084 0) rfl rfl rfl) (imp_of (.cons rfl (.cons rfl (.cons rfl (.cons rfl (.cons rfl (.cons rfl (.nil))))))) (.cons rfl (.cons rfl (.nil)))))⟩
      · rintro T ⟨v83, rfl, h⟩
        subst hj85
        refine .region ?_
        refine .val ?_
        refine .move ?_
        refine .nil ?_
        exact ⟨m75, _, Nat.lt_succ_self m75, ⟨_, _, _, rfl, h⟩, (Imp.trans (Imp.swap (.row 9084 0) (.row 9061 0) rfl rfl rfl) (imp_of (.cons rfl (.cons rfl (.cons rfl (.cons rfl (.cons rfl (.cons rfl (.nil))))))) (.cons rfl (.cons rfl (.nil)))))⟩
    · replace h := (if_neg (nt hc77)).symm.trans h
      refine .exit (.hit ?_)
      exact ⟨_, ⟨_, _, rfl, h⟩, (Imp.trans (Imp.swap (.row 9059 0) (.row 9041 0) rfl rfl rfl) (Imp.trans (Imp.swap (.row 9061 0) (.row 9043 0) rfl rfl rfl) (imp_of (.cons rfl (.cons rfl (.nil))) (.cons rfl (.cons rfl (.nil))))))⟩
  · rintro T ⟨v40, v42, rfl, h⟩
    subst hj44
    refine .seq ?_
    refine .region ?_
    refine .move ?_
    refine .buildL (cs := [.sl 73 (.own (.row 9043 0)) (v42.map pv73)]) ?_
    refine .wrL (cs := [.sl 73 (.own (.row 9043 0)) (v42.map pv73)]) ?_
    refine .nil ?_
    cases h
    exact .ret (fin_gen (some (.row 9043 0)) (.par .nil))
theorem g86s87r {n : Nat} {a0 : Memory} {c0 : Choose} {r : Memory} (h : f86s87 n a0 c0 = some r) :
    Ab.Can Try.prog 86 [.agg [.sl 73 .ro (a0.Choices.map pv73)], .fn 87 [.ptr (.par 0) 0]] (lookH [(.par 0, [.str c0.Role, .sl 71 .ro (c0.Set.map (PV.int .u64)), .int .u64 c0.Device])]) (.agg [.sl 73 .ro (r.Choices.map pv73)]) (lookH [(.par 0, [.str c0.Role, .sl 71 .ro (c0.Set.map (PV.int .u64)), .int .u64 c0.Device])]) := Can.frzR (hq := [(.par 0, [.str c0.Role, .sl 71 .ro (c0.Set.map (PV.int .u64)), .int .u64 c0.Device])]) (g86s87 h)

/- soundservice/choices.copied -/
def f86s95_l1 (n : Nat) (a0 : Memory) (c0 : Bool) (c1 : Int) (j44 : (List Choose) → (List Choose) → Option Memory) : Nat → (List Choose) → (List Choose) → Int → Option Memory
  | 0, _, _, _ => none
  | m75 + 1, v58, v60, v62 =>
    if decide (v62 < (a0.Choices.length : Int)) then (
    joinK (fun (v83 : (List Choose)) =>
    f86s95_l1 n a0 c0 c1 j44 m75 v58 v83 (w64 (v62 + (1 : Int)))) fun j85 =>
    (lAt a0.Choices v62).bind fun x86 =>
    (f95 n (⟨x86.Role, x86.Set, x86.Device⟩ : Choose) c0 c1).bind fun y87 =>
    if !y87 then (
    (f88 n x86.Set).bind fun y89 =>
    (lApp v60 ([(⟨x86.Role, y89, x86.Device⟩ : Choose)] : List Choose)).bind fun x90 =>
    j85 x90)
    else (
    j85 v60))
    else (
    j44 v58 v60)
def f86s95 (n : Nat) (a0 : Memory) (c0 : Bool) (c1 : Int) : Option Memory :=
  joinK (fun (v40 : (List Choose)) (v42 : (List Choose)) =>
  some (⟨v42⟩ : Memory)) fun j44 =>
  f86s95_l1 n a0 c0 c1 j44 n ([] : List Choose) ([] : List Choose) 0
set_option maxHeartbeats 4000000 in
set_option maxRecDepth 100000 in
theorem g86s95 {n : Nat} {a0 : Memory} {c0 : Bool} {c1 : Int} {r : Memory} (h : f86s95 n a0 c0 c1 = some r) :
    Ab.Can Try.prog 86 [.agg [.sl 73 .ro (a0.Choices.map pv73)], .fn 95 [.ptr (.par 0) 0, .ptr (.par 1) 0]] (lookH [(.par 0, [.bool c0]), (.par 1, [.int .u64 c1])]) (.agg [.sl 73 (.own (.rrow 0)) (r.Choices.map pv73)]) (lookH [(.par 0, [.bool c0]), (.par 1, [.int .u64 c1])]) := by
  refine can_of tabOK mix Try.call86 Try.func86 rfl (by kernel_rfl) (by show _ ≤ 30; simp) fun _ => ?_
  rw [f86s95] at h
  refine .seq ?_
  refine .region ?_
  refine .boxL (cs := [.sl 73 .ro (a0.Choices.map pv73)]) ?_
  refine .allocL (cs := [.sl 73 .full []]) ?_
  refine .nil ?_
  refine .seq ?_
  refine .region ?_
  refine .assign ?_
  refine .nil ?_
  obtain ⟨j44, hj44, h⟩ := joinE h
  refine .cutI (fun T => (∃ (v40 : (List Choose)) (v42 : (List Choose)), T = St.of [(4, .ptr (.loc 0 1) 0), (5, .sl 73 (.own (.row 9043 0)) (v42.map pv73))] [((.loc 0 1), [.sl 73 (.own (.row 9041 0)) (v40.map pv73)]), ((.par 0), [.bool c0]), ((.par 1), [.int .u64 c1])] ∧ j44 v40 v42 = some r)) ?_ ?_
  · refine .seq ?_
    refine .region ?_
    refine .val ?_
    refine .val ?_
    refine .lenL (f := pv73) ?_
    refine .move ?_
    refine .nil ?_
    refine .block ?_
    refine .loopI (fun m T => ∃ (v58 : (List Choose)) (v60 : (List Choose)) (v62 : Int), T = St.of [(1, .fn 95 [.ptr (.par 0) 0, .ptr (.par 1) 0]), (4, .ptr (.loc 0 1) 0), (5, .sl 73 (.own (.row 9061 0)) (v60.map pv73)), (9, .sl 73 .ro (a0.Choices.map pv73)), (10, .int .i64 (a0.Choices.length : Int)), (11, .int .i64 v62)] [((.loc 0 1), [.sl 73 (.own (.row 9059 0)) (v58.map pv73)]), ((.par 0), [.bool c0]), ((.par 1), [.int .u64 c1])] ∧ f86s95_l1 n a0 c0 c1 j44 m v58 v60 v62 = some r) _ _ ⟨_, _, _, rfl, h⟩ (imp_of (.cons rfl (.cons rfl (.wk (.own _ _) rfl (.cons rfl (.cons rfl (.cons rfl (.nil))))))) (.wk (.cons (.own _ _) rfl (.nil)) rfl (.cons rfl (.cons rfl (.nil))))) ?_
    rintro m75 T ⟨v58, v60, v62, rfl, h⟩
    obtain _ | m75 := m75
    · rw [f86s95_l1] at h; cases h
    rw [f86s95_l1] at h
    refine .seq ?_
    refine .region ?_
    refine .val ?_
    refine .nil ?_
    refine .seq ?_
    refine .cond (fun hc77 => ?_) (fun hc77 => ?_)
    · replace h := (if_pos hc77).symm.trans h
      refine .skip ?_
      obtain ⟨j85, hj85, h⟩ := joinE h
      refine .cutI (fun T => (∃ (v83 : (List Choose)), T = St.of [(1, .fn 95 [.ptr (.par 0) 0, .ptr (.par 1) 0]), (4, .ptr (.loc 0 1) 0), (5, .sl 73 (.own (.row 9084 0)) (v83.map pv73)), (9, .sl 73 .ro (a0.Choices.map pv73)), (10, .int .i64 (a0.Choices.length : Int)), (11, .int .i64 v62)] [((.loc 0 1), [.sl 73 (.own (.row 9059 0)) (v58.map pv73)]), ((.par 0), [.bool c0]), ((.par 1), [.int .u64 c1])] ∧ j85 v83 = some r)) ?_ ?_
      · refine .block ?_
        refine .seq ?_
        refine .region ?_
        obtain ⟨x86, hx86, h⟩ := bindE h
        refine .idxL (f := pv73) hx86 ?_
        refine .ldL hx86 (y := .agg [.str x86.Role, .sl 71 .ro (x86.Set.map (PV.int .u64)), .int .u64 x86.Device]) ?_
        refine .allocL (cs := [.str (⟨#[]⟩ : ByteArray), .sl 71 .full [], .int .u64 0]) ?_
        refine .wrL (cs := [.str x86.Role, .sl 71 .ro (x86.Set.map (PV.int .u64)), .int .u64 x86.Device]) ?_
        refine .nil ?_
        refine .seq ?_
        refine .region ?_
        refine .move ?_
        refine .val (v := .agg [.str x86.Role, .sl 71 .ro (x86.Set.map (PV.int .u64)), .int .u64 x86.Device]) ?_
        obtain ⟨y87, hy87, h⟩ := bindE h
        refine .cH2 (.par 0) (.par 1) (g95 hy87) ?_
        refine .val ?_
        refine .nil ?_
        refine .cond (fun hc88 => ?_) (fun hc88 => ?_)
        · replace h := (if_pos hc88).symm.trans h
          refine .seq ?_
          refine .region ?_
          refine .val ?_
          refine .val ?_
          obtain ⟨y89, hy89, h⟩ := bindE h
          refine .cP (g88r hy89) ?_
          refine .val ?_
          refine .wrL (cs := [.str x86.Role, .sl 71 .ro (y89.map (PV.int .u64)), .int .u64 x86.Device]) ?_
          refine .nil ?_
          refine .region ?_
          refine .move ?_
          refine .val (v := .agg [.str x86.Role, .sl 71 .ro (y89.map (PV.int .u64)), .int .u64 x86.Device]) ?_
          refine .litR (f := pv73) ([(⟨x86.Role, y89, x86.Device⟩ : Choose)] : List Choose) ?_
          obtain ⟨x90, hx90, h⟩ := bindE h
          refine .appL (f := pv73) hx90 ?_
          refine .assign ?_
          refine .nil ?_
          exact ⟨_, ⟨_, rfl, h⟩, (Imp.trans (Imp.swap (.row 7 3) (.row 9084 0) rfl rfl rfl) (imp_of (.cons rfl (.cons rfl (.cons rfl (.cons rfl (.cons rfl (.cons rfl (.nil))))))) (.cons rfl (.cons rfl (.cons rfl (.nil))))))⟩
        · replace h := (if_neg (nt hc88)).symm.trans h
          refine .skip ?_
          exact ⟨_, ⟨_, rfl, h⟩, (Imp.trans (Imp.swap (.row 9061 0) (.row 9084 0) rfl rfl rfl) (imp_of (.cons rfl (.cons rfl (.cons rfl (.cons rfl (.cons rfl (.cons rfl (.nil))))))) (.cons rfl (.cons rfl (.cons rfl (.nil))))))⟩
      · rintro T ⟨v83, rfl, h⟩
        subst hj85
        refine .region ?_
        refine .val ?_
        refine .move ?_
        refine .nil ?_
        exact ⟨m75, _, Nat.lt_succ_self m75, ⟨_, _, _, rfl, h⟩, (Imp.trans (Imp.swap (.row 9084 0) (.row 9061 0) rfl rfl rfl) (imp_of (.cons rfl (.cons rfl (.cons rfl (.cons rfl (.cons rfl (.cons rfl (.nil))))))) (.cons rfl (.cons rfl (.cons rfl (.nil))))))⟩
    · replace h := (if_neg (nt hc77)).symm.trans h
      refine .exit (.hit ?_)
      exact ⟨_, ⟨_, _, rfl, h⟩, (Imp.trans (Imp.swap (.row 9059 0) (.row 9041 0) rfl rfl rfl) (Imp.trans (Imp.swap (.row 9061 0) (.row 9043 0) rfl rfl rfl) (imp_of (.cons rfl (.cons rfl (.nil))) (.cons rfl (.cons rfl (.cons rfl (.nil)))))))⟩
  · rintro T ⟨v40, v42, rfl, h⟩
    subst hj44
    refine .seq ?_
    refine .region ?_
    refine .move ?_
    refine .buildL (cs := [.sl 73 (.own (.row 9043 0)) (v42.map pv73)]) ?_
    refine .wrL (cs := [.sl 73 (.own (.row 9043 0)) (v42.map pv73)]) ?_
    refine .nil ?_
    cases h
    exact .ret (fin_gen (some (.row 9043 0)) (.par (.par .nil)))
theorem g86s95r {n : Nat} {a0 : Memory} {c0 : Bool} {c1 : Int} {r : Memory} (h : f86s95 n a0 c0 c1 = some r) :
    Ab.Can Try.prog 86 [.agg [.sl 73 .ro (a0.Choices.map pv73)], .fn 95 [.ptr (.par 0) 0, .ptr (.par 1) 0]] (lookH [(.par 0, [.bool c0]), (.par 1, [.int .u64 c1])]) (.agg [.sl 73 .ro (r.Choices.map pv73)]) (lookH [(.par 0, [.bool c0]), (.par 1, [.int .u64 c1])]) := Can.frzR (hq := [(.par 0, [.bool c0]), (.par 1, [.int .u64 c1])]) (g86s95 h)

/- soundservice/choices.Remember -/
def f47 (n : Nat) (a0 : Memory) (a1 : Choose) : Option (Memory × Int) :=
  (f45 n (⟨a0.Choices⟩ : Memory)).bind fun y5 =>
  if !y5 then (
  some ((⟨([] : List Choose)⟩ : Memory), 1))
  else (
  (f82 n (⟨a1.Role, a1.Set, a1.Device⟩ : Choose)).bind fun y7 =>
  if !y7 then (
  some ((⟨([] : List Choose)⟩ : Memory), 2))
  else (
  (f86s87 n (⟨a0.Choices⟩ : Memory) (⟨a1.Role, a1.Set, a1.Device⟩ : Choose)).bind fun y9 =>
  (f88 n a1.Set).bind fun y10 =>
  (lApp y9.Choices ([(⟨a1.Role, y10, a1.Device⟩ : Choose)] : List Choose)).bind fun x11 =>
  joinK (fun (v14 : (List Choose)) =>
  some ((⟨v14⟩ : Memory), 0)) fun j15 =>
  if decide ((x11.length : Int) > (32 : Int)) then (
  (lPart x11 (1 : Int) (x11.length : Int)).bind fun x17 =>
  j15 x17)
  else (
  j15 x11)))
set_option maxHeartbeats 4000000 in
set_option maxRecDepth 100000 in
theorem g47 {n : Nat} {a0 : Memory} {a1 : Choose} {r : (Memory × Int)} (h : f47 n a0 a1 = some r) :
    Ab.Can Try.prog 47 [.agg [.sl 73 .ro (a0.Choices.map pv73)], .agg [.str a1.Role, .sl 71 .ro (a1.Set.map (PV.int .u64)), .int .u64 a1.Device]] H0 (.tup [.agg [.sl 73 .ro (r.1.Choices.map pv73)], .int .i64 r.2]) H0 := by
  refine can_of tabOK mix Try.call47 Try.func47 rfl (by kernel_rfl) (by show _ ≤ 39; simp) fun _ => ?_
  rw [f47] at h
  refine .seq ?_
  refine .region ?_
  refine .boxL (cs := [.sl 73 .ro (a0.Choices.map pv73)]) ?_
  refine .boxL (cs := [.str a1.Role, .sl 71 .ro (a1.Set.map (PV.int .u64)), .int .u64 a1.Device]) ?_
  refine .allocL (cs := [.sl 73 .full []]) ?_
  refine .assign ?_
  refine .nil ?_
  refine .seq ?_
  refine .block ?_
  refine .seq ?_
  refine .region ?_
  refine .val (v := .agg [.sl 73 .ro (a0.Choices.map pv73)]) ?_
  obtain ⟨y5, hy5, h⟩ := bindE h
  refine .cP (g45 hy5) ?_
  refine .val ?_
  refine .assign ?_
  refine .nil ?_
  refine .cond (fun hc6 => ?_) (fun hc6 => ?_)
  · replace h := (if_pos hc6).symm.trans h
    refine .seq ?_
    refine .region ?_
    refine .buildL (cs := [.sl 73 .full []]) ?_
    refine .wrL (cs := [.sl 73 .full []]) ?_
    refine .assign ?_
    refine .nil ?_
    cases h
    refine .imp (Imp.cell (.loc 0 2) (ds := [.sl 73 .ro (([] : List Choose).map pv73)]) (.cons (.ro _ _) rfl (.nil)) rfl) ?_
    exact .ret (fin_gen0 none)
  · replace h := (if_neg (nt hc6)).symm.trans h
    refine .seq ?_
    refine .region ?_
    refine .val (v := .agg [.str a1.Role, .sl 71 .ro (a1.Set.map (PV.int .u64)), .int .u64 a1.Device]) ?_
    obtain ⟨y7, hy7, h⟩ := bindE h
    refine .cP (g82 hy7) ?_
    refine .val ?_
    refine .assign ?_
    refine .nil ?_
    refine .cond (fun hc8 => ?_) (fun hc8 => ?_)
    · replace h := (if_pos hc8).symm.trans h
      refine .seq ?_
      refine .region ?_
      refine .buildL (cs := [.sl 73 .full []]) ?_
      refine .wrL (cs := [.sl 73 .full []]) ?_
      refine .assign ?_
      refine .nil ?_
      cases h
      refine .imp (Imp.cell (.loc 0 2) (ds := [.sl 73 .ro (([] : List Choose).map pv73)]) (.cons (.ro _ _) rfl (.nil)) rfl) ?_
      exact .ret (fin_gen0 none)
    · replace h := (if_neg (nt hc8)).symm.trans h
      refine .skip ?_
      refine .seq ?_
      refine .region ?_
      refine .val (v := .agg [.sl 73 .ro (a0.Choices.map pv73)]) ?_
      refine .val (v := .fn 87 [.ptr (.loc 0 1) 0]) ?_
      obtain ⟨y9, hy9, h⟩ := bindE h
      refine .cHO (.loc 0 1) (.row 5 2) (g86s87 hy9) (u := .agg [.sl 73 (.own (.row 5 2)) (y9.Choices.map pv73)]) ?_
      refine .allocL (cs := [.sl 73 .full []]) ?_
      refine .wrL (cs := [.sl 73 (.own (.row 5 2)) (y9.Choices.map pv73)]) ?_
      refine .nil ?_
      refine .imp (T := St.of [(3, .ptr (.loc 0 1) 0), (4, .ptr (.loc 0 2) 0), (6, .ptr (.loc 5 3) 0)] [((.loc 0 1), [.str a1.Role, .sl 71 .ro (a1.Set.map (PV.int .u64)), .int .u64 a1.Device]), ((.loc 0 2), [.sl 73 .full []]), ((.loc 5 3), [.sl 73 (.own (.row 5 2)) (y9.Choices.map pv73)])]) (imp_of (.cons rfl (.cons rfl (.cons rfl (.nil)))) (.cons rfl (.cons rfl (.cons rfl (.nil))))) ?_
      refine .seq ?_
      refine .region ?_
      refine .val ?_
      refine .val ?_
      obtain ⟨y10, hy10, h⟩ := bindE h
      refine .cP (g88r hy10) ?_
      refine .val ?_
      refine .wrL (cs := [.str a1.Role, .sl 71 .ro (y10.map (PV.int .u64)), .int .u64 a1.Device]) ?_
      refine .nil ?_
      refine .seq ?_
      refine .region ?_
      refine .val ?_
      refine .val ?_
      refine .val (v := .agg [.str a1.Role, .sl 71 .ro (y10.map (PV.int .u64)), .int .u64 a1.Device]) ?_
      refine .litR (f := pv73) ([(⟨a1.Role, y10, a1.Device⟩ : Choose)] : List Choose) ?_
      obtain ⟨x11, hx11, h⟩ := bindE h
      refine .appL (f := pv73) hx11 ?_
      refine .val ?_
      refine .wrL (cs := [.sl 73 (.own (.row 7 4)) (x11.map pv73)]) ?_
      refine .nil ?_
      obtain ⟨j15, hj15, h⟩ := joinE h
      refine .cutI (fun T => (∃ (v14 : (List Choose)), T = St.of [(4, .ptr (.loc 0 2) 0), (6, .ptr (.loc 5 3) 0)] [((.loc 0 2), [.sl 73 .full []]), ((.loc 5 3), [.sl 73 .ro (v14.map pv73)])] ∧ j15 v14 = some r)) ?_ ?_
      · refine .seq ?_
        refine .region ?_
        refine .val ?_
        refine .val ?_
        refine .lenL (f := pv73) ?_
        refine .val ?_
        refine .nil ?_
        refine .cond (fun hc16 => ?_) (fun hc16 => ?_)
        · replace h := (if_pos hc16).symm.trans h
          refine .region ?_
          refine .val ?_
          refine .val ?_
          obtain ⟨x17, hx17, h⟩ := bindE h
          refine .freeze (.row 7 4) ?_
          refine .partE (f := pv73) hx17 ?_
          refine .val ?_
          refine .wrL (cs := [.sl 73 .ro (x17.map pv73)]) ?_
          refine .nil ?_
          exact ⟨_, ⟨_, rfl, h⟩, (imp_of (.cons rfl (.cons rfl (.nil))) (.cons rfl (.cons rfl (.nil))))⟩
        · replace h := (if_neg (nt hc16)).symm.trans h
          refine .skip ?_
          exact ⟨_, ⟨_, rfl, h⟩, (Imp.trans (Imp.frz (.row 7 4) rfl) (imp_of (.cons rfl (.cons rfl (.nil))) (.cons rfl (.cons rfl (.nil)))))⟩
      · rintro T ⟨v14, rfl, h⟩
        subst hj15
        refine .seq ?_
        refine .region ?_
        refine .val (v := .agg [.sl 73 .ro (v14.map pv73)]) ?_
        refine .wrL (cs := [.sl 73 .ro (v14.map pv73)]) ?_
        refine .assign ?_
        refine .nil ?_
        cases h
        exact .ret (fin_gen0 none)

/- soundservice/choices.Lookup$1 -/
def f91 (n : Nat) (a0 : Int) (c0 : (List Int)) : Option Bool :=
  (f92 n c0 a0).bind fun y1 =>
  some (!y1)
set_option maxHeartbeats 4000000 in
set_option maxRecDepth 100000 in
theorem g91 {n : Nat} {a0 : Int} {c0 : (List Int)} {r : Bool} (h : f91 n a0 c0 = some r) :
    Ab.Can Try.prog 91 [.int .u64 a0, .ptr (.par 0) 0] (lookH [(.par 0, [.sl 71 .ro (c0.map (PV.int .u64))])]) (.bool r) (lookH [(.par 0, [.sl 71 .ro (c0.map (PV.int .u64))])]) := by
  refine can_of tabOK mix Try.call91 Try.func91 rfl (by kernel_rfl) (by show _ ≤ 8; simp) fun _ => ?_
  rw [f91] at h
  refine .seq ?_
  refine .region ?_
  refine .assign ?_
  refine .nil ?_
  refine .seq ?_
  refine .region ?_
  refine .val ?_
  refine .move ?_
  obtain ⟨y1, hy1, h⟩ := bindE h
  refine .cP (g92 hy1) ?_
  refine .val ?_
  refine .assign ?_
  refine .nil ?_
  cases h
  exact .ret (fin_gen none (.par .nil))

/- slices.IndexFunc[[]uint64,uint64] -/
def f116_l1 (n : Nat) (a0 : (List Int)) (p1 : Int → Option Bool) (j15 : Unit → Option Int) : Nat → Int → Option Int
  | 0, _ => none
  | m26 + 1, v20 =>
    if decide (v20 < (a0.length : Int)) then (
    (lAt a0 v20).bind fun x32 =>
    (p1 x32).bind fun y33 =>
    if y33 then (
    some v20)
    else (
    f116_l1 n a0 p1 j15 m26 (w64 (v20 + (1 : Int)))))
    else (
    j15 ())
def f116 (n : Nat) (a0 : (List Int)) (p1 : Int → Option Bool) : Option Int :=
  joinK (fun (_ : Unit) =>
  some (-1)) fun j15 =>
  f116_l1 n a0 p1 j15 n 0
set_option maxHeartbeats 4000000 in
set_option maxRecDepth 100000 in
theorem g116 {n : Nat} {a0 : (List Int)} {p1 : Int → Option Bool} {c1 : Nat} {q1 : List PV} {hp : List (Ab.Id × List PV)} (hp1 : ∀ (x0 : Int) (b : Bool), p1 x0 = some b → Ab.Can Try.prog c1 ([.int .u64 x0] ++ q1) (lookH hp) (.bool b) (lookH hp)) (hq : CapOK q1 hp = true) (ho1 : PV.roDs q1 = q1) {r : Int} (h : f116 n a0 p1 = some r) :
    Ab.Can Try.prog 116 [.sl 71 .ro (a0.map (PV.int .u64)), .fn c1 q1] (lookH hp) (.int .i64 r) (lookH hp) := by
  refine can_of tabOK mix Try.call116 Try.func116 rfl (by kernel_rfl) (by show _ ≤ 19; simp) fun _ => ?_
  rw [f116] at h
  refine .seq ?_
  refine .region ?_
  refine .assign ?_
  refine .nil ?_
  obtain ⟨j15, hj15, h⟩ := joinE h
  refine .cutI (fun T => (T = St.of [] hp ∧ j15 () = some r)) ?_ ?_
  · refine .seq ?_
    refine .region ?_
    refine .move ?_
    refine .lenL (f := (PV.int .u64)) ?_
    refine .move ?_
    refine .nil ?_
    refine .block ?_
    refine .loopI (fun m T => ∃ (v20 : Int), T = St.of [(0, .sl 71 .ro (a0.map (PV.int .u64))), (1, .fn c1 q1), (7, .int .i64 (a0.length : Int)), (8, .int .i64 v20)] hp ∧ f116_l1 n a0 p1 j15 m v20 = some r) _ _ ⟨_, rfl, h⟩ (imp_opq (.cons rfl (.cons rfl (.cons rfl (.cons rfl (.nil))))) rfl) ?_
    rintro m26 T ⟨v20, rfl, h⟩
    obtain _ | m26 := m26
    · rw [f116_l1] at h; cases h
    rw [f116_l1] at h
    refine .seq ?_
    refine .region ?_
    refine .val ?_
    refine .nil ?_
    refine .seq ?_
    refine .cond (fun hc28 => ?_) (fun hc28 => ?_)
    · replace h := (if_pos hc28).symm.trans h
      refine .skip ?_
      refine .seq ?_
      refine .block ?_
      refine .seq ?_
      refine .region ?_
      refine .move ?_
      refine .assign ?_
      refine .nil ?_
      refine .seq ?_
      refine .region ?_
      refine .move ?_
      refine .move ?_
      refine .move ?_
      obtain ⟨x32, hx32, h⟩ := bindE h
      refine .idxL (f := (PV.int .u64)) hx32 ?_
      refine .ldL hx32 (y := .int .u64 x32) ?_
      obtain ⟨y33, hy33, h⟩ := bindE h
      refine .cF (hp1 _ _ hy33) hq ho1 ?_
      refine .nil ?_
      refine .cond (fun hc34 => ?_) (fun hc34 => ?_)
      · replace h := (if_pos hc34).symm.trans h
        refine .seq ?_
        refine .region ?_
        refine .move ?_
        refine .assign ?_
        refine .nil ?_
        cases h
        exact .ret (fin_opq hq rfl)
      · replace h := (if_neg (nt hc34)).symm.trans h
        refine .skip ?_
        refine .region ?_
        refine .val ?_
        refine .move ?_
        refine .nil ?_
        exact ⟨m26, _, Nat.lt_succ_self m26, ⟨_, rfl, h⟩, (imp_opq (.cons rfl (.cons rfl (.cons rfl (.cons rfl (.nil))))) rfl)⟩
    · replace h := (if_neg (nt hc28)).symm.trans h
      refine .exit (.hit ?_)
      exact ⟨_, ⟨rfl, h⟩, (imp_opq (.nil) rfl)⟩
  · rintro T ⟨rfl, h⟩
    subst hj15
    refine .seq ?_
    refine .region ?_
    refine .assign ?_
    refine .nil ?_
    cases h
    exact .ret (fin_opq hq rfl)

/- slices.ContainsFunc[[]uint64,uint64] -/
def f93 (n : Nat) (a0 : (List Int)) (p1 : Int → Option Bool) : Option Bool :=
  (f116 n a0 p1).bind fun y1 =>
  some (decide (y1 ≥ (0 : Int)))
set_option maxHeartbeats 4000000 in
set_option maxRecDepth 100000 in
theorem g93 {n : Nat} {a0 : (List Int)} {p1 : Int → Option Bool} {c1 : Nat} {q1 : List PV} {hp : List (Ab.Id × List PV)} (hp1 : ∀ (x0 : Int) (b : Bool), p1 x0 = some b → Ab.Can Try.prog c1 ([.int .u64 x0] ++ q1) (lookH hp) (.bool b) (lookH hp)) (hq : CapOK q1 hp = true) (ho1 : PV.roDs q1 = q1) {r : Bool} (h : f93 n a0 p1 = some r) :
    Ab.Can Try.prog 93 [.sl 71 .ro (a0.map (PV.int .u64)), .fn c1 q1] (lookH hp) (.bool r) (lookH hp) := by
  refine can_of tabOK mix Try.call93 Try.func93 rfl (by kernel_rfl) (by show _ ≤ 9; simp) fun _ => ?_
  rw [f93] at h
  refine .seq ?_
  refine .region ?_
  refine .assign ?_
  refine .nil ?_
  refine .seq ?_
  refine .region ?_
  refine .move ?_
  refine .move ?_
  obtain ⟨y1, hy1, h⟩ := bindE h
  refine .cQ (g116 hp1 hq ho1 hy1) hq (fun i hi => by simpa [PV.idss, PV.ids] using hi) ?_
  refine .val ?_
  refine .assign ?_
  refine .nil ?_
  cases h
  exact .ret (fin_opq hq rfl)

/- soundservice/choices.Lookup -/
def f50_l1 (n : Nat) (a0 : Memory) (a1 : ByteArray) (a2 : (List Int)) (j61 : Int → Option Int) : Nat → Int → Int → Int → Option Int
  | 0, _, _, _ => none
  | m92 + 1, v74, v75, v76 =>
    if decide (v76 < (a0.Choices.length : Int)) then (
    joinK (fun (v103 : Int) (v104 : Int) =>
    f50_l1 n a0 a1 a2 j61 m92 v103 v104 (w64 (v76 + (1 : Int)))) fun j105 =>
    (lAt a0.Choices v76).bind fun x106 =>
    joinK (fun (v110 : Bool) =>
    if v110 then (
    j105 x106.Device (x106.Set.length : Int))
    else (
    j105 v74 v75)) fun j111 =>
    joinK (fun (_ : Unit) =>
    j105 v74 v75) fun j112 =>
    if sEq x106.Role a1 then (
    if decide ((x106.Set.length : Int) ≥ v75) then (
    (f93 n x106.Set (fun z0 => f91 n z0 a2)).bind fun y115 =>
    j111 (!y115))
    else (
    j112 ()))
    else (
    j112 ()))
    else (
    j61 v74)
def f50 (n : Nat) (a0 : Memory) (a1 : ByteArray) (a2 : (List Int)) : Option Int :=
  joinK (fun (_ : Unit) =>
  some 0) fun j11 =>
  joinK (fun (v12 : Bool) =>
  if v12 then (
  some 0)
  else (
  joinK (fun (v60 : Int) =>
  some v60) fun j61 =>
  f50_l1 n a0 a1 a2 j61 n 0 0 0)) fun j13 =>
  (f45 n (⟨a0.Choices⟩ : Memory)).bind fun y14 =>
  if !y14 then (
  j11 ())
  else (
  (f90 n a2).bind fun y16 =>
  j13 (!y16))
set_option maxHeartbeats 4000000 in
set_option maxRecDepth 100000 in
theorem g50 {n : Nat} {a0 : Memory} {a1 : ByteArray} {a2 : (List Int)} {r : Int} (h : f50 n a0 a1 a2 = some r) :
    Ab.Can Try.prog 50 [.agg [.sl 73 .ro (a0.Choices.map pv73)], .str a1, .sl 71 .ro (a2.map (PV.int .u64))] H0 (.int .u64 r) H0 := by
  refine can_of tabOK mix Try.call50 Try.func50 rfl (by kernel_rfl) (by show _ ≤ 53; simp) fun _ => ?_
  rw [f50] at h
  refine .seq ?_
  refine .region ?_
  refine .boxL (cs := [.sl 73 .ro (a0.Choices.map pv73)]) ?_
  refine .boxL (cs := [.sl 71 .ro (a2.map (PV.int .u64))]) ?_
  refine .assign ?_
  refine .nil ?_
  refine .seq ?_
  obtain ⟨j11, hj11, h⟩ := joinE h
  obtain ⟨j13, hj13, h⟩ := joinE h
  refine .cutI (fun T => (T = St.of [(1, .str a1), (3, .ptr (.loc 0 0) 0), (5, .ptr (.loc 0 1) 0), (19, .bool true)] [((.loc 0 0), [.sl 73 .ro (a0.Choices.map pv73)]), ((.loc 0 1), [.sl 71 .ro (a2.map (PV.int .u64))])] ∧ j11 () = some r) ∨ (∃ (v12 : Bool), T = St.of [(1, .str a1), (3, .ptr (.loc 0 0) 0), (5, .ptr (.loc 0 1) 0), (19, .bool v12)] [((.loc 0 0), [.sl 73 .ro (a0.Choices.map pv73)]), ((.loc 0 1), [.sl 71 .ro (a2.map (PV.int .u64))])] ∧ j13 v12 = some r)) ?_ ?_
  · refine .region ?_
    refine .val (v := .agg [.sl 73 .ro (a0.Choices.map pv73)]) ?_
    obtain ⟨y14, hy14, h⟩ := bindE h
    refine .cP (g45 hy14) ?_
    refine .val ?_
    refine .move ?_
    refine .caseG (fun hc15 => ?_) (fun hc15 => ?_)
    · replace h := (if_pos hc15).symm.trans h
      refine .skip ?_
      refine .skip ?_
      refine .skip ?_
      refine .brT ?_
      refine .nil ?_
      exact ⟨_, (.inl ⟨rfl, h⟩), (imp_of (.cons rfl (.cons rfl (.cons rfl (.cons rfl (.nil))))) (.cons rfl (.cons rfl (.nil))))⟩
    · replace h := (if_neg (nt hc15)).symm.trans h
      refine .val ?_
      obtain ⟨y16, hy16, h⟩ := bindE h
      refine .cP (g90 hy16) ?_
      refine .val ?_
      refine .brF ?_
      refine .nil ?_
      exact ⟨_, (.inr (⟨_, rfl, h⟩)), (imp_of (.cons rfl (.cons rfl (.cons rfl (.cons rfl (.nil))))) (.cons rfl (.cons rfl (.nil))))⟩
  · rintro T (⟨rfl, h⟩ | ⟨v12, rfl, h⟩)
    · subst hj11
      refine .condT ?_
      refine .seq ?_
      refine .region ?_
      refine .assign ?_
      refine .nil ?_
      cases h
      exact .ret (fin_gen0 none)
    · subst hj13
      refine .cond (fun hc17 => ?_) (fun hc17 => ?_)
      · replace h := (if_pos hc17).symm.trans h
        refine .seq ?_
        refine .region ?_
        refine .assign ?_
        refine .nil ?_
        cases h
        exact .ret (fin_gen0 none)
      · replace h := (if_neg (nt hc17)).symm.trans h
        refine .skip ?_
        refine .seq ?_
        refine .region ?_
        refine .assign ?_
        refine .assign ?_
        refine .nil ?_
        obtain ⟨j61, hj61, h⟩ := joinE h
        refine .cutI (fun T => (∃ (v60 : Int), T = St.of [(7, .int .u64 v60)] [] ∧ j61 v60 = some r)) ?_ ?_
        · refine .seq ?_
          refine .region ?_
          refine .val ?_
          refine .val ?_
          refine .lenL (f := pv73) ?_
          refine .move ?_
          refine .nil ?_
          refine .block ?_
          refine .loopI (fun m T => ∃ (v74 : Int) (v75 : Int) (v76 : Int), T = St.of [(1, .str a1), (5, .ptr (.loc 0 1) 0), (7, .int .u64 v74), (8, .int .i64 v75), (21, .sl 73 .ro (a0.Choices.map pv73)), (22, .int .i64 (a0.Choices.length : Int)), (23, .int .i64 v76)] [((.loc 0 1), [.sl 71 .ro (a2.map (PV.int .u64))])] ∧ f50_l1 n a0 a1 a2 j61 m v74 v75 v76 = some r) _ _ ⟨_, _, _, rfl, h⟩ (imp_of (.cons rfl (.cons rfl (.cons rfl (.cons rfl (.cons rfl (.cons rfl (.cons rfl (.nil)))))))) (.cons rfl (.nil))) ?_
          rintro m92 T ⟨v74, v75, v76, rfl, h⟩
          obtain _ | m92 := m92
          · rw [f50_l1] at h; cases h
          rw [f50_l1] at h
          refine .seq ?_
          refine .region ?_
          refine .val ?_
          refine .nil ?_
          refine .seq ?_
          refine .cond (fun hc94 => ?_) (fun hc94 => ?_)
          · replace h := (if_pos hc94).symm.trans h
            refine .skip ?_
            obtain ⟨j105, hj105, h⟩ := joinE h
            refine .cutI (fun T => (∃ (v103 : Int) (v104 : Int), T = St.of [(1, .str a1), (5, .ptr (.loc 0 1) 0), (7, .int .u64 v103), (8, .int .i64 v104), (21, .sl 73 .ro (a0.Choices.map pv73)), (22, .int .i64 (a0.Choices.length : Int)), (23, .int .i64 v76)] [((.loc 0 1), [.sl 71 .ro (a2.map (PV.int .u64))])] ∧ j105 v103 v104 = some r)) ?_ ?_
            · refine .block ?_
              refine .seq ?_
              refine .region ?_
              obtain ⟨x106, hx106, h⟩ := bindE h
              refine .idxL (f := pv73) hx106 ?_
              refine .ldL hx106 (y := .agg [.str x106.Role, .sl 71 .ro (x106.Set.map (PV.int .u64)), .int .u64 x106.Device]) ?_
              refine .allocL (cs := [.str (⟨#[]⟩ : ByteArray), .sl 71 .full [], .int .u64 0]) ?_
              refine .wrL (cs := [.str x106.Role, .sl 71 .ro (x106.Set.map (PV.int .u64)), .int .u64 x106.Device]) ?_
              refine .nil ?_
              refine .seq ?_
              refine .region ?_
              refine .val (v := .fn 91 [.ptr (.loc 0 1) 0]) ?_
              refine .assign ?_
              refine .nil ?_
              obtain ⟨j111, hj111, h⟩ := joinE h
              obtain ⟨j112, hj112, h⟩ := joinE h
              refine .cutI (fun T => (∃ (v110 : Bool), T = St.of [(1, .str a1), (5, .ptr (.loc 0 1) 0), (7, .int .u64 v74), (8, .int .i64 v75), (10, .ptr (.loc 6 2) 0), (21, .sl 73 .ro (a0.Choices.map pv73)), (22, .int .i64 (a0.Choices.length : Int)), (23, .int .i64 v76), (45, .bool v110)] [((.loc 0 1), [.sl 71 .ro (a2.map (PV.int .u64))]), ((.loc 6 2), [.str x106.Role, .sl 71 .ro (x106.Set.map (PV.int .u64)), .int .u64 x106.Device])] ∧ j111 v110 = some r) ∨ (T = St.of [(1, .str a1), (5, .ptr (.loc 0 1) 0), (7, .int .u64 v74), (8, .int .i64 v75), (10, .ptr (.loc 6 2) 0), (21, .sl 73 .ro (a0.Choices.map pv73)), (22, .int .i64 (a0.Choices.length : Int)), (23, .int .i64 v76), (45, .bool false)] [((.loc 0 1), [.sl 71 .ro (a2.map (PV.int .u64))]), ((.loc 6 2), [.str x106.Role, .sl 71 .ro (x106.Set.map (PV.int .u64)), .int .u64 x106.Device])] ∧ j112 () = some r)) ?_ ?_
              · refine .region ?_
                refine .val ?_
                refine .val ?_
                refine .move ?_
                refine .val ?_
                refine .move ?_
                refine .caseG (fun hc113 => ?_) (fun hc113 => ?_)
                · replace h := (if_pos hc113).symm.trans h
                  refine .val ?_
                  refine .val ?_
                  refine .lenL (f := (PV.int .u64)) ?_
                  refine .move ?_
                  refine .val ?_
                  refine .brT ?_
                  refine .move ?_
                  refine .caseG (fun hc114 => ?_) (fun hc114 => ?_)
                  · replace h := (if_pos hc114).symm.trans h
                    refine .val ?_
                    refine .val ?_
                    refine .move ?_
                    obtain ⟨y115, hy115, h⟩ := bindE h
                    refine .cH (.loc 0 1) (g93 (q1 := [.ptr (.par 0) 0]) (hp := [(.par 0, [.sl 71 .ro (a2.map (PV.int .u64))])]) (fun _ _ hz => g91 hz) rfl rfl hy115) ?_
                    refine .val ?_
                    refine .brT ?_
                    refine .nil ?_
                    exact ⟨_, (.inl ⟨_, rfl, h⟩), (imp_of (.cons rfl (.cons rfl (.cons rfl (.cons rfl (.cons rfl (.cons rfl (.cons rfl (.cons rfl (.cons rfl (.nil)))))))))) (.cons rfl (.cons rfl (.nil))))⟩
                  · replace h := (if_neg (nt hc114)).symm.trans h
                    refine .skip ?_
                    refine .skip ?_
                    refine .skip ?_
                    refine .skip ?_
                    refine .skip ?_
                    refine .brF ?_
                    refine .nil ?_
                    exact ⟨_, (.inr (⟨rfl, h⟩)), (imp_of (.cons rfl (.cons rfl (.cons rfl (.cons rfl (.cons rfl (.cons rfl (.cons rfl (.cons rfl (.cons rfl (.nil)))))))))) (.cons rfl (.cons rfl (.nil))))⟩
                · replace h := (if_neg (nt hc113)).symm.trans h
                  refine .skip ?_
                  refine .skip ?_
                  refine .skip ?_
                  refine .skip ?_
                  refine .skip ?_
                  refine .brF ?_
                  refine .move ?_
                  refine .skip ?_
                  refine .skip ?_
                  refine .skip ?_
                  refine .skip ?_
                  refine .skip ?_
                  refine .brF ?_
                  refine .nil ?_
                  exact ⟨_, (.inr (⟨rfl, h⟩)), (imp_of (.cons rfl (.cons rfl (.cons rfl (.cons rfl (.cons rfl (.cons rfl (.cons rfl (.cons rfl (.cons rfl (.nil)))))))))) (.cons rfl (.cons rfl (.nil))))⟩
              · rintro T (⟨v110, rfl, h⟩ | ⟨rfl, h⟩)
                · subst hj111
                  refine .cond (fun hc116 => ?_) (fun hc116 => ?_)
                  · replace h := (if_pos hc116).symm.trans h
                    refine .draw [] [[], [], [], [], [], [], []] [[], [], [], [], [], [], []] [[]]
                      [(0, 0), (1, 0), (2, 0), (3, 0), (4, 0), (5, 0), (6, 0)] [] 0
                      [⟨[(46, .ptr (.loc 6 2) 2), (47, .int .u64 x106.Device), (48, .ptr (.loc 6 2) 1), (49, .sl 71 .ro (x106.Set.map (PV.int .u64))), (50, .int .i64 (x106.Set.length : Int)), (7, .int .u64 x106.Device), (8, .int .i64 (x106.Set.length : Int)), (1, .str a1), (5, .ptr (.loc 0 1) 0), (10, .ptr (.loc 6 2) 0), (21, .sl 73 .ro (a0.Choices.map pv73)), (22, .int .i64 (a0.Choices.length : Int)), (23, .int .i64 v76)], [], [((.loc 0 1), [.sl 71 .ro (a2.map (PV.int .u64))]), ((.loc 6 2), [.str x106.Role, .sl 71 .ro (x106.Set.map (PV.int .u64)), .int .u64 x106.Device])]⟩]
                      [(1, .str a1), (5, .ptr (.loc 0 1) 0), (10, .ptr (.loc 6 2) 0), (21, .sl 73 .ro (a0.Choices.map pv73)), (22, .int .i64 (a0.Choices.length : Int)), (23, .int .i64 v76)]
                      (.cons [10] [] (fun _ _ h => .val (h _)) rfl rfl <|
                      .cons [46] [] (fun _ _ h => .val (h _)) rfl rfl <|
                      .cons [10] [] (fun _ _ h => .val (h _)) rfl rfl <|
                      .cons [48] [] (fun _ _ h => .val (h _)) rfl rfl <|
                      .cons [49] [] (fun _ _ h => .lenL (f := (PV.int .u64)) (h _)) rfl rfl <|
                      .cons [47] [] (fun _ _ h => .assign (h _)) rfl rfl <|
                      .cons [50] [] (fun _ _ h => .assign (h _)) rfl rfl <|
                      .nil)
                      (.nil)
                      (by kernel_rfl) rfl (.cons rfl (.cons rfl (.cons rfl (.cons rfl (.cons rfl (.cons rfl (.nil))))))) (.nil) (.cons rfl (.cons rfl (.nil))) ?_
                    exact ⟨_, ⟨_, _, rfl, h⟩, (imp_of (.cons rfl (.cons rfl (.cons rfl (.cons rfl (.cons rfl (.cons rfl (.cons rfl (.nil)))))))) (.cons rfl (.nil)))⟩
                  · replace h := (if_neg (nt hc116)).symm.trans h
                    refine .skip ?_
                    exact ⟨_, ⟨_, _, rfl, h⟩, (imp_of (.cons rfl (.cons rfl (.cons rfl (.cons rfl (.cons rfl (.cons rfl (.cons rfl (.nil)))))))) (.cons rfl (.nil)))⟩
                · subst hj112
                  refine .condF ?_
                  refine .skip ?_
                  exact ⟨_, ⟨_, _, rfl, h⟩, (imp_of (.cons rfl (.cons rfl (.cons rfl (.cons rfl (.cons rfl (.cons rfl (.cons rfl (.nil)))))))) (.cons rfl (.nil)))⟩
            · rintro T ⟨v103, v104, rfl, h⟩
              subst hj105
              refine .region ?_
              refine .val ?_
              refine .move ?_
              refine .nil ?_
              exact ⟨m92, _, Nat.lt_succ_self m92, ⟨_, _, _, rfl, h⟩, (imp_of (.cons rfl (.cons rfl (.cons rfl (.cons rfl (.cons rfl (.cons rfl (.cons rfl (.nil)))))))) (.cons rfl (.nil)))⟩
          · replace h := (if_neg (nt hc94)).symm.trans h
            refine .exit (.hit ?_)
            exact ⟨_, ⟨_, rfl, h⟩, (imp_of (.cons rfl (.nil)) (.nil))⟩
        · rintro T ⟨v60, rfl, h⟩
          subst hj61
          refine .seq ?_
          refine .region ?_
          refine .move ?_
          refine .assign ?_
          refine .nil ?_
          cases h
          exact .ret (fin_gen0 none)

/- soundservice/soundservicelaw30.sane -/
def f41 (n : Nat)  : Option Bool :=
  (f47 n (⟨([] : List Choose)⟩ : Memory) (⟨(⟨#[109, 117, 115, 105, 99]⟩ : ByteArray), ([3, 7] : List Int), 7⟩ : Choose)).bind fun y1 =>
  if (y1.2 == (0 : Int)) then (
  if ((y1.1.Choices.length : Int) == (1 : Int)) then (
  (f50 n (⟨y1.1.Choices⟩ : Memory) (⟨#[109, 117, 115, 105, 99]⟩ : ByteArray) ([3, 7, 9] : List Int)).bind fun y9 =>
  if (y9 == (7 : Int)) then (
  (f50 n (⟨y1.1.Choices⟩ : Memory) (⟨#[109, 117, 115, 105, 99]⟩ : ByteArray) ([3] : List Int)).bind fun y11 =>
  some (y11 == (0 : Int)))
  else (
  some false))
  else (
  some false))
  else (
  some false)
set_option maxHeartbeats 4000000 in
set_option maxRecDepth 100000 in
theorem g41 {n : Nat}  {r : Bool} (h : f41 n  = some r) :
    Ab.Can Try.prog 41 [] H0 (.bool r) H0 := by
  refine can_of tabOK mix Try.call41 Try.func41 rfl (by kernel_rfl) (by show _ ≤ 30; simp) fun _ => ?_
  rw [f41] at h
  refine .seq ?_
  refine .region ?_
  refine .assign ?_
  refine .nil ?_
  refine .seq ?_
  refine .region ?_
  refine .buildL (cs := [.sl 73 .full []]) ?_
  refine .litR (f := (PV.int .u64)) ([3, 7] : List Int) ?_
  refine .buildL (cs := [.str (⟨#[109, 117, 115, 105, 99]⟩ : ByteArray), .sl 71 .ro (([3, 7] : List Int).map (PV.int .u64)), .int .u64 7]) ?_
  obtain ⟨y1, hy1, h⟩ := bindE h
  refine .cP (g47 hy1) ?_
  refine .move ?_
  refine .val ?_
  refine .val ?_
  refine .allocL (cs := [.sl 73 .full []]) ?_
  refine .wrL (cs := [.sl 73 .ro (y1.1.Choices.map pv73)]) ?_
  refine .assign ?_
  refine .nil ?_
  refine .seq ?_
  refine .region ?_
  refine .move ?_
  refine .val ?_
  refine .move ?_
  refine .caseG (fun hc7 => ?_) (fun hc7 => ?_)
  · replace h := (if_pos hc7).symm.trans h
    refine .val ?_
    refine .val ?_
    refine .lenL (f := pv73) ?_
    refine .val ?_
    refine .brT ?_
    refine .move ?_
    refine .caseG (fun hc8 => ?_) (fun hc8 => ?_)
    · replace h := (if_pos hc8).symm.trans h
      refine .val (v := .agg [.sl 73 .ro (y1.1.Choices.map pv73)]) ?_
      refine .litR (f := (PV.int .u64)) ([3, 7, 9] : List Int) ?_
      obtain ⟨y9, hy9, h⟩ := bindE h
      refine .cP (g50 hy9) ?_
      refine .val ?_
      refine .brT ?_
      refine .move ?_
      refine .caseG (fun hc10 => ?_) (fun hc10 => ?_)
      · replace h := (if_pos hc10).symm.trans h
        refine .val (v := .agg [.sl 73 .ro (y1.1.Choices.map pv73)]) ?_
        refine .litR (f := (PV.int .u64)) ([3] : List Int) ?_
        obtain ⟨y11, hy11, h⟩ := bindE h
        refine .cP (g50 hy11) ?_
        refine .val ?_
        refine .brT ?_
        refine .assign ?_
        refine .nil ?_
        cases h
        exact .ret (fin_gen0 none)
      · replace h := (if_neg (nt hc10)).symm.trans h
        refine .skip ?_
        refine .skip ?_
        refine .skip ?_
        refine .skip ?_
        refine .brF ?_
        refine .assign ?_
        refine .nil ?_
        cases h
        exact .ret (fin_gen0 none)
    · replace h := (if_neg (nt hc8)).symm.trans h
      refine .skip ?_
      refine .skip ?_
      refine .skip ?_
      refine .skip ?_
      refine .brF ?_
      refine .move ?_
      refine .skip ?_
      refine .skip ?_
      refine .skip ?_
      refine .skip ?_
      refine .brF ?_
      refine .assign ?_
      refine .nil ?_
      cases h
      exact .ret (fin_gen0 none)
  · replace h := (if_neg (nt hc7)).symm.trans h
    refine .skip ?_
    refine .skip ?_
    refine .skip ?_
    refine .skip ?_
    refine .brF ?_
    refine .move ?_
    refine .skip ?_
    refine .skip ?_
    refine .skip ?_
    refine .skip ?_
    refine .brF ?_
    refine .move ?_
    refine .skip ?_
    refine .skip ?_
    refine .skip ?_
    refine .skip ?_
    refine .brF ?_
    refine .assign ?_
    refine .nil ?_
    cases h
    exact .ret (fin_gen0 none)

/- soundservice/soundservicemill.Role -/
def f56 (n : Nat) (a0 : Deck) : Option (ByteArray × Deck) :=
  (f79 n (⟨a0.L, a0.At⟩ : Deck) (4 : Int)).bind fun y1 =>
  (lAt ([(⟨#[109, 117, 115, 105, 99]⟩ : ByteArray), (⟨#[118, 111, 105, 99, 101]⟩ : ByteArray), (⟨#[97, 108, 97, 114, 109]⟩ : ByteArray), (⟨#[103, 97, 109, 101]⟩ : ByteArray)] : List ByteArray) y1.1).bind fun x2 =>
  some (x2, (⟨y1.2.L, y1.2.At⟩ : Deck))
set_option maxHeartbeats 4000000 in
set_option maxRecDepth 100000 in
theorem g56 {n : Nat} {a0 : Deck} {r : (ByteArray × Deck)} (h : f56 n a0 = some r) :
    Ab.Can Try.prog 56 [.ptr (.par 0) 0] (lookH [(.par 0, [.sl 3 .ro (a0.L.map (PV.int .i64)), .int .i64 a0.At])]) (.str r.1) (lookH [(.par 0, [.sl 3 .ro (r.2.L.map (PV.int .i64)), .int .i64 r.2.At])]) := by
  refine can_of tabOK mix Try.call56 Try.func56 rfl (by kernel_rfl) (by show _ ≤ 8; simp) fun _ => ?_
  rw [f56] at h
  refine .seq ?_
  refine .region ?_
  refine .assign ?_
  refine .nil ?_
  refine .seq ?_
  refine .region ?_
  refine .litR (f := PV.str) ([(⟨#[109, 117, 115, 105, 99]⟩ : ByteArray), (⟨#[118, 111, 105, 99, 101]⟩ : ByteArray), (⟨#[97, 108, 97, 114, 109]⟩ : ByteArray), (⟨#[103, 97, 109, 101]⟩ : ByteArray)] : List ByteArray) ?_
  refine .move ?_
  obtain ⟨y1, hy1, h⟩ := bindE h
  refine .cH (.par 0) (g79 hy1) ?_
  obtain ⟨x2, hx2, h⟩ := bindE h
  refine .idxL (f := PV.str) hx2 ?_
  refine .ldL hx2 (y := .str x2) ?_
  refine .assign ?_
  refine .nil ?_
  cases h
  exact .ret (fin_gen none (.par .nil))

/- soundservice/soundservicemill.Set -/
def f57_l1 (n : Nat) (j44 : (List Int) → Int → (List Int) → Option ((List Int) × Deck)) : Nat → (List Int) → Int → (List Int) → Int → Option ((List Int) × Deck)
  | 0, _, _, _, _ => none
  | m75 + 1, v56, v57, v58, v60 =>
    if decide (v60 ≤ (6 : Int)) then (
    joinK (fun (v81 : (List Int)) (v82 : Int) (v83 : (List Int)) =>
    f57_l1 n j44 m75 v81 v82 v83 (w64 (v60 + (1 : Int)))) fun j85 =>
    (f79 n (⟨v56, v57⟩ : Deck) (2 : Int)).bind fun y86 =>
    if (y86.1 == (0 : Int)) then (
    (lApp v58 ([IntKind.wrap .u64 (v60)] : List Int)).bind fun x88 =>
    j85 y86.2.L y86.2.At x88)
    else (
    j85 y86.2.L y86.2.At v58))
    else (
    j44 v56 v57 v58)
def f57 (n : Nat) (a0 : Deck) : Option ((List Int) × Deck) :=
  joinK (fun (v40 : (List Int)) (v41 : Int) (v42 : (List Int)) =>
  if ((v42.length : Int) == (0 : Int)) then (
  some (([7] : List Int), (⟨v40, v41⟩ : Deck)))
  else (
  some (v42, (⟨v40, v41⟩ : Deck)))) fun j44 =>
  f57_l1 n j44 n a0.L a0.At ([] : List Int) 1
set_option maxHeartbeats 4000000 in
set_option maxRecDepth 100000 in
theorem g57 {n : Nat} {a0 : Deck} {r : ((List Int) × Deck)} (h : f57 n a0 = some r) :
    Ab.Can Try.prog 57 [.ptr (.par 0) 0] (lookH [(.par 0, [.sl 3 .ro (a0.L.map (PV.int .i64)), .int .i64 a0.At])]) (.sl 71 (.own (.rrow 0)) (r.1.map (PV.int .u64))) (lookH [(.par 0, [.sl 3 .ro (r.2.L.map (PV.int .i64)), .int .i64 r.2.At])]) := by
  refine can_of tabOK mix Try.call57 Try.func57 rfl (by kernel_rfl) (by show _ ≤ 22; simp) fun _ => ?_
  rw [f57] at h
  refine .seq ?_
  refine .region ?_
  refine .assign ?_
  refine .nil ?_
  refine .seq ?_
  refine .region ?_
  refine .assign ?_
  refine .nil ?_
  obtain ⟨j44, hj44, h⟩ := joinE h
  refine .cutI (fun T => (∃ (v40 : (List Int)) (v41 : Int) (v42 : (List Int)), T = St.of [(3, .sl 71 (.own (.row 9043 0)) (v42.map (PV.int .u64)))] [((.par 0), [.sl 3 .ro (v40.map (PV.int .i64)), .int .i64 v41])] ∧ j44 v40 v41 v42 = some r)) ?_ ?_
  · refine .seq ?_
    refine .region ?_
    refine .assign ?_
    refine .nil ?_
    refine .block ?_
    refine .loopI (fun m T => ∃ (v56 : (List Int)) (v57 : Int) (v58 : (List Int)) (v60 : Int), T = St.of [(0, .ptr (.par 0) 0), (3, .sl 71 (.own (.row 9059 0)) (v58.map (PV.int .u64))), (4, .int .i64 v60)] [((.par 0), [.sl 3 .ro (v56.map (PV.int .i64)), .int .i64 v57])] ∧ f57_l1 n j44 m v56 v57 v58 v60 = some r) _ _ ⟨_, _, _, _, rfl, h⟩ (imp_of (.cons rfl (.wk (.own _ _) rfl (.cons rfl (.nil)))) (.cons rfl (.nil))) ?_
    rintro m75 T ⟨v56, v57, v58, v60, rfl, h⟩
    obtain _ | m75 := m75
    · rw [f57_l1] at h; cases h
    rw [f57_l1] at h
    refine .seq ?_
    refine .seq ?_
    refine .region ?_
    refine .move ?_
    refine .val ?_
    refine .nil ?_
    refine .cond (fun hc77 => ?_) (fun hc77 => ?_)
    · replace h := (if_pos hc77).symm.trans h
      refine .skip ?_
      obtain ⟨j85, hj85, h⟩ := joinE h
      refine .cutI (fun T => (∃ (v81 : (List Int)) (v82 : Int) (v83 : (List Int)), T = St.of [(0, .ptr (.par 0) 0), (3, .sl 71 (.own (.row 9084 0)) (v83.map (PV.int .u64))), (4, .int .i64 v60)] [((.par 0), [.sl 3 .ro (v81.map (PV.int .i64)), .int .i64 v82])] ∧ j85 v81 v82 v83 = some r)) ?_ ?_
      · refine .block ?_
        refine .seq ?_
        refine .region ?_
        refine .move ?_
        obtain ⟨y86, hy86, h⟩ := bindE h
        refine .cH (.par 0) (g79 hy86) ?_
        refine .val ?_
        refine .nil ?_
        refine .cond (fun hc87 => ?_) (fun hc87 => ?_)
        · replace h := (if_pos hc87).symm.trans h
          refine .region ?_
          refine .move ?_
          refine .move ?_
          refine .val ?_
          refine .litR (f := (PV.int .u64)) ([IntKind.wrap .u64 (v60)] : List Int) ?_
          obtain ⟨x88, hx88, h⟩ := bindE h
          refine .appL (f := (PV.int .u64)) hx88 ?_
          refine .assign ?_
          refine .nil ?_
          exact ⟨_, ⟨_, _, _, rfl, h⟩, (Imp.trans (Imp.swap (.row 6 4) (.row 9084 0) rfl rfl rfl) (imp_of (.cons rfl (.cons rfl (.cons rfl (.nil)))) (.cons rfl (.nil))))⟩
        · replace h := (if_neg (nt hc87)).symm.trans h
          refine .skip ?_
          exact ⟨_, ⟨_, _, _, rfl, h⟩, (Imp.trans (Imp.swap (.row 9059 0) (.row 9084 0) rfl rfl rfl) (imp_of (.cons rfl (.cons rfl (.cons rfl (.nil)))) (.cons rfl (.nil))))⟩
      · rintro T ⟨v81, v82, v83, rfl, h⟩
        subst hj85
        refine .region ?_
        refine .move ?_
        refine .val ?_
        refine .assign ?_
        refine .nil ?_
        exact ⟨m75, _, Nat.lt_succ_self m75, ⟨_, _, _, _, rfl, h⟩, (Imp.trans (Imp.swap (.row 9084 0) (.row 9059 0) rfl rfl rfl) (imp_of (.cons rfl (.cons rfl (.cons rfl (.nil)))) (.cons rfl (.nil))))⟩
    · replace h := (if_neg (nt hc77)).symm.trans h
      refine .exit (.hit ?_)
      exact ⟨_, ⟨_, _, _, rfl, h⟩, (Imp.trans (Imp.swap (.row 9059 0) (.row 9043 0) rfl rfl rfl) (imp_of (.cons rfl (.nil)) (.cons rfl (.nil))))⟩
  · rintro T ⟨v40, v41, v42, rfl, h⟩
    subst hj44
    refine .seq ?_
    refine .seq ?_
    refine .region ?_
    refine .move ?_
    refine .lenL (f := (PV.int .u64)) ?_
    refine .val ?_
    refine .nil ?_
    refine .cond (fun hc90 => ?_) (fun hc90 => ?_)
    · replace h := (if_pos hc90).symm.trans h
      refine .seq ?_
      refine .region ?_
      refine .litL (f := (PV.int .u64)) ([7] : List Int) ?_
      refine .assign ?_
      refine .nil ?_
      cases h
      exact .ret (fin_gen (some (.row 8 0)) (.par .nil))
    · replace h := (if_neg (nt hc90)).symm.trans h
      refine .skip ?_
      refine .seq ?_
      refine .region ?_
      refine .move ?_
      refine .assign ?_
      refine .nil ?_
      cases h
      exact .ret (fin_gen (some (.row 9043 0)) (.par .nil))
theorem g57r {n : Nat} {a0 : Deck} {r : ((List Int) × Deck)} (h : f57 n a0 = some r) :
    Ab.Can Try.prog 57 [.ptr (.par 0) 0] (lookH [(.par 0, [.sl 3 .ro (a0.L.map (PV.int .i64)), .int .i64 a0.At])]) (.sl 71 .ro (r.1.map (PV.int .u64))) (lookH [(.par 0, [.sl 3 .ro (r.2.L.map (PV.int .i64)), .int .i64 r.2.At])]) := Can.frzR (hq := [(.par 0, [.sl 3 .ro (r.2.L.map (PV.int .i64)), .int .i64 r.2.At])]) (g57 h)

/- soundservice/soundservicemill.Choice -/
def f44 (n : Nat) (a0 : Deck) : Option (Choose × Deck) :=
  (f56 n (⟨a0.L, a0.At⟩ : Deck)).bind fun y1 =>
  (f57 n (⟨y1.2.L, y1.2.At⟩ : Deck)).bind fun y2 =>
  (f79 n (⟨y2.2.L, y2.2.At⟩ : Deck) (y2.1.length : Int)).bind fun y3 =>
  (lAt y2.1 y3.1).bind fun x4 =>
  some ((⟨y1.1, y2.1, x4⟩ : Choose), (⟨y3.2.L, y3.2.At⟩ : Deck))
set_option maxHeartbeats 4000000 in
set_option maxRecDepth 100000 in
theorem g44 {n : Nat} {a0 : Deck} {r : (Choose × Deck)} (h : f44 n a0 = some r) :
    Ab.Can Try.prog 44 [.ptr (.par 0) 0] (lookH [(.par 0, [.sl 3 .ro (a0.L.map (PV.int .i64)), .int .i64 a0.At])]) (.agg [.str r.1.Role, .sl 71 .ro (r.1.Set.map (PV.int .u64)), .int .u64 r.1.Device]) (lookH [(.par 0, [.sl 3 .ro (r.2.L.map (PV.int .i64)), .int .i64 r.2.At])]) := by
  refine can_of tabOK mix Try.call44 Try.func44 rfl (by kernel_rfl) (by show _ ≤ 20; simp) fun _ => ?_
  rw [f44] at h
  refine .seq ?_
  refine .region ?_
  refine .allocL (cs := [.str (⟨#[]⟩ : ByteArray), .sl 71 .full [], .int .u64 0]) ?_
  refine .nil ?_
  refine .seq ?_
  refine .region ?_
  refine .move ?_
  obtain ⟨y1, hy1, h⟩ := bindE h
  refine .cH (.par 0) (g56 hy1) ?_
  refine .move ?_
  obtain ⟨y2, hy2, h⟩ := bindE h
  refine .cH (.par 0) (g57r hy2) ?_
  refine .buildL (cs := [.str y1.1, .sl 71 .ro (y2.1.map (PV.int .u64)), .int .u64 0]) ?_
  refine .allocL (cs := [.str (⟨#[]⟩ : ByteArray), .sl 71 .full [], .int .u64 0]) ?_
  refine .wrL (cs := [.str y1.1, .sl 71 .ro (y2.1.map (PV.int .u64)), .int .u64 0]) ?_
  refine .nil ?_
  refine .seq ?_
  obtain ⟨y3, hy3, h⟩ := bindE h
  obtain ⟨x4, hx4, h⟩ := bindE h
  refine .draw [6, 10] [[], [], [], [], [], [], [], [6], [6], [6], [6]] [[10], [10], [6, 10], [6, 10], [6, 10], [6, 10], [10], [10], [10], [10], []] [[], [6], [6, 10]]
    [(0, 0), (0, 1), (1, 0), (1, 1), (2, 0), (3, 0), (4, 0), (5, 0), (7, 1), (8, 1), (9, 1)] [(0, 6, 1), (1, 10, 2)] 2
    [⟨[(9, .ptr (.loc 1 5) 1), (10, .sl 71 .ro (y2.1.map (PV.int .u64))), (11, .ptr (.par 0) 0), (12, .ptr (.loc 1 5) 1), (13, .sl 71 .ro (y2.1.map (PV.int .u64))), (14, .int .i64 (y2.1.length : Int)), (0, .ptr (.par 0) 0), (2, .ptr (.loc 0 0) 0), (3, .ptr (.loc 1 5) 0)], [], [((.loc 0 0), [.str (⟨#[]⟩ : ByteArray), .sl 71 .full [], .int .u64 0]), ((.loc 1 5), [.str y1.1, .sl 71 .ro (y2.1.map (PV.int .u64)), .int .u64 0]), ((.par 0), [.sl 3 .ro (y2.2.L.map (PV.int .i64)), .int .i64 y2.2.At])]⟩,
    ⟨[(9, .ptr (.loc 1 5) 1), (10, .sl 71 .ro (y2.1.map (PV.int .u64))), (11, .ptr (.par 0) 0), (12, .ptr (.loc 1 5) 1), (13, .sl 71 .ro (y2.1.map (PV.int .u64))), (14, .int .i64 (y2.1.length : Int)), (15, .int .i64 y3.1), (16, .ep 71 .ro (y2.1.map (PV.int .u64)) (y3.1 : Int).toNat 0), (17, .int .u64 x4), (18, .ptr (.loc 1 5) 2), (0, .ptr (.par 0) 0), (2, .ptr (.loc 0 0) 0), (3, .ptr (.loc 1 5) 0)], [], [((.loc 0 0), [.str (⟨#[]⟩ : ByteArray), .sl 71 .full [], .int .u64 0]), ((.loc 1 5), [.str y1.1, .sl 71 .ro (y2.1.map (PV.int .u64)), .int .u64 0]), ((.par 0), [.sl 3 .ro (y3.2.L.map (PV.int .i64)), .int .i64 y3.2.At])]⟩,
    ⟨[(9, .ptr (.loc 1 5) 1), (10, .sl 71 .ro (y2.1.map (PV.int .u64))), (11, .ptr (.par 0) 0), (12, .ptr (.loc 1 5) 1), (13, .sl 71 .ro (y2.1.map (PV.int .u64))), (14, .int .i64 (y2.1.length : Int)), (15, .int .i64 y3.1), (16, .ep 71 .ro (y2.1.map (PV.int .u64)) (y3.1 : Int).toNat 0), (17, .int .u64 x4), (18, .ptr (.loc 1 5) 2), (0, .ptr (.par 0) 0), (2, .ptr (.loc 0 0) 0), (3, .ptr (.loc 1 5) 0)], [], [((.loc 0 0), [.str (⟨#[]⟩ : ByteArray), .sl 71 .full [], .int .u64 0]), ((.loc 1 5), [.str y1.1, .sl 71 .ro (y2.1.map (PV.int .u64)), .int .u64 x4]), ((.par 0), [.sl 3 .ro (y3.2.L.map (PV.int .i64)), .int .i64 y3.2.At])]⟩]
    [(0, .ptr (.par 0) 0), (2, .ptr (.loc 0 0) 0), (3, .ptr (.loc 1 5) 0)]
    (.cons [3] [] (fun _ _ h => .val (h _)) rfl rfl <|
    .cons [3] [] (fun _ _ h => .val (h _)) rfl rfl <|
    .cons [9] [] (fun _ _ h => .val (h _)) rfl rfl <|
    .cons [9] [] (fun _ _ h => .val (h _)) rfl rfl <|
    .cons [0] [] (fun _ _ h => .move (h _)) rfl rfl <|
    .cons [3] [] (fun _ _ h => .val (h _)) rfl rfl <|
    .cons [12] [] (fun _ _ h => .val (h _)) rfl rfl <|
    .cons [13] [] (fun _ _ h => .lenL (f := (PV.int .u64)) (h _)) rfl rfl <|
    .cons [10, 15] [] (fun _ _ h => .idxL (f := (PV.int .u64)) hx4 (h _)) rfl rfl <|
    .cons [16] [] (fun _ _ h => .ldL hx4 (h _)) rfl rfl <|
    .cons [3] [] (fun _ _ h => .val (h _)) rfl rfl <|
    .nil)
    (.cons (fun x => x) [11, 14] [] (fun _ _ h => .cH (.par 0) (g79 hy3) (h _ _ (.cons rfl (.cons rfl (.cons rfl (.nil)))))) rfl (.old rfl (.old rfl (.old rfl (.old rfl (.old rfl (.old rfl (.new rfl (.new rfl (.new rfl (.new rfl (.old rfl (.old rfl (.old rfl (.nil)))))))))))))) rfl rfl <|
    .cons (fun x => x) [18, 17] [] (fun _ _ h => .wrL (cs := [.str y1.1, .sl 71 .ro (y2.1.map (PV.int .u64)), .int .u64 x4]) (h _ _ (.cons rfl (.cons rfl (.cons rfl (.nil)))))) rfl (.old rfl (.old rfl (.old rfl (.old rfl (.old rfl (.old rfl (.old rfl (.old rfl (.old rfl (.old rfl (.old rfl (.old rfl (.old rfl (.nil)))))))))))))) rfl rfl <|
    .nil)
    (by kernel_rfl) rfl (.cons rfl (.cons rfl (.cons rfl (.nil)))) (.nil) (.cons rfl (.cons rfl (.cons rfl (.nil)))) ?_
  refine .imp (T := St.of [(2, .ptr (.loc 0 0) 0), (3, .ptr (.loc 1 5) 0)] [((.loc 0 0), [.str (⟨#[]⟩ : ByteArray), .sl 71 .full [], .int .u64 0]), ((.loc 1 5), [.str y1.1, .sl 71 .ro (y2.1.map (PV.int .u64)), .int .u64 x4]), ((.par 0), [.sl 3 .ro (y3.2.L.map (PV.int .i64)), .int .i64 y3.2.At])]) (imp_of (.cons rfl (.cons rfl (.nil))) (.cons rfl (.cons rfl (.cons rfl (.nil))))) ?_
  refine .seq ?_
  refine .region ?_
  refine .val (v := .agg [.str y1.1, .sl 71 .ro (y2.1.map (PV.int .u64)), .int .u64 x4]) ?_
  refine .wrL (cs := [.str y1.1, .sl 71 .ro (y2.1.map (PV.int .u64)), .int .u64 x4]) ?_
  refine .nil ?_
  cases h
  exact .ret (fin_gen none (.par .nil))

/- soundservice/soundserviceref02.letter -/
def f122 (_n : Nat) (a0 : Int) : Option Bool :=
  if decide (a0 ≥ (97 : Int)) then (
  if decide (a0 ≤ (122 : Int)) then (
  some true)
  else (
  if decide (a0 ≥ (65 : Int)) then (
  some (decide (a0 ≤ (90 : Int))))
  else (
  some false)))
  else (
  if decide (a0 ≥ (65 : Int)) then (
  some (decide (a0 ≤ (90 : Int))))
  else (
  some false))
set_option maxHeartbeats 4000000 in
set_option maxRecDepth 100000 in
theorem g122 {n : Nat} {a0 : Int} {r : Bool} (h : f122 n a0 = some r) :
    Ab.Can Try.prog 122 [.int .u8 a0] H0 (.bool r) H0 := by
  refine can_of tabOK mix Try.call122 Try.func122 rfl (by kernel_rfl) (by show _ ≤ 17; simp) fun _ => ?_
  rw [f122] at h
  refine .seq ?_
  refine .region ?_
  refine .assign ?_
  refine .nil ?_
  refine .seq ?_
  refine .region ?_
  refine .move ?_
  refine .val ?_
  refine .move ?_
  refine .caseG (fun hc5 => ?_) (fun hc5 => ?_)
  · replace h := (if_pos hc5).symm.trans h
    refine .move ?_
    refine .val ?_
    refine .brT ?_
    refine .move ?_
    refine .caseG (fun hc6 => ?_) (fun hc6 => ?_)
    · replace h := (if_pos hc6).symm.trans h
      refine .skip ?_
      refine .skip ?_
      refine .skip ?_
      refine .skip ?_
      refine .skip ?_
      refine .skip ?_
      refine .brT ?_
      refine .assign ?_
      refine .nil ?_
      cases h
      exact .ret (fin_gen0 none)
    · replace h := (if_neg (nt hc6)).symm.trans h
      refine .move ?_
      refine .val ?_
      refine .move ?_
      refine .caseG (fun hc7 => ?_) (fun hc7 => ?_)
      · replace h := (if_pos hc7).symm.trans h
        refine .move ?_
        refine .val ?_
        refine .brT ?_
        refine .brF ?_
        refine .assign ?_
        refine .nil ?_
        cases h
        exact .ret (fin_gen0 none)
      · replace h := (if_neg (nt hc7)).symm.trans h
        refine .skip ?_
        refine .skip ?_
        refine .brF ?_
        refine .brF ?_
        refine .assign ?_
        refine .nil ?_
        cases h
        exact .ret (fin_gen0 none)
  · replace h := (if_neg (nt hc5)).symm.trans h
    refine .skip ?_
    refine .skip ?_
    refine .brF ?_
    refine .move ?_
    refine .move ?_
    refine .val ?_
    refine .move ?_
    refine .caseG (fun hc8 => ?_) (fun hc8 => ?_)
    · replace h := (if_pos hc8).symm.trans h
      refine .move ?_
      refine .val ?_
      refine .brT ?_
      refine .brF ?_
      refine .assign ?_
      refine .nil ?_
      cases h
      exact .ret (fin_gen0 none)
    · replace h := (if_neg (nt hc8)).symm.trans h
      refine .skip ?_
      refine .skip ?_
      refine .brF ?_
      refine .brF ?_
      refine .assign ?_
      refine .nil ?_
      cases h
      exact .ret (fin_gen0 none)

/- soundservice/soundserviceref02.Name -/
def f112_l1 (n : Nat) (a0 : ByteArray) (j51 : Unit → Option Bool) : Nat → Int → Option Bool
  | 0, _ => none
  | m86 + 1, v68 =>
    if decide (v68 < (a0.size : Int)) then (
    joinK (fun (_ : Unit) =>
    f112_l1 n a0 j51 m86 (w64 (v68 + (1 : Int)))) fun j103 =>
    (sAt a0 v68).bind fun x104 =>
    joinK (fun (_ : Unit) =>
    some false) fun j114 =>
    joinK (fun (_ : Unit) =>
    if (x104 != (95 : Int)) then (
    some false)
    else (
    j103 ())) fun j115 =>
    joinK (fun (_ : Unit) =>
    j103 ()) fun j116 =>
    (f122 n x104).bind fun y117 =>
    if !y117 then (
    if (v68 == (0 : Int)) then (
    j114 ())
    else (
    if decide (x104 < (48 : Int)) then (
    if (x104 != (45 : Int)) then (
    if (x104 != (46 : Int)) then (
    j115 ())
    else (
    j116 ()))
    else (
    j116 ()))
    else (
    if decide (x104 > (57 : Int)) then (
    if (x104 != (45 : Int)) then (
    if (x104 != (46 : Int)) then (
    j115 ())
    else (
    j116 ()))
    else (
    j116 ()))
    else (
    j116 ()))))
    else (
    j116 ()))
    else (
    j51 ())
def f112 (n : Nat) (a0 : ByteArray) : Option Bool :=
  joinK (fun (_ : Unit) =>
  if !(sEq a0 (⟨#[]⟩ : ByteArray)) then (
  some (decide ((a0.size : Int) ≤ (64 : Int))))
  else (
  some false)) fun j51 =>
  f112_l1 n a0 j51 n 0
set_option maxHeartbeats 4000000 in
set_option maxRecDepth 100000 in
theorem g112 {n : Nat} {a0 : ByteArray} {r : Bool} (h : f112 n a0 = some r) :
    Ab.Can Try.prog 112 [.str a0] H0 (.bool r) H0 := by
  refine can_of tabOK mix Try.call112 Try.func112 rfl (by kernel_rfl) (by show _ ≤ 48; simp) fun _ => ?_
  rw [f112] at h
  refine .seq ?_
  refine .region ?_
  refine .assign ?_
  refine .nil ?_
  obtain ⟨j51, hj51, h⟩ := joinE h
  refine .cutI (fun T => (T = St.of [(0, .str a0)] [] ∧ j51 () = some r)) ?_ ?_
  · refine .seq ?_
    refine .region ?_
    refine .assign ?_
    refine .nil ?_
    refine .block ?_
    refine .loopI (fun m T => ∃ (v68 : Int), T = St.of [(0, .str a0), (3, .int .i64 v68)] [] ∧ f112_l1 n a0 j51 m v68 = some r) _ _ ⟨_, rfl, h⟩ (imp_of (.cons rfl (.cons rfl (.nil))) (.nil)) ?_
    rintro m86 T ⟨v68, rfl, h⟩
    obtain _ | m86 := m86
    · rw [f112_l1] at h; cases h
    rw [f112_l1] at h
    refine .seq ?_
    refine .seq ?_
    refine .region ?_
    refine .move ?_
    refine .move ?_
    refine .val ?_
    refine .val ?_
    refine .nil ?_
    refine .cond (fun hc88 => ?_) (fun hc88 => ?_)
    · replace h := (if_pos hc88).symm.trans h
      refine .skip ?_
      obtain ⟨j103, hj103, h⟩ := joinE h
      refine .cutI (fun T => (T = St.of [(0, .str a0), (3, .int .i64 v68)] [] ∧ j103 () = some r)) ?_ ?_
      · refine .block ?_
        refine .seq ?_
        refine .region ?_
        refine .move ?_
        refine .move ?_
        obtain ⟨x104, hx104, h⟩ := bindE h
        refine .atS hx104 ?_
        refine .assign ?_
        refine .nil ?_
        obtain ⟨j114, hj114, h⟩ := joinE h
        obtain ⟨j115, hj115, h⟩ := joinE h
        obtain ⟨j116, hj116, h⟩ := joinE h
        refine .cutI (fun T => (T = St.of [(0, .str a0), (3, .int .i64 v68), (40, .bool true)] [] ∧ j114 () = some r) ∨ (T = St.of [(0, .str a0), (3, .int .i64 v68), (40, .bool (x104 != (95 : Int)))] [] ∧ j115 () = some r) ∨ (T = St.of [(0, .str a0), (3, .int .i64 v68), (40, .bool false)] [] ∧ j116 () = some r)) ?_ ?_
        · refine .region ?_
          refine .move ?_
          obtain ⟨y117, hy117, h⟩ := bindE h
          refine .cP (g122 hy117) ?_
          refine .val ?_
          refine .move ?_
          refine .caseG (fun hc118 => ?_) (fun hc118 => ?_)
          · replace h := (if_pos hc118).symm.trans h
            refine .move ?_
            refine .val ?_
            refine .move ?_
            refine .caseG (fun hc119 => ?_) (fun hc119 => ?_)
            · replace h := (if_pos hc119).symm.trans h
              refine .skip ?_
              refine .skip ?_
              refine .skip ?_
              refine .skip ?_
              refine .skip ?_
              refine .skip ?_
              refine .skip ?_
              refine .skip ?_
              refine .skip ?_
              refine .skip ?_
              refine .skip ?_
              refine .skip ?_
              refine .skip ?_
              refine .skip ?_
              refine .skip ?_
              refine .skip ?_
              refine .skip ?_
              refine .skip ?_
              refine .brT ?_
              refine .brT ?_
              refine .nil ?_
              exact ⟨_, (.inl ⟨rfl, h⟩), (imp_of (.cons rfl (.cons rfl (.cons rfl (.nil)))) (.nil))⟩
            · replace h := (if_neg (nt hc119)).symm.trans h
              refine .move ?_
              refine .val ?_
              refine .move ?_
              refine .caseG (fun hc120 => ?_) (fun hc120 => ?_)
              · replace h := (if_pos hc120).symm.trans h
                refine .skip ?_
                refine .skip ?_
                refine .brT ?_
                refine .move ?_
                refine .move ?_
                refine .val ?_
                refine .brT ?_
                refine .move ?_
                refine .caseG (fun hc121 => ?_) (fun hc121 => ?_)
                · replace h := (if_pos hc121).symm.trans h
                  refine .move ?_
                  refine .val ?_
                  refine .brT ?_
                  refine .move ?_
                  refine .caseG (fun hc122 => ?_) (fun hc122 => ?_)
                  · replace h := (if_pos hc122).symm.trans h
                    refine .move ?_
                    refine .val ?_
                    refine .brT ?_
                    refine .brF ?_
                    refine .brT ?_
                    refine .nil ?_
                    exact ⟨_, (.inr (.inl ⟨rfl, h⟩)), (imp_of (.cons rfl (.cons rfl (.cons rfl (.nil)))) (.nil))⟩
                  · replace h := (if_neg (nt hc122)).symm.trans h
                    refine .skip ?_
                    refine .skip ?_
                    refine .brF ?_
                    refine .brF ?_
                    refine .brT ?_
                    refine .nil ?_
                    exact ⟨_, (.inr (.inr (⟨rfl, h⟩))), (imp_of (.cons rfl (.cons rfl (.cons rfl (.nil)))) (.nil))⟩
                · replace h := (if_neg (nt hc121)).symm.trans h
                  refine .skip ?_
                  refine .skip ?_
                  refine .brF ?_
                  refine .move ?_
                  refine .skip ?_
                  refine .skip ?_
                  refine .brF ?_
                  refine .brF ?_
                  refine .brT ?_
                  refine .nil ?_
                  exact ⟨_, (.inr (.inr (⟨rfl, h⟩))), (imp_of (.cons rfl (.cons rfl (.cons rfl (.nil)))) (.nil))⟩
              · replace h := (if_neg (nt hc120)).symm.trans h
                refine .move ?_
                refine .val ?_
                refine .brF ?_
                refine .move ?_
                refine .caseG (fun hc123 => ?_) (fun hc123 => ?_)
                · replace h := (if_pos hc123).symm.trans h
                  refine .move ?_
                  refine .val ?_
                  refine .brT ?_
                  refine .move ?_
                  refine .caseG (fun hc124 => ?_) (fun hc124 => ?_)
                  · replace h := (if_pos hc124).symm.trans h
                    refine .move ?_
                    refine .val ?_
                    refine .brT ?_
                    refine .move ?_
                    refine .caseG (fun hc125 => ?_) (fun hc125 => ?_)
                    · replace h := (if_pos hc125).symm.trans h
                      refine .move ?_
                      refine .val ?_
                      refine .brT ?_
                      refine .brF ?_
                      refine .brT ?_
                      refine .nil ?_
                      exact ⟨_, (.inr (.inl ⟨rfl, h⟩)), (imp_of (.cons rfl (.cons rfl (.cons rfl (.nil)))) (.nil))⟩
                    · replace h := (if_neg (nt hc125)).symm.trans h
                      refine .skip ?_
                      refine .skip ?_
                      refine .brF ?_
                      refine .brF ?_
                      refine .brT ?_
                      refine .nil ?_
                      exact ⟨_, (.inr (.inr (⟨rfl, h⟩))), (imp_of (.cons rfl (.cons rfl (.cons rfl (.nil)))) (.nil))⟩
                  · replace h := (if_neg (nt hc124)).symm.trans h
                    refine .skip ?_
                    refine .skip ?_
                    refine .brF ?_
                    refine .move ?_
                    refine .skip ?_
                    refine .skip ?_
                    refine .brF ?_
                    refine .brF ?_
                    refine .brT ?_
                    refine .nil ?_
                    exact ⟨_, (.inr (.inr (⟨rfl, h⟩))), (imp_of (.cons rfl (.cons rfl (.cons rfl (.nil)))) (.nil))⟩
                · replace h := (if_neg (nt hc123)).symm.trans h
                  refine .skip ?_
                  refine .skip ?_
                  refine .brF ?_
                  refine .move ?_
                  refine .skip ?_
                  refine .skip ?_
                  refine .brF ?_
                  refine .move ?_
                  refine .skip ?_
                  refine .skip ?_
                  refine .brF ?_
                  refine .brF ?_
                  refine .brT ?_
                  refine .nil ?_
                  exact ⟨_, (.inr (.inr (⟨rfl, h⟩))), (imp_of (.cons rfl (.cons rfl (.cons rfl (.nil)))) (.nil))⟩
          · replace h := (if_neg (nt hc118)).symm.trans h
            refine .skip ?_
            refine .skip ?_
            refine .skip ?_
            refine .skip ?_
            refine .skip ?_
            refine .skip ?_
            refine .skip ?_
            refine .skip ?_
            refine .skip ?_
            refine .skip ?_
            refine .skip ?_
            refine .skip ?_
            refine .skip ?_
            refine .skip ?_
            refine .skip ?_
            refine .skip ?_
            refine .skip ?_
            refine .skip ?_
            refine .skip ?_
            refine .skip ?_
            refine .skip ?_
            refine .skip ?_
            refine .brF ?_
            refine .nil ?_
            exact ⟨_, (.inr (.inr (⟨rfl, h⟩))), (imp_of (.cons rfl (.cons rfl (.cons rfl (.nil)))) (.nil))⟩
        · rintro T (⟨rfl, h⟩ | ⟨rfl, h⟩ | ⟨rfl, h⟩)
          · subst hj114
            refine .condT ?_
            refine .seq ?_
            refine .region ?_
            refine .assign ?_
            refine .nil ?_
            cases h
            exact .ret (fin_gen0 none)
          · subst hj115
            refine .cond (fun hc126 => ?_) (fun hc126 => ?_)
            · replace h := (if_pos hc126).symm.trans h
              refine .seq ?_
              refine .region ?_
              refine .assign ?_
              refine .nil ?_
              cases h
              exact .ret (fin_gen0 none)
            · replace h := (if_neg (nt hc126)).symm.trans h
              refine .skip ?_
              exact ⟨_, ⟨rfl, h⟩, (imp_of (.cons rfl (.cons rfl (.nil))) (.nil))⟩
          · subst hj116
            refine .condF ?_
            refine .skip ?_
            exact ⟨_, ⟨rfl, h⟩, (imp_of (.cons rfl (.cons rfl (.nil))) (.nil))⟩
      · rintro T ⟨rfl, h⟩
        subst hj103
        refine .region ?_
        refine .move ?_
        refine .val ?_
        refine .assign ?_
        refine .nil ?_
        exact ⟨m86, _, Nat.lt_succ_self m86, ⟨_, rfl, h⟩, (imp_of (.cons rfl (.cons rfl (.nil))) (.nil))⟩
    · replace h := (if_neg (nt hc88)).symm.trans h
      refine .exit (.hit ?_)
      exact ⟨_, ⟨rfl, h⟩, (imp_of (.cons rfl (.nil)) (.nil))⟩
  · rintro T ⟨rfl, h⟩
    subst hj51
    refine .seq ?_
    refine .region ?_
    refine .move ?_
    refine .val ?_
    refine .move ?_
    refine .caseG (fun hc128 => ?_) (fun hc128 => ?_)
    · replace h := (if_pos hc128).symm.trans h
      refine .move ?_
      refine .val ?_
      refine .val ?_
      refine .brT ?_
      refine .assign ?_
      refine .nil ?_
      cases h
      exact .ret (fin_gen0 none)
    · replace h := (if_neg (nt hc128)).symm.trans h
      refine .skip ?_
      refine .skip ?_
      refine .skip ?_
      refine .brF ?_
      refine .assign ?_
      refine .nil ?_
      cases h
      exact .ret (fin_gen0 none)

/- soundservice/soundserviceref30.Ascending -/
def f113_l1 (n : Nat) (a0 : (List Int)) (j39 : Unit → Option Bool) : Nat → Int → Option Bool
  | 0, _ => none
  | m66 + 1, v52 =>
    if decide (v52 < (a0.length : Int)) then (
    joinK (fun (_ : Unit) =>
    f113_l1 n a0 j39 m66 (w64 (v52 + (1 : Int)))) fun j79 =>
    joinK (fun (_ : Unit) =>
    some false) fun j85 =>
    joinK (fun (v86 : Bool) =>
    if v86 then (
    some false)
    else (
    j79 ())) fun j87 =>
    joinK (fun (_ : Unit) =>
    j79 ()) fun j88 =>
    (lAt a0 v52).bind fun x89 =>
    if decide (x89 < (1 : Int)) then (
    j85 ())
    else (
    if decide (v52 > (0 : Int)) then (
    (lAt a0 v52).bind fun x92 =>
    (lAt a0 (w64 (v52 - (1 : Int)))).bind fun x93 =>
    j87 (decide (x92 ≤ x93)))
    else (
    j88 ())))
    else (
    j39 ())
def f113 (n : Nat) (a0 : (List Int)) : Option Bool :=
  joinK (fun (_ : Unit) =>
  some true) fun j39 =>
  f113_l1 n a0 j39 n 0
set_option maxHeartbeats 4000000 in
set_option maxRecDepth 100000 in
theorem g113 {n : Nat} {a0 : (List Int)} {r : Bool} (h : f113 n a0 = some r) :
    Ab.Can Try.prog 113 [.sl 71 .ro (a0.map (PV.int .u64))] H0 (.bool r) H0 := by
  refine can_of tabOK mix Try.call113 Try.func113 rfl (by kernel_rfl) (by show _ ≤ 31; simp) fun _ => ?_
  rw [f113] at h
  refine .seq ?_
  refine .region ?_
  refine .assign ?_
  refine .nil ?_
  obtain ⟨j39, hj39, h⟩ := joinE h
  refine .cutI (fun T => (T = St.of [] [] ∧ j39 () = some r)) ?_ ?_
  · refine .seq ?_
    refine .region ?_
    refine .assign ?_
    refine .nil ?_
    refine .block ?_
    refine .loopI (fun m T => ∃ (v52 : Int), T = St.of [(0, .sl 71 .ro (a0.map (PV.int .u64))), (3, .int .i64 v52)] [] ∧ f113_l1 n a0 j39 m v52 = some r) _ _ ⟨_, rfl, h⟩ (imp_of (.cons rfl (.cons rfl (.nil))) (.nil)) ?_
    rintro m66 T ⟨v52, rfl, h⟩
    obtain _ | m66 := m66
    · rw [f113_l1] at h; cases h
    rw [f113_l1] at h
    refine .seq ?_
    refine .seq ?_
    refine .region ?_
    refine .move ?_
    refine .move ?_
    refine .lenL (f := (PV.int .u64)) ?_
    refine .val ?_
    refine .nil ?_
    refine .cond (fun hc68 => ?_) (fun hc68 => ?_)
    · replace h := (if_pos hc68).symm.trans h
      refine .skip ?_
      obtain ⟨j79, hj79, h⟩ := joinE h
      refine .cutI (fun T => (T = St.of [(0, .sl 71 .ro (a0.map (PV.int .u64))), (3, .int .i64 v52)] [] ∧ j79 () = some r)) ?_ ?_
      · refine .block ?_
        obtain ⟨j85, hj85, h⟩ := joinE h
        obtain ⟨j87, hj87, h⟩ := joinE h
        obtain ⟨j88, hj88, h⟩ := joinE h
        refine .cutI (fun T => (T = St.of [(0, .sl 71 .ro (a0.map (PV.int .u64))), (3, .int .i64 v52), (30, .bool true)] [] ∧ j85 () = some r) ∨ (∃ (v86 : Bool), T = St.of [(0, .sl 71 .ro (a0.map (PV.int .u64))), (3, .int .i64 v52), (30, .bool v86)] [] ∧ j87 v86 = some r) ∨ (T = St.of [(0, .sl 71 .ro (a0.map (PV.int .u64))), (3, .int .i64 v52), (30, .bool false)] [] ∧ j88 () = some r)) ?_ ?_
        · obtain ⟨x89, hx89, h⟩ := bindE h
          rcases bool_em (decide (x89 < (1 : Int))) with hc90 | hc90
          · replace h := (if_pos hc90).symm.trans h
            refine .draw [] [[], [], [], [], [], [], [], [], [], [], [], [], [], [], [], [], [], [], [], [], []] [[], [], [], [], [], [], [], [], [], [], [], [], [], [], [], [], [], [], [], [], []] [[]]
              [(0, 0), (1, 0), (2, 0), (3, 0), (4, 0), (5, 0), (6, 0), (7, 0), (8, 0), (9, 0), (10, 0), (11, 0), (12, 0), (13, 0), (14, 0), (15, 0), (16, 0), (17, 0), (18, 0), (19, 0), (20, 0)] [] 0
              [⟨[(10, .sl 71 .ro (a0.map (PV.int .u64))), (11, .int .i64 v52), (12, .ep 71 .ro (a0.map (PV.int .u64)) (v52 : Int).toNat 0), (13, .int .u64 x89), (14, .bool true), (15, .bool true), (16, .tup []), (17, .tup []), (18, .tup []), (19, .tup []), (20, .tup []), (21, .tup []), (22, .tup []), (23, .tup []), (24, .tup []), (25, .tup []), (26, .tup []), (27, .tup []), (28, .tup []), (29, .tup []), (30, .bool true), (0, .sl 71 .ro (a0.map (PV.int .u64))), (3, .int .i64 v52)], [], []⟩]
              [(0, .sl 71 .ro (a0.map (PV.int .u64))), (3, .int .i64 v52)]
              (.cons [0] [] (fun _ _ h => .move (h _)) rfl rfl <|
              .cons [3] [] (fun _ _ h => .move (h _)) rfl rfl <|
              .cons [10, 11] [] (fun _ _ h => .idxL (f := (PV.int .u64)) hx89 (h _)) rfl rfl <|
              .cons [12] [] (fun _ _ h => .ldL hx89 (h _)) rfl rfl <|
              .cons [13] [] (fun _ _ h => .valB hc90 (h _)) rfl rfl <|
              .cons [14] [] (fun _ _ h => .move (h _)) rfl rfl <|
              .cons [15] [] (fun _ _ h => .skip (h _)) rfl rfl <|
              .cons [15] [] (fun _ _ h => .skip (h _)) rfl rfl <|
              .cons [15] [] (fun _ _ h => .skip (h _)) rfl rfl <|
              .cons [18] [] (fun _ _ h => .skip (h _)) rfl rfl <|
              .cons [18] [] (fun _ _ h => .skip (h _)) rfl rfl <|
              .cons [18] [] (fun _ _ h => .skip (h _)) rfl rfl <|
              .cons [18] [] (fun _ _ h => .skip (h _)) rfl rfl <|
              .cons [18] [] (fun _ _ h => .skip (h _)) rfl rfl <|
              .cons [18] [] (fun _ _ h => .skip (h _)) rfl rfl <|
              .cons [18] [] (fun _ _ h => .skip (h _)) rfl rfl <|
              .cons [18] [] (fun _ _ h => .skip (h _)) rfl rfl <|
              .cons [18] [] (fun _ _ h => .skip (h _)) rfl rfl <|
              .cons [18] [] (fun _ _ h => .skip (h _)) rfl rfl <|
              .cons [15] [] (fun _ _ h => .skip (h _)) rfl rfl <|
              .cons [15, 29] [] (fun _ _ h => .brT (h _)) rfl rfl <|
              .nil)
              (.nil)
              (by kernel_rfl) rfl (.cons rfl (.cons rfl (.nil))) (.nil) (.nil) ?_
            exact ⟨_, (.inl ⟨rfl, h⟩), (imp_of (.cons rfl (.cons rfl (.cons rfl (.nil)))) (.nil))⟩
          · replace h := (if_neg (nt hc90)).symm.trans h
            rcases bool_em (decide (v52 > (0 : Int))) with hc91 | hc91
            · replace h := (if_pos hc91).symm.trans h
              obtain ⟨x92, hx92, h⟩ := bindE h
              obtain ⟨x93, hx93, h⟩ := bindE h
              refine .draw [] [[], [], [], [], [], [], [], [], [], [], [], [], [], [], [], [], [], [], [], [], []] [[], [], [], [], [], [], [], [], [], [], [], [], [], [], [], [], [], [], [], [], []] [[]]
                [(0, 0), (1, 0), (2, 0), (3, 0), (4, 0), (5, 0), (6, 0), (7, 0), (8, 0), (9, 0), (10, 0), (11, 0), (12, 0), (13, 0), (14, 0), (15, 0), (16, 0), (17, 0), (18, 0), (19, 0), (20, 0)] [] 0
                [⟨[(10, .sl 71 .ro (a0.map (PV.int .u64))), (11, .int .i64 v52), (12, .ep 71 .ro (a0.map (PV.int .u64)) (v52 : Int).toNat 0), (13, .int .u64 x89), (14, .bool false), (15, .bool false), (16, .int .i64 v52), (17, .bool true), (18, .bool true), (19, .sl 71 .ro (a0.map (PV.int .u64))), (20, .int .i64 v52), (21, .ep 71 .ro (a0.map (PV.int .u64)) (v52 : Int).toNat 0), (22, .int .u64 x92), (23, .sl 71 .ro (a0.map (PV.int .u64))), (24, .int .i64 v52), (25, .int .i64 (w64 (v52 - (1 : Int)))), (26, .ep 71 .ro (a0.map (PV.int .u64)) (w64 (v52 - (1 : Int)) : Int).toNat 0), (27, .int .u64 x93), (28, .bool (decide (x92 ≤ x93))), (29, .bool (decide (x92 ≤ x93))), (30, .bool (decide (x92 ≤ x93))), (0, .sl 71 .ro (a0.map (PV.int .u64))), (3, .int .i64 v52)], [], []⟩]
                [(0, .sl 71 .ro (a0.map (PV.int .u64))), (3, .int .i64 v52)]
                (.cons [0] [] (fun _ _ h => .move (h _)) rfl rfl <|
                .cons [3] [] (fun _ _ h => .move (h _)) rfl rfl <|
                .cons [10, 11] [] (fun _ _ h => .idxL (f := (PV.int .u64)) hx89 (h _)) rfl rfl <|
                .cons [12] [] (fun _ _ h => .ldL hx89 (h _)) rfl rfl <|
                .cons [13] [] (fun _ _ h => .valB hc90 (h _)) rfl rfl <|
                .cons [14] [] (fun _ _ h => .move (h _)) rfl rfl <|
                .cons [3, 15] [] (fun _ _ h => .move (h _)) rfl rfl <|
                .cons [16, 15] [] (fun _ _ h => .valB hc91 (h _)) rfl rfl <|
                .cons [17, 15] [] (fun _ _ h => .move (h _)) rfl rfl <|
                .cons [0, 18] [] (fun _ _ h => .move (h _)) rfl rfl <|
                .cons [3, 18] [] (fun _ _ h => .move (h _)) rfl rfl <|
                .cons [19, 20, 18] [] (fun _ _ h => .idxL (f := (PV.int .u64)) hx92 (h _)) rfl rfl <|
                .cons [21, 18] [] (fun _ _ h => .ldL hx92 (h _)) rfl rfl <|
                .cons [0, 18] [] (fun _ _ h => .move (h _)) rfl rfl <|
                .cons [3, 18] [] (fun _ _ h => .move (h _)) rfl rfl <|
                .cons [24, 18] [] (fun _ _ h => .val (h _)) rfl rfl <|
                .cons [23, 25, 18] [] (fun _ _ h => .idxL (f := (PV.int .u64)) hx93 (h _)) rfl rfl <|
                .cons [26, 18] [] (fun _ _ h => .ldL hx93 (h _)) rfl rfl <|
                .cons [22, 27, 18] [] (fun _ _ h => .val (h _)) rfl rfl <|
                .cons [18, 28, 15] [] (fun _ _ h => .brT (h _)) rfl rfl <|
                .cons [15, 29] [] (fun _ _ h => .brF (h _)) rfl rfl <|
                .nil)
                (.nil)
                (by kernel_rfl) rfl (.cons rfl (.cons rfl (.nil))) (.nil) (.nil) ?_
              exact ⟨_, (.inr (.inl ⟨_, rfl, h⟩)), (imp_of (.cons rfl (.cons rfl (.cons rfl (.nil)))) (.nil))⟩
            · replace h := (if_neg (nt hc91)).symm.trans h
              refine .draw [] [[], [], [], [], [], [], [], [], [], [], [], [], [], [], [], [], [], [], [], [], []] [[], [], [], [], [], [], [], [], [], [], [], [], [], [], [], [], [], [], [], [], []] [[]]
                [(0, 0), (1, 0), (2, 0), (3, 0), (4, 0), (5, 0), (6, 0), (7, 0), (8, 0), (9, 0), (10, 0), (11, 0), (12, 0), (13, 0), (14, 0), (15, 0), (16, 0), (17, 0), (18, 0), (19, 0), (20, 0)] [] 0
                [⟨[(10, .sl 71 .ro (a0.map (PV.int .u64))), (11, .int .i64 v52), (12, .ep 71 .ro (a0.map (PV.int .u64)) (v52 : Int).toNat 0), (13, .int .u64 x89), (14, .bool false), (15, .bool false), (16, .int .i64 v52), (17, .bool false), (18, .bool false), (19, .tup []), (20, .tup []), (21, .tup []), (22, .tup []), (23, .tup []), (24, .tup []), (25, .tup []), (26, .tup []), (27, .tup []), (28, .tup []), (29, .bool false), (30, .bool false), (0, .sl 71 .ro (a0.map (PV.int .u64))), (3, .int .i64 v52)], [], []⟩]
                [(0, .sl 71 .ro (a0.map (PV.int .u64))), (3, .int .i64 v52)]
                (.cons [0] [] (fun _ _ h => .move (h _)) rfl rfl <|
                .cons [3] [] (fun _ _ h => .move (h _)) rfl rfl <|
                .cons [10, 11] [] (fun _ _ h => .idxL (f := (PV.int .u64)) hx89 (h _)) rfl rfl <|
                .cons [12] [] (fun _ _ h => .ldL hx89 (h _)) rfl rfl <|
                .cons [13] [] (fun _ _ h => .valB hc90 (h _)) rfl rfl <|
                .cons [14] [] (fun _ _ h => .move (h _)) rfl rfl <|
                .cons [3, 15] [] (fun _ _ h => .move (h _)) rfl rfl <|
                .cons [16, 15] [] (fun _ _ h => .valB hc91 (h _)) rfl rfl <|
                .cons [17, 15] [] (fun _ _ h => .move (h _)) rfl rfl <|
                .cons [18] [] (fun _ _ h => .skip (h _)) rfl rfl <|
                .cons [18] [] (fun _ _ h => .skip (h _)) rfl rfl <|
                .cons [18] [] (fun _ _ h => .skip (h _)) rfl rfl <|
                .cons [18] [] (fun _ _ h => .skip (h _)) rfl rfl <|
                .cons [18] [] (fun _ _ h => .skip (h _)) rfl rfl <|
                .cons [18] [] (fun _ _ h => .skip (h _)) rfl rfl <|
                .cons [18] [] (fun _ _ h => .skip (h _)) rfl rfl <|
                .cons [18] [] (fun _ _ h => .skip (h _)) rfl rfl <|
                .cons [18] [] (fun _ _ h => .skip (h _)) rfl rfl <|
                .cons [18] [] (fun _ _ h => .skip (h _)) rfl rfl <|
                .cons [18, 28, 15] [] (fun _ _ h => .brF (h _)) rfl rfl <|
                .cons [15, 29] [] (fun _ _ h => .brF (h _)) rfl rfl <|
                .nil)
                (.nil)
                (by kernel_rfl) rfl (.cons rfl (.cons rfl (.nil))) (.nil) (.nil) ?_
              exact ⟨_, (.inr (.inr (⟨rfl, h⟩))), (imp_of (.cons rfl (.cons rfl (.cons rfl (.nil)))) (.nil))⟩
        · rintro T (⟨rfl, h⟩ | ⟨v86, rfl, h⟩ | ⟨rfl, h⟩)
          · subst hj85
            refine .condT ?_
            refine .seq ?_
            refine .region ?_
            refine .assign ?_
            refine .nil ?_
            cases h
            exact .ret (fin_gen0 none)
          · subst hj87
            refine .cond (fun hc94 => ?_) (fun hc94 => ?_)
            · replace h := (if_pos hc94).symm.trans h
              refine .seq ?_
              refine .region ?_
              refine .assign ?_
              refine .nil ?_
              cases h
              exact .ret (fin_gen0 none)
            · replace h := (if_neg (nt hc94)).symm.trans h
              refine .skip ?_
              exact ⟨_, ⟨rfl, h⟩, (imp_of (.cons rfl (.cons rfl (.nil))) (.nil))⟩
          · subst hj88
            refine .condF ?_
            refine .skip ?_
            exact ⟨_, ⟨rfl, h⟩, (imp_of (.cons rfl (.cons rfl (.nil))) (.nil))⟩
      · rintro T ⟨rfl, h⟩
        subst hj79
        refine .region ?_
        refine .move ?_
        refine .val ?_
        refine .assign ?_
        refine .nil ?_
        exact ⟨m66, _, Nat.lt_succ_self m66, ⟨_, rfl, h⟩, (imp_of (.cons rfl (.cons rfl (.nil))) (.nil))⟩
    · replace h := (if_neg (nt hc68)).symm.trans h
      refine .exit (.hit ?_)
      exact ⟨_, ⟨rfl, h⟩, (imp_of (.nil) (.nil))⟩
  · rintro T ⟨rfl, h⟩
    subst hj39
    refine .seq ?_
    refine .region ?_
    refine .assign ?_
    refine .nil ?_
    cases h
    exact .ret (fin_gen0 none)

/- soundservice/soundserviceref30.Has -/
def f58_l1 (n : Nat) (a0 : (List Int)) (a1 : Int) (j12 : Unit → Option Bool) : Nat → Int → Option Bool
  | 0, _ => none
  | m21 + 1, v16 =>
    if decide (v16 < (a0.length : Int)) then (
    (lAt a0 v16).bind fun x26 =>
    if (x26 == a1) then (
    some true)
    else (
    f58_l1 n a0 a1 j12 m21 (w64 (v16 + (1 : Int)))))
    else (
    j12 ())
def f58 (n : Nat) (a0 : (List Int)) (a1 : Int) : Option Bool :=
  joinK (fun (_ : Unit) =>
  some false) fun j12 =>
  f58_l1 n a0 a1 j12 n 0
set_option maxHeartbeats 4000000 in
set_option maxRecDepth 100000 in
theorem g58 {n : Nat} {a0 : (List Int)} {a1 : Int} {r : Bool} (h : f58 n a0 a1 = some r) :
    Ab.Can Try.prog 58 [.sl 71 .ro (a0.map (PV.int .u64)), .int .u64 a1] H0 (.bool r) H0 := by
  refine can_of tabOK mix Try.call58 Try.func58 rfl (by kernel_rfl) (by show _ ≤ 18; simp) fun _ => ?_
  rw [f58] at h
  refine .seq ?_
  refine .region ?_
  refine .assign ?_
  refine .nil ?_
  obtain ⟨j12, hj12, h⟩ := joinE h
  refine .cutI (fun T => (T = St.of [] [] ∧ j12 () = some r)) ?_ ?_
  · refine .seq ?_
    refine .region ?_
    refine .assign ?_
    refine .nil ?_
    refine .block ?_
    refine .loopI (fun m T => ∃ (v16 : Int), T = St.of [(0, .sl 71 .ro (a0.map (PV.int .u64))), (1, .int .u64 a1), (5, .int .i64 v16)] [] ∧ f58_l1 n a0 a1 j12 m v16 = some r) _ _ ⟨_, rfl, h⟩ (imp_of (.cons rfl (.cons rfl (.cons rfl (.nil)))) (.nil)) ?_
    rintro m21 T ⟨v16, rfl, h⟩
    obtain _ | m21 := m21
    · rw [f58_l1] at h; cases h
    rw [f58_l1] at h
    refine .seq ?_
    refine .seq ?_
    refine .region ?_
    refine .move ?_
    refine .move ?_
    refine .lenL (f := (PV.int .u64)) ?_
    refine .val ?_
    refine .nil ?_
    refine .cond (fun hc23 => ?_) (fun hc23 => ?_)
    · replace h := (if_pos hc23).symm.trans h
      refine .skip ?_
      refine .seq ?_
      refine .block ?_
      refine .seq ?_
      refine .region ?_
      refine .move ?_
      refine .move ?_
      obtain ⟨x26, hx26, h⟩ := bindE h
      refine .idxL (f := (PV.int .u64)) hx26 ?_
      refine .ldL hx26 (y := .int .u64 x26) ?_
      refine .move ?_
      refine .val ?_
      refine .nil ?_
      refine .cond (fun hc27 => ?_) (fun hc27 => ?_)
      · replace h := (if_pos hc27).symm.trans h
        refine .seq ?_
        refine .region ?_
        refine .assign ?_
        refine .nil ?_
        cases h
        exact .ret (fin_gen0 none)
      · replace h := (if_neg (nt hc27)).symm.trans h
        refine .skip ?_
        refine .region ?_
        refine .move ?_
        refine .val ?_
        refine .assign ?_
        refine .nil ?_
        exact ⟨m21, _, Nat.lt_succ_self m21, ⟨_, rfl, h⟩, (imp_of (.cons rfl (.cons rfl (.cons rfl (.nil)))) (.nil))⟩
    · replace h := (if_neg (nt hc23)).symm.trans h
      refine .exit (.hit ?_)
      exact ⟨_, ⟨rfl, h⟩, (imp_of (.nil) (.nil))⟩
  · rintro T ⟨rfl, h⟩
    subst hj12
    refine .seq ?_
    refine .region ?_
    refine .assign ?_
    refine .nil ?_
    cases h
    exact .ret (fin_gen0 none)

/- soundservice/soundserviceref30.Proper -/
def f84 (n : Nat) (a0 : Choose) : Option Bool :=
  (f112 n a0.Role).bind fun y8 =>
  if y8 then (
  if decide ((a0.Set.length : Int) ≥ (1 : Int)) then (
  if decide ((a0.Set.length : Int) ≤ (8 : Int)) then (
  (f113 n a0.Set).bind fun y12 =>
  if y12 then (
  (f58 n a0.Set a0.Device).bind fun y14 =>
  some y14)
  else (
  some false))
  else (
  some false))
  else (
  some false))
  else (
  some false)
set_option maxHeartbeats 4000000 in
set_option maxRecDepth 100000 in
theorem g84 {n : Nat} {a0 : Choose} {r : Bool} (h : f84 n a0 = some r) :
    Ab.Can Try.prog 84 [.agg [.str a0.Role, .sl 71 .ro (a0.Set.map (PV.int .u64)), .int .u64 a0.Device]] H0 (.bool r) H0 := by
  refine can_of tabOK mix Try.call84 Try.func84 rfl (by kernel_rfl) (by show _ ≤ 30; simp) fun _ => ?_
  rw [f84] at h
  refine .seq ?_
  refine .region ?_
  refine .boxL (cs := [.str a0.Role, .sl 71 .ro (a0.Set.map (PV.int .u64)), .int .u64 a0.Device]) ?_
  refine .assign ?_
  refine .nil ?_
  refine .seq ?_
  refine .region ?_
  refine .val ?_
  refine .val ?_
  obtain ⟨y8, hy8, h⟩ := bindE h
  refine .cP (g112 hy8) ?_
  refine .move ?_
  refine .caseG (fun hc9 => ?_) (fun hc9 => ?_)
  · replace h := (if_pos hc9).symm.trans h
    refine .val ?_
    refine .val ?_
    refine .lenL (f := (PV.int .u64)) ?_
    refine .val ?_
    refine .brT ?_
    refine .move ?_
    refine .caseG (fun hc10 => ?_) (fun hc10 => ?_)
    · replace h := (if_pos hc10).symm.trans h
      refine .val ?_
      refine .val ?_
      refine .lenL (f := (PV.int .u64)) ?_
      refine .val ?_
      refine .brT ?_
      refine .move ?_
      refine .caseG (fun hc11 => ?_) (fun hc11 => ?_)
      · replace h := (if_pos hc11).symm.trans h
        refine .val ?_
        refine .val ?_
        obtain ⟨y12, hy12, h⟩ := bindE h
        refine .cP (g113 hy12) ?_
        refine .brT ?_
        refine .move ?_
        refine .caseG (fun hc13 => ?_) (fun hc13 => ?_)
        · replace h := (if_pos hc13).symm.trans h
          refine .val ?_
          refine .val ?_
          refine .val ?_
          refine .val ?_
          obtain ⟨y14, hy14, h⟩ := bindE h
          refine .cP (g58 hy14) ?_
          refine .brT ?_
          refine .assign ?_
          refine .nil ?_
          cases h
          exact .ret (fin_gen0 none)
        · replace h := (if_neg (nt hc13)).symm.trans h
          refine .skip ?_
          refine .skip ?_
          refine .skip ?_
          refine .skip ?_
          refine .skip ?_
          refine .brF ?_
          refine .assign ?_
          refine .nil ?_
          cases h
          exact .ret (fin_gen0 none)
      · replace h := (if_neg (nt hc11)).symm.trans h
        refine .skip ?_
        refine .skip ?_
        refine .skip ?_
        refine .brF ?_
        refine .move ?_
        refine .skip ?_
        refine .skip ?_
        refine .skip ?_
        refine .skip ?_
        refine .skip ?_
        refine .brF ?_
        refine .assign ?_
        refine .nil ?_
        cases h
        exact .ret (fin_gen0 none)
    · replace h := (if_neg (nt hc10)).symm.trans h
      refine .skip ?_
      refine .skip ?_
      refine .skip ?_
      refine .skip ?_
      refine .brF ?_
      refine .move ?_
      refine .skip ?_
      refine .skip ?_
      refine .skip ?_
      refine .brF ?_
      refine .move ?_
      refine .skip ?_
      refine .skip ?_
      refine .skip ?_
      refine .skip ?_
      refine .skip ?_
      refine .brF ?_
      refine .assign ?_
      refine .nil ?_
      cases h
      exact .ret (fin_gen0 none)
  · replace h := (if_neg (nt hc9)).symm.trans h
    refine .skip ?_
    refine .skip ?_
    refine .skip ?_
    refine .skip ?_
    refine .brF ?_
    refine .move ?_
    refine .skip ?_
    refine .skip ?_
    refine .skip ?_
    refine .skip ?_
    refine .brF ?_
    refine .move ?_
    refine .skip ?_
    refine .skip ?_
    refine .skip ?_
    refine .brF ?_
    refine .move ?_
    refine .skip ?_
    refine .skip ?_
    refine .skip ?_
    refine .skip ?_
    refine .skip ?_
    refine .brF ?_
    refine .assign ?_
    refine .nil ?_
    cases h
    exact .ret (fin_gen0 none)

/- soundservice/soundserviceref30.part -/
def f114_l1 (n : Nat) (a0 : (List Int)) (a1 : (List Int)) (j15 : Unit → Option Bool) : Nat → Int → Option Bool
  | 0, _ => none
  | m26 + 1, v20 =>
    if decide (v20 < (a0.length : Int)) then (
    (lAt a0 v20).bind fun x32 =>
    (f58 n a1 x32).bind fun y33 =>
    if !y33 then (
    some false)
    else (
    f114_l1 n a0 a1 j15 m26 (w64 (v20 + (1 : Int)))))
    else (
    j15 ())
def f114 (n : Nat) (a0 : (List Int)) (a1 : (List Int)) : Option Bool :=
  joinK (fun (_ : Unit) =>
  some true) fun j15 =>
  f114_l1 n a0 a1 j15 n 0
set_option maxHeartbeats 4000000 in
set_option maxRecDepth 100000 in
theorem g114 {n : Nat} {a0 : (List Int)} {a1 : (List Int)} {r : Bool} (h : f114 n a0 a1 = some r) :
    Ab.Can Try.prog 114 [.sl 71 .ro (a0.map (PV.int .u64)), .sl 71 .ro (a1.map (PV.int .u64))] H0 (.bool r) H0 := by
  refine can_of tabOK mix Try.call114 Try.func114 rfl (by kernel_rfl) (by show _ ≤ 19; simp) fun _ => ?_
  rw [f114] at h
  refine .seq ?_
  refine .region ?_
  refine .assign ?_
  refine .nil ?_
  obtain ⟨j15, hj15, h⟩ := joinE h
  refine .cutI (fun T => (T = St.of [] [] ∧ j15 () = some r)) ?_ ?_
  · refine .seq ?_
    refine .region ?_
    refine .assign ?_
    refine .nil ?_
    refine .block ?_
    refine .loopI (fun m T => ∃ (v20 : Int), T = St.of [(0, .sl 71 .ro (a0.map (PV.int .u64))), (1, .sl 71 .ro (a1.map (PV.int .u64))), (5, .int .i64 v20)] [] ∧ f114_l1 n a0 a1 j15 m v20 = some r) _ _ ⟨_, rfl, h⟩ (imp_of (.cons rfl (.cons rfl (.cons rfl (.nil)))) (.nil)) ?_
    rintro m26 T ⟨v20, rfl, h⟩
    obtain _ | m26 := m26
    · rw [f114_l1] at h; cases h
    rw [f114_l1] at h
    refine .seq ?_
    refine .seq ?_
    refine .region ?_
    refine .move ?_
    refine .move ?_
    refine .lenL (f := (PV.int .u64)) ?_
    refine .val ?_
    refine .nil ?_
    refine .cond (fun hc28 => ?_) (fun hc28 => ?_)
    · replace h := (if_pos hc28).symm.trans h
      refine .skip ?_
      refine .seq ?_
      refine .block ?_
      refine .seq ?_
      refine .region ?_
      refine .move ?_
      refine .move ?_
      refine .move ?_
      obtain ⟨x32, hx32, h⟩ := bindE h
      refine .idxL (f := (PV.int .u64)) hx32 ?_
      refine .ldL hx32 (y := .int .u64 x32) ?_
      obtain ⟨y33, hy33, h⟩ := bindE h
      refine .cP (g58 hy33) ?_
      refine .val ?_
      refine .nil ?_
      refine .cond (fun hc34 => ?_) (fun hc34 => ?_)
      · replace h := (if_pos hc34).symm.trans h
        refine .seq ?_
        refine .region ?_
        refine .assign ?_
        refine .nil ?_
        cases h
        exact .ret (fin_gen0 none)
      · replace h := (if_neg (nt hc34)).symm.trans h
        refine .skip ?_
        refine .region ?_
        refine .move ?_
        refine .val ?_
        refine .assign ?_
        refine .nil ?_
        exact ⟨m26, _, Nat.lt_succ_self m26, ⟨_, rfl, h⟩, (imp_of (.cons rfl (.cons rfl (.cons rfl (.nil)))) (.nil))⟩
    · replace h := (if_neg (nt hc28)).symm.trans h
      refine .exit (.hit ?_)
      exact ⟨_, ⟨rfl, h⟩, (imp_of (.nil) (.nil))⟩
  · rintro T ⟨rfl, h⟩
    subst hj15
    refine .seq ?_
    refine .region ?_
    refine .assign ?_
    refine .nil ?_
    cases h
    exact .ret (fin_gen0 none)

/- soundservice/soundserviceref30.alike -/
def f85 (n : Nat) (a0 : Choose) (a1 : Choose) : Option Bool :=
  if sEq a0.Role a1.Role then (
  if ((a0.Set.length : Int) == (a1.Set.length : Int)) then (
  (f114 n a0.Set a1.Set).bind fun y6 =>
  some y6)
  else (
  some false))
  else (
  some false)
set_option maxHeartbeats 4000000 in
set_option maxRecDepth 100000 in
theorem g85 {n : Nat} {a0 : Choose} {a1 : Choose} {r : Bool} (h : f85 n a0 a1 = some r) :
    Ab.Can Try.prog 85 [.agg [.str a0.Role, .sl 71 .ro (a0.Set.map (PV.int .u64)), .int .u64 a0.Device], .agg [.str a1.Role, .sl 71 .ro (a1.Set.map (PV.int .u64)), .int .u64 a1.Device]] H0 (.bool r) H0 := by
  refine can_of tabOK mix Try.call85 Try.func85 rfl (by kernel_rfl) (by show _ ≤ 26; simp) fun _ => ?_
  rw [f85] at h
  refine .seq ?_
  refine .region ?_
  refine .boxL (cs := [.str a0.Role, .sl 71 .ro (a0.Set.map (PV.int .u64)), .int .u64 a0.Device]) ?_
  refine .boxL (cs := [.str a1.Role, .sl 71 .ro (a1.Set.map (PV.int .u64)), .int .u64 a1.Device]) ?_
  refine .assign ?_
  refine .nil ?_
  refine .seq ?_
  refine .region ?_
  refine .val ?_
  refine .val ?_
  refine .val ?_
  refine .val ?_
  refine .val ?_
  refine .move ?_
  refine .caseG (fun hc4 => ?_) (fun hc4 => ?_)
  · replace h := (if_pos hc4).symm.trans h
    refine .val ?_
    refine .val ?_
    refine .lenL (f := (PV.int .u64)) ?_
    refine .val ?_
    refine .val ?_
    refine .lenL (f := (PV.int .u64)) ?_
    refine .val ?_
    refine .brT ?_
    refine .move ?_
    refine .caseG (fun hc5 => ?_) (fun hc5 => ?_)
    · replace h := (if_pos hc5).symm.trans h
      refine .val ?_
      refine .val ?_
      refine .val ?_
      refine .val ?_
      obtain ⟨y6, hy6, h⟩ := bindE h
      refine .cP (g114 hy6) ?_
      refine .brT ?_
      refine .assign ?_
      refine .nil ?_
      cases h
      exact .ret (fin_gen0 none)
    · replace h := (if_neg (nt hc5)).symm.trans h
      refine .skip ?_
      refine .skip ?_
      refine .skip ?_
      refine .skip ?_
      refine .skip ?_
      refine .brF ?_
      refine .assign ?_
      refine .nil ?_
      cases h
      exact .ret (fin_gen0 none)
  · replace h := (if_neg (nt hc4)).symm.trans h
    refine .skip ?_
    refine .skip ?_
    refine .skip ?_
    refine .skip ?_
    refine .skip ?_
    refine .skip ?_
    refine .skip ?_
    refine .brF ?_
    refine .move ?_
    refine .skip ?_
    refine .skip ?_
    refine .skip ?_
    refine .skip ?_
    refine .skip ?_
    refine .brF ?_
    refine .assign ?_
    refine .nil ?_
    cases h
    exact .ret (fin_gen0 none)

/- soundservice/soundserviceref30.Valid -/
def f46_l2 (n : Nat) (a0 : Memory) (v92 : Int) (j139 : Unit → Option Bool) : Nat → Int → Option Bool
  | 0, _ => none
  | m158 + 1, v151 =>
    if decide (v151 < v92) then (
    (lAt a0.Choices v92).bind fun x165 =>
    (lAt a0.Choices v151).bind fun x166 =>
    (f85 n x165 x166).bind fun y167 =>
    if y167 then (
    some false)
    else (
    f46_l2 n a0 v92 j139 m158 (w64 (v151 + (1 : Int)))))
    else (
    j139 ())
def f46_l1 (n : Nat) (a0 : Memory) (j69 : Unit → Option Bool) : Nat → Int → Option Bool
  | 0, _ => none
  | m116 + 1, v92 =>
    if decide (v92 < (a0.Choices.length : Int)) then (
    joinK (fun (_ : Unit) =>
    f46_l1 n a0 j69 m116 (w64 (v92 + (1 : Int)))) fun j139 =>
    (lAt a0.Choices v92).bind fun x143 =>
    (f84 n x143).bind fun y144 =>
    if !y144 then (
    some false)
    else (
    f46_l2 n a0 v92 j139 n 0))
    else (
    j69 ())
def f46 (n : Nat) (a0 : Memory) : Option Bool :=
  joinK (fun (_ : Unit) =>
  some (decide ((a0.Choices.length : Int) ≤ (32 : Int)))) fun j69 =>
  f46_l1 n a0 j69 n 0
set_option maxHeartbeats 4000000 in
set_option maxRecDepth 100000 in
theorem g46 {n : Nat} {a0 : Memory} {r : Bool} (h : f46 n a0 = some r) :
    Ab.Can Try.prog 46 [.agg [.sl 73 .ro (a0.Choices.map pv73)]] H0 (.bool r) H0 := by
  refine can_of tabOK mix Try.call46 Try.func46 rfl (by kernel_rfl) (by show _ ≤ 39; simp) fun _ => ?_
  rw [f46] at h
  refine .seq ?_
  refine .region ?_
  refine .boxL (cs := [.sl 73 .ro (a0.Choices.map pv73)]) ?_
  refine .assign ?_
  refine .nil ?_
  obtain ⟨j69, hj69, h⟩ := joinE h
  refine .cutI (fun T => (T = St.of [(1, .ptr (.loc 0 0) 0)] [((.loc 0 0), [.sl 73 .ro (a0.Choices.map pv73)])] ∧ j69 () = some r)) ?_ ?_
  · refine .seq ?_
    refine .region ?_
    refine .assign ?_
    refine .nil ?_
    refine .block ?_
    refine .loopI (fun m T => ∃ (v92 : Int), T = St.of [(1, .ptr (.loc 0 0) 0), (3, .int .i64 v92)] [((.loc 0 0), [.sl 73 .ro (a0.Choices.map pv73)])] ∧ f46_l1 n a0 j69 m v92 = some r) _ _ ⟨_, rfl, h⟩ (imp_of (.cons rfl (.cons rfl (.nil))) (.cons rfl (.nil))) ?_
    rintro m116 T ⟨v92, rfl, h⟩
    obtain _ | m116 := m116
    · rw [f46_l1] at h; cases h
    rw [f46_l1] at h
    refine .seq ?_
    refine .seq ?_
    refine .region ?_
    refine .move ?_
    refine .val ?_
    refine .val ?_
    refine .lenL (f := pv73) ?_
    refine .val ?_
    refine .nil ?_
    refine .cond (fun hc118 => ?_) (fun hc118 => ?_)
    · replace h := (if_pos hc118).symm.trans h
      refine .skip ?_
      obtain ⟨j139, hj139, h⟩ := joinE h
      refine .cutI (fun T => (T = St.of [(1, .ptr (.loc 0 0) 0), (3, .int .i64 v92)] [((.loc 0 0), [.sl 73 .ro (a0.Choices.map pv73)])] ∧ j139 () = some r)) ?_ ?_
      · refine .block ?_
        refine .seq ?_
        refine .seq ?_
        refine .region ?_
        refine .val ?_
        refine .val ?_
        refine .move ?_
        obtain ⟨x143, hx143, h⟩ := bindE h
        refine .idxL (f := pv73) hx143 ?_
        refine .ldL hx143 (y := .agg [.str x143.Role, .sl 71 .ro (x143.Set.map (PV.int .u64)), .int .u64 x143.Device]) ?_
        obtain ⟨y144, hy144, h⟩ := bindE h
        refine .cP (g84 hy144) ?_
        refine .val ?_
        refine .nil ?_
        refine .cond (fun hc145 => ?_) (fun hc145 => ?_)
        · replace h := (if_pos hc145).symm.trans h
          refine .seq ?_
          refine .region ?_
          refine .assign ?_
          refine .nil ?_
          cases h
          exact .ret (fin_gen0 none)
        · replace h := (if_neg (nt hc145)).symm.trans h
          refine .skip ?_
          refine .seq ?_
          refine .region ?_
          refine .assign ?_
          refine .nil ?_
          refine .block ?_
          refine .loopI (fun m T => ∃ (v151 : Int), T = St.of [(1, .ptr (.loc 0 0) 0), (3, .int .i64 v92), (4, .int .i64 v151)] [((.loc 0 0), [.sl 73 .ro (a0.Choices.map pv73)])] ∧ f46_l2 n a0 v92 j139 m v151 = some r) _ _ ⟨_, rfl, h⟩ (imp_of (.cons rfl (.cons rfl (.cons rfl (.nil)))) (.cons rfl (.nil))) ?_
          rintro m158 T ⟨v151, rfl, h⟩
          obtain _ | m158 := m158
          · rw [f46_l2] at h; cases h
          rw [f46_l2] at h
          refine .seq ?_
          refine .seq ?_
          refine .region ?_
          refine .move ?_
          refine .move ?_
          refine .val ?_
          refine .nil ?_
          refine .cond (fun hc160 => ?_) (fun hc160 => ?_)
          · replace h := (if_pos hc160).symm.trans h
            refine .skip ?_
            refine .seq ?_
            refine .block ?_
            refine .seq ?_
            obtain ⟨x165, hx165, h⟩ := bindE h
            obtain ⟨x166, hx166, h⟩ := bindE h
            obtain ⟨y167, hy167, h⟩ := bindE h
            refine .draw [] [[], [], [], [], [], [], [], [], [], [], []] [[], [], [], [], [], [], [], [], [], [], []] [[]]
              [(0, 0), (1, 0), (2, 0), (3, 0), (4, 0), (5, 0), (6, 0), (7, 0), (8, 0), (9, 0), (10, 0)] [] 0
              [⟨[(24, .ptr (.loc 0 0) 0), (25, .sl 73 .ro (a0.Choices.map pv73)), (26, .int .i64 v92), (27, .ep 73 .ro (a0.Choices.map pv73) (v92 : Int).toNat 0), (28, .agg [.str x165.Role, .sl 71 .ro (x165.Set.map (PV.int .u64)), .int .u64 x165.Device]), (29, .ptr (.loc 0 0) 0), (30, .sl 73 .ro (a0.Choices.map pv73)), (31, .int .i64 v151), (32, .ep 73 .ro (a0.Choices.map pv73) (v151 : Int).toNat 0), (33, .agg [.str x166.Role, .sl 71 .ro (x166.Set.map (PV.int .u64)), .int .u64 x166.Device]), (34, .bool y167), (1, .ptr (.loc 0 0) 0), (3, .int .i64 v92), (4, .int .i64 v151)], [], [((.loc 0 0), [.sl 73 .ro (a0.Choices.map pv73)])]⟩]
              [(1, .ptr (.loc 0 0) 0), (3, .int .i64 v92), (4, .int .i64 v151)]
              (.cons [1] [] (fun _ _ h => .val (h _)) rfl rfl <|
              .cons [24] [] (fun _ _ h => .val (h _)) rfl rfl <|
              .cons [3] [] (fun _ _ h => .move (h _)) rfl rfl <|
              .cons [25, 26] [] (fun _ _ h => .idxL (f := pv73) hx165 (h _)) rfl rfl <|
              .cons [27] [] (fun _ _ h => .ldL hx165 (h _)) rfl rfl <|
              .cons [1] [] (fun _ _ h => .val (h _)) rfl rfl <|
              .cons [29] [] (fun _ _ h => .val (h _)) rfl rfl <|
              .cons [4] [] (fun _ _ h => .move (h _)) rfl rfl <|
              .cons [30, 31] [] (fun _ _ h => .idxL (f := pv73) hx166 (h _)) rfl rfl <|
              .cons [32] [] (fun _ _ h => .ldL hx166 (h _)) rfl rfl <|
              .cons [28, 33] [] (fun _ _ h => .cP (g85 hy167) (h _)) rfl rfl <|
              .nil)
              (.nil)
              (by kernel_rfl) rfl (.cons rfl (.cons rfl (.cons rfl (.nil)))) (.nil) (.cons rfl (.nil)) ?_
            refine .imp (T := St.of [(1, .ptr (.loc 0 0) 0), (3, .int .i64 v92), (4, .int .i64 v151), (34, .bool y167)] [((.loc 0 0), [.sl 73 .ro (a0.Choices.map pv73)])]) (imp_of (.cons rfl (.cons rfl (.cons rfl (.cons rfl (.nil))))) (.cons rfl (.nil))) ?_
            refine .cond (fun hc168 => ?_) (fun hc168 => ?_)
            · replace h := (if_pos hc168).symm.trans h
              refine .seq ?_
              refine .region ?_
              refine .assign ?_
              refine .nil ?_
              cases h
              exact .ret (fin_gen0 none)
            · replace h := (if_neg (nt hc168)).symm.trans h
              refine .skip ?_
              refine .region ?_
              refine .move ?_
              refine .val ?_
              refine .assign ?_
              refine .nil ?_
              exact ⟨m158, _, Nat.lt_succ_self m158, ⟨_, rfl, h⟩, (imp_of (.cons rfl (.cons rfl (.cons rfl (.nil)))) (.cons rfl (.nil)))⟩
          · replace h := (if_neg (nt hc160)).symm.trans h
            refine .exit (.hit ?_)
            exact ⟨_, ⟨rfl, h⟩, (imp_of (.cons rfl (.cons rfl (.nil))) (.cons rfl (.nil)))⟩
      · rintro T ⟨rfl, h⟩
        subst hj139
        refine .region ?_
        refine .move ?_
        refine .val ?_
        refine .assign ?_
        refine .nil ?_
        exact ⟨m116, _, Nat.lt_succ_self m116, ⟨_, rfl, h⟩, (imp_of (.cons rfl (.cons rfl (.nil))) (.cons rfl (.nil)))⟩
    · replace h := (if_neg (nt hc118)).symm.trans h
      refine .exit (.hit ?_)
      exact ⟨_, ⟨rfl, h⟩, (imp_of (.cons rfl (.nil)) (.cons rfl (.nil)))⟩
  · rintro T ⟨rfl, h⟩
    subst hj69
    refine .seq ?_
    refine .region ?_
    refine .val ?_
    refine .val ?_
    refine .lenL (f := pv73) ?_
    refine .val ?_
    refine .assign ?_
    refine .nil ?_
    cases h
    exact .ret (fin_gen0 none)

/- soundservice/soundserviceref30.Remember -/
def f48_l1 (n : Nat) (a0 : Memory) (a1 : Choose) (j46 : (List Choose) → Option (Memory × Int)) : Nat → (List Choose) → Int → Option (Memory × Int)
  | 0, _, _ => none
  | m73 + 1, v58, v60 =>
    if decide (v60 < (a0.Choices.length : Int)) then (
    joinK (fun (v81 : (List Choose)) =>
    f48_l1 n a0 a1 j46 m73 v81 (w64 (v60 + (1 : Int)))) fun j83 =>
    (lAt a0.Choices v60).bind fun x84 =>
    (f85 n x84 (⟨a1.Role, a1.Set, a1.Device⟩ : Choose)).bind fun y85 =>
    if !y85 then (
    (lAt a0.Choices v60).bind fun x87 =>
    (lApp v58 ([x87] : List Choose)).bind fun x88 =>
    j83 x88)
    else (
    j83 v58))
    else (
    j46 v58)
def f48 (n : Nat) (a0 : Memory) (a1 : Choose) : Option (Memory × Int) :=
  (f46 n (⟨a0.Choices⟩ : Memory)).bind fun y3 =>
  if !y3 then (
  some ((⟨([] : List Choose)⟩ : Memory), 1))
  else (
  (f84 n (⟨a1.Role, a1.Set, a1.Device⟩ : Choose)).bind fun y7 =>
  if !y7 then (
  some ((⟨([] : List Choose)⟩ : Memory), 2))
  else (
  joinK (fun (v44 : (List Choose)) =>
  (lApp ([] : List Int) a1.Set).bind fun x90 =>
  (lApp v44 ([(⟨a1.Role, x90, a1.Device⟩ : Choose)] : List Choose)).bind fun x91 =>
  (lPart x91 (iMax (0 : Int) (w64 ((x91.length : Int) - (32 : Int)))) (x91.length : Int)).bind fun x92 =>
  some ((⟨x92⟩ : Memory), 0)) fun j46 =>
  f48_l1 n a0 a1 j46 n ([] : List Choose) 0))
set_option maxHeartbeats 4000000 in
set_option maxRecDepth 100000 in
theorem g48 {n : Nat} {a0 : Memory} {a1 : Choose} {r : (Memory × Int)} (h : f48 n a0 a1 = some r) :
    Ab.Can Try.prog 48 [.agg [.sl 73 .ro (a0.Choices.map pv73)], .agg [.str a1.Role, .sl 71 .ro (a1.Set.map (PV.int .u64)), .int .u64 a1.Device]] H0 (.tup [.agg [.sl 73 .ro (r.1.Choices.map pv73)], .int .i64 r.2]) H0 := by
  refine can_of tabOK mix Try.call48 Try.func48 rfl (by kernel_rfl) (by show _ ≤ 55; simp) fun _ => ?_
  rw [f48] at h
  refine .seq ?_
  refine .region ?_
  refine .boxL (cs := [.sl 73 .ro (a0.Choices.map pv73)]) ?_
  refine .boxL (cs := [.str a1.Role, .sl 71 .ro (a1.Set.map (PV.int .u64)), .int .u64 a1.Device]) ?_
  refine .allocL (cs := [.sl 73 .full []]) ?_
  refine .assign ?_
  refine .nil ?_
  refine .seq ?_
  refine .seq ?_
  refine .region ?_
  refine .val (v := .agg [.sl 73 .ro (a0.Choices.map pv73)]) ?_
  obtain ⟨y3, hy3, h⟩ := bindE h
  refine .cP (g46 hy3) ?_
  refine .val ?_
  refine .nil ?_
  refine .cond (fun hc4 => ?_) (fun hc4 => ?_)
  · replace h := (if_pos hc4).symm.trans h
    refine .seq ?_
    refine .region ?_
    refine .buildL (cs := [.sl 73 .full []]) ?_
    refine .wrL (cs := [.sl 73 .full []]) ?_
    refine .assign ?_
    refine .nil ?_
    cases h
    refine .imp (Imp.cell (.loc 0 2) (ds := [.sl 73 .ro (([] : List Choose).map pv73)]) (.cons (.ro _ _) rfl (.nil)) rfl) ?_
    exact .ret (fin_gen0 none)
  · replace h := (if_neg (nt hc4)).symm.trans h
    refine .skip ?_
    refine .seq ?_
    refine .seq ?_
    refine .region ?_
    refine .val (v := .agg [.str a1.Role, .sl 71 .ro (a1.Set.map (PV.int .u64)), .int .u64 a1.Device]) ?_
    obtain ⟨y7, hy7, h⟩ := bindE h
    refine .cP (g84 hy7) ?_
    refine .val ?_
    refine .nil ?_
    refine .cond (fun hc8 => ?_) (fun hc8 => ?_)
    · replace h := (if_pos hc8).symm.trans h
      refine .seq ?_
      refine .region ?_
      refine .buildL (cs := [.sl 73 .full []]) ?_
      refine .wrL (cs := [.sl 73 .full []]) ?_
      refine .assign ?_
      refine .nil ?_
      cases h
      refine .imp (Imp.cell (.loc 0 2) (ds := [.sl 73 .ro (([] : List Choose).map pv73)]) (.cons (.ro _ _) rfl (.nil)) rfl) ?_
      exact .ret (fin_gen0 none)
    · replace h := (if_neg (nt hc8)).symm.trans h
      refine .skip ?_
      refine .seq ?_
      refine .region ?_
      refine .assign ?_
      refine .nil ?_
      obtain ⟨j46, hj46, h⟩ := joinE h
      refine .cutI (fun T => (∃ (v44 : (List Choose)), T = St.of [(3, .ptr (.loc 0 1) 0), (4, .ptr (.loc 0 2) 0), (6, .sl 73 (.own (.row 9045 0)) (v44.map pv73))] [((.loc 0 1), [.str a1.Role, .sl 71 .ro (a1.Set.map (PV.int .u64)), .int .u64 a1.Device]), ((.loc 0 2), [.sl 73 .full []])] ∧ j46 v44 = some r)) ?_ ?_
      · refine .seq ?_
        refine .region ?_
        refine .assign ?_
        refine .nil ?_
        refine .block ?_
        refine .loopI (fun m T => ∃ (v58 : (List Choose)) (v60 : Int), T = St.of [(2, .ptr (.loc 0 0) 0), (3, .ptr (.loc 0 1) 0), (4, .ptr (.loc 0 2) 0), (6, .sl 73 (.own (.row 9059 0)) (v58.map pv73)), (7, .int .i64 v60)] [((.loc 0 0), [.sl 73 .ro (a0.Choices.map pv73)]), ((.loc 0 1), [.str a1.Role, .sl 71 .ro (a1.Set.map (PV.int .u64)), .int .u64 a1.Device]), ((.loc 0 2), [.sl 73 .full []])] ∧ f48_l1 n a0 a1 j46 m v58 v60 = some r) _ _ ⟨_, _, rfl, h⟩ (imp_of (.cons rfl (.cons rfl (.cons rfl (.wk (.own _ _) rfl (.cons rfl (.nil)))))) (.cons rfl (.cons rfl (.cons rfl (.nil))))) ?_
        rintro m73 T ⟨v58, v60, rfl, h⟩
        obtain _ | m73 := m73
        · rw [f48_l1] at h; cases h
        rw [f48_l1] at h
        refine .seq ?_
        refine .seq ?_
        refine .region ?_
        refine .move ?_
        refine .val ?_
        refine .val ?_
        refine .lenL (f := pv73) ?_
        refine .val ?_
        refine .nil ?_
        refine .cond (fun hc75 => ?_) (fun hc75 => ?_)
        · replace h := (if_pos hc75).symm.trans h
          refine .skip ?_
          obtain ⟨j83, hj83, h⟩ := joinE h
          refine .cutI (fun T => (∃ (v81 : (List Choose)), T = St.of [(2, .ptr (.loc 0 0) 0), (3, .ptr (.loc 0 1) 0), (4, .ptr (.loc 0 2) 0), (6, .sl 73 (.own (.row 9082 0)) (v81.map pv73)), (7, .int .i64 v60)] [((.loc 0 0), [.sl 73 .ro (a0.Choices.map pv73)]), ((.loc 0 1), [.str a1.Role, .sl 71 .ro (a1.Set.map (PV.int .u64)), .int .u64 a1.Device]), ((.loc 0 2), [.sl 73 .full []])] ∧ j83 v81 = some r)) ?_ ?_
          · refine .block ?_
            refine .seq ?_
            obtain ⟨x84, hx84, h⟩ := bindE h
            obtain ⟨y85, hy85, h⟩ := bindE h
            refine .draw [] [[], [], [], [], [], [], [], []] [[], [], [], [], [], [], [], []] [[]]
              [(0, 0), (1, 0), (2, 0), (3, 0), (4, 0), (5, 0), (6, 0), (7, 0)] [] 0
              [⟨[(23, .ptr (.loc 0 0) 0), (24, .sl 73 .ro (a0.Choices.map pv73)), (25, .int .i64 v60), (26, .ep 73 .ro (a0.Choices.map pv73) (v60 : Int).toNat 0), (27, .agg [.str x84.Role, .sl 71 .ro (x84.Set.map (PV.int .u64)), .int .u64 x84.Device]), (28, .agg [.str a1.Role, .sl 71 .ro (a1.Set.map (PV.int .u64)), .int .u64 a1.Device]), (29, .bool y85), (30, .bool (!y85)), (2, .ptr (.loc 0 0) 0), (3, .ptr (.loc 0 1) 0), (4, .ptr (.loc 0 2) 0), (6, .sl 73 (.own (.row 9059 0)) (v58.map pv73)), (7, .int .i64 v60)], [], [((.loc 0 0), [.sl 73 .ro (a0.Choices.map pv73)]), ((.loc 0 1), [.str a1.Role, .sl 71 .ro (a1.Set.map (PV.int .u64)), .int .u64 a1.Device]), ((.loc 0 2), [.sl 73 .full []])]⟩]
              [(2, .ptr (.loc 0 0) 0), (3, .ptr (.loc 0 1) 0), (4, .ptr (.loc 0 2) 0), (6, .sl 73 (.own (.row 9059 0)) (v58.map pv73)), (7, .int .i64 v60)]
              (.cons [2] [] (fun _ _ h => .val (h _)) rfl rfl <|
              .cons [23] [] (fun _ _ h => .val (h _)) rfl rfl <|
              .cons [7] [] (fun _ _ h => .move (h _)) rfl rfl <|
              .cons [24, 25] [] (fun _ _ h => .idxL (f := pv73) hx84 (h _)) rfl rfl <|
              .cons [26] [] (fun _ _ h => .ldL hx84 (h _)) rfl rfl <|
              .cons [3] [] (fun _ _ h => .val (h _)) rfl rfl <|
              .cons [27, 28] [] (fun _ _ h => .cP (g85 hy85) (h _)) rfl rfl <|
              .cons [29] [] (fun _ _ h => .val (h _)) rfl rfl <|
              .nil)
              (.nil)
              (by kernel_rfl) rfl (.cons rfl (.cons rfl (.cons rfl (.cons rfl (.cons rfl (.nil)))))) (.nil) (.cons rfl (.cons rfl (.cons rfl (.nil)))) ?_
            refine .imp (T := St.of [(2, .ptr (.loc 0 0) 0), (3, .ptr (.loc 0 1) 0), (4, .ptr (.loc 0 2) 0), (6, .sl 73 (.own (.row 9059 0)) (v58.map pv73)), (7, .int .i64 v60), (30, .bool (!y85))] [((.loc 0 0), [.sl 73 .ro (a0.Choices.map pv73)]), ((.loc 0 1), [.str a1.Role, .sl 71 .ro (a1.Set.map (PV.int .u64)), .int .u64 a1.Device]), ((.loc 0 2), [.sl 73 .full []])]) (imp_of (.cons rfl (.cons rfl (.cons rfl (.cons rfl (.cons rfl (.cons rfl (.nil))))))) (.cons rfl (.cons rfl (.cons rfl (.nil))))) ?_
            refine .cond (fun hc86 => ?_) (fun hc86 => ?_)
            · replace h := (if_pos hc86).symm.trans h
              refine .region ?_
              refine .move ?_
              refine .val ?_
              refine .val ?_
              refine .move ?_
              obtain ⟨x87, hx87, h⟩ := bindE h
              refine .idxL (f := pv73) hx87 ?_
              refine .ldL hx87 (y := .agg [.str x87.Role, .sl 71 .ro (x87.Set.map (PV.int .u64)), .int .u64 x87.Device]) ?_
              refine .litR (f := pv73) ([x87] : List Choose) ?_
              obtain ⟨x88, hx88, h⟩ := bindE h
              refine .appL (f := pv73) hx88 ?_
              refine .assign ?_
              refine .nil ?_
              exact ⟨_, ⟨_, rfl, h⟩, (Imp.trans (Imp.swap (.row 10 7) (.row 9082 0) rfl rfl rfl) (imp_of (.cons rfl (.cons rfl (.cons rfl (.cons rfl (.cons rfl (.nil)))))) (.cons rfl (.cons rfl (.cons rfl (.nil))))))⟩
            · replace h := (if_neg (nt hc86)).symm.trans h
              refine .skip ?_
              exact ⟨_, ⟨_, rfl, h⟩, (Imp.trans (Imp.swap (.row 9059 0) (.row 9082 0) rfl rfl rfl) (imp_of (.cons rfl (.cons rfl (.cons rfl (.cons rfl (.cons rfl (.nil)))))) (.cons rfl (.cons rfl (.cons rfl (.nil))))))⟩
          · rintro T ⟨v81, rfl, h⟩
            subst hj83
            refine .region ?_
            refine .move ?_
            refine .val ?_
            refine .assign ?_
            refine .nil ?_
            exact ⟨m73, _, Nat.lt_succ_self m73, ⟨_, _, rfl, h⟩, (Imp.trans (Imp.swap (.row 9082 0) (.row 9059 0) rfl rfl rfl) (imp_of (.cons rfl (.cons rfl (.cons rfl (.cons rfl (.cons rfl (.nil)))))) (.cons rfl (.cons rfl (.cons rfl (.nil))))))⟩
        · replace h := (if_neg (nt hc75)).symm.trans h
          refine .exit (.hit ?_)
          exact ⟨_, ⟨_, rfl, h⟩, (Imp.trans (Imp.swap (.row 9059 0) (.row 9045 0) rfl rfl rfl) (imp_of (.cons rfl (.cons rfl (.cons rfl (.nil)))) (.cons rfl (.cons rfl (.nil)))))⟩
      · rintro T ⟨v44, rfl, h⟩
        subst hj46
        refine .seq ?_
        refine .region ?_
        refine .litE (.row 8089 0) ?_
        refine .val ?_
        refine .val ?_
        obtain ⟨x90, hx90, h⟩ := bindE h
        refine .appL (f := (PV.int .u64)) hx90 ?_
        refine .val ?_
        refine .wrL (cs := [.str a1.Role, .sl 71 (.own (.row 11 3)) (x90.map (PV.int .u64)), .int .u64 a1.Device]) ?_
        refine .nil ?_
        refine .seq ?_
        refine .region ?_
        refine .move ?_
        refine .val (v := .agg [.str a1.Role, .sl 71 (.own (.row 11 3)) (x90.map (PV.int .u64)), .int .u64 a1.Device]) ?_
        refine .freeze (.row 11 3) ?_
        refine .litR (f := pv73) ([(⟨a1.Role, x90, a1.Device⟩ : Choose)] : List Choose) ?_
        obtain ⟨x91, hx91, h⟩ := bindE h
        refine .appL (f := pv73) hx91 ?_
        refine .assign ?_
        refine .nil ?_
        refine .imp (T := St.of [(4, .ptr (.loc 0 2) 0), (6, .sl 73 (.own (.row 12 3)) (x91.map pv73))] [((.loc 0 2), [.sl 73 .full []])]) (imp_of (.cons rfl (.cons rfl (.nil))) (.cons rfl (.nil))) ?_
        refine .seq ?_
        refine .region ?_
        refine .move ?_
        refine .move ?_
        refine .lenL (f := pv73) ?_
        refine .val ?_
        refine .maxL ?_
        obtain ⟨x92, hx92, h⟩ := bindE h
        refine .freeze (.row 12 3) ?_
        refine .partE (f := pv73) hx92 ?_
        refine .buildL (cs := [.sl 73 .ro (x92.map pv73)]) ?_
        refine .wrL (cs := [.sl 73 .ro (x92.map pv73)]) ?_
        refine .assign ?_
        refine .nil ?_
        cases h
        exact .ret (fin_gen0 none)

/- soundservice/soundservicemill.Memory -/
def f43_l1 (n : Nat) (j22 : (List Choose) → (List Int) → Int → Option (Memory × Deck)) : Nat → (List Choose) → (List Int) → Int → Int → Option (Memory × Deck)
  | 0, _, _, _, _ => none
  | m38 + 1, v27, v28, v29, v30 =>
    if decide (v30 > (0 : Int)) then (
    (f44 n (⟨v28, v29⟩ : Deck)).bind fun y43 =>
    (f48 n (⟨v27⟩ : Memory) y43.1).bind fun y44 =>
    f43_l1 n j22 m38 y44.1.Choices y43.2.L y43.2.At (w64 (v30 - (1 : Int))))
    else (
    j22 v27 v28 v29)
def f43 (n : Nat) (a0 : Deck) : Option (Memory × Deck) :=
  joinK (fun (v19 : (List Choose)) (v20 : (List Int)) (v21 : Int) =>
  some ((⟨v19⟩ : Memory), (⟨v20, v21⟩ : Deck))) fun j22 =>
  (f79 n (⟨a0.L, a0.At⟩ : Deck) (7 : Int)).bind fun y23 =>
  f43_l1 n j22 n ([] : List Choose) y23.2.L y23.2.At y23.1
set_option maxHeartbeats 4000000 in
set_option maxRecDepth 100000 in
theorem g43 {n : Nat} {a0 : Deck} {r : (Memory × Deck)} (h : f43 n a0 = some r) :
    Ab.Can Try.prog 43 [.ptr (.par 0) 0] (lookH [(.par 0, [.sl 3 .ro (a0.L.map (PV.int .i64)), .int .i64 a0.At])]) (.agg [.sl 73 .ro (r.1.Choices.map pv73)]) (lookH [(.par 0, [.sl 3 .ro (r.2.L.map (PV.int .i64)), .int .i64 r.2.At])]) := by
  refine can_of tabOK mix Try.call43 Try.func43 rfl (by kernel_rfl) (by show _ ≤ 19; simp) fun _ => ?_
  rw [f43] at h
  refine .seq ?_
  refine .region ?_
  refine .allocL (cs := [.sl 73 .full []]) ?_
  refine .nil ?_
  refine .seq ?_
  refine .region ?_
  refine .allocL (cs := [.sl 73 .full []]) ?_
  refine .nil ?_
  obtain ⟨j22, hj22, h⟩ := joinE h
  refine .cutI (fun T => (∃ (v19 : (List Choose)) (v20 : (List Int)) (v21 : Int), T = St.of [(2, .ptr (.loc 0 0) 0), (3, .ptr (.loc 1 0) 0)] [((.loc 0 0), [.sl 73 .full []]), ((.loc 1 0), [.sl 73 .ro (v19.map pv73)]), ((.par 0), [.sl 3 .ro (v20.map (PV.int .i64)), .int .i64 v21])] ∧ j22 v19 v20 v21 = some r)) ?_ ?_
  · refine .seq ?_
    refine .region ?_
    refine .move ?_
    obtain ⟨y23, hy23, h⟩ := bindE h
    refine .cH (.par 0) (g79 hy23) ?_
    refine .assign ?_
    refine .nil ?_
    refine .block ?_
    refine .loopI (fun m T => ∃ (v27 : (List Choose)) (v28 : (List Int)) (v29 : Int) (v30 : Int), T = St.of [(0, .ptr (.par 0) 0), (2, .ptr (.loc 0 0) 0), (3, .ptr (.loc 1 0) 0), (4, .int .i64 v30)] [((.loc 0 0), [.sl 73 .full []]), ((.loc 1 0), [.sl 73 .ro (v27.map pv73)]), ((.par 0), [.sl 3 .ro (v28.map (PV.int .i64)), .int .i64 v29])] ∧ f43_l1 n j22 m v27 v28 v29 v30 = some r) _ _ ⟨_, _, _, _, rfl, h⟩ (imp_of (.cons rfl (.cons rfl (.cons rfl (.cons rfl (.nil))))) (.cons rfl (.wk (.cons (.ro _ _) rfl (.nil)) rfl (.cons rfl (.nil))))) ?_
    rintro m38 T ⟨v27, v28, v29, v30, rfl, h⟩
    obtain _ | m38 := m38
    · rw [f43_l1] at h; cases h
    rw [f43_l1] at h
    refine .seq ?_
    refine .seq ?_
    refine .region ?_
    refine .move ?_
    refine .val ?_
    refine .nil ?_
    refine .cond (fun hc40 => ?_) (fun hc40 => ?_)
    · replace h := (if_pos hc40).symm.trans h
      refine .skip ?_
      refine .seq ?_
      refine .block ?_
      obtain ⟨y43, hy43, h⟩ := bindE h
      obtain ⟨y44, hy44, h⟩ := bindE h
      refine .draw [2, 7] [[], [], [], [2], [2], [2], [2], [2]] [[7], [2, 7], [7], [7], [7], [7], [], []] [[], [2], [2, 7]]
        [(0, 0), (0, 1), (1, 0), (3, 1), (4, 1), (5, 1), (6, 1), (6, 2)] [(0, 2, 1), (1, 7, 2)] 2
        [⟨[(12, .agg [.sl 73 .ro (v27.map pv73)]), (13, .ptr (.par 0) 0), (0, .ptr (.par 0) 0), (2, .ptr (.loc 0 0) 0), (3, .ptr (.loc 1 0) 0), (4, .int .i64 v30)], [], [((.loc 0 0), [.sl 73 .full []]), ((.loc 1 0), [.sl 73 .ro (v27.map pv73)]), ((.par 0), [.sl 3 .ro (v28.map (PV.int .i64)), .int .i64 v29])]⟩,
        ⟨[(12, .agg [.sl 73 .ro (v27.map pv73)]), (13, .ptr (.par 0) 0), (14, .agg [.str y43.1.Role, .sl 71 .ro (y43.1.Set.map (PV.int .u64)), .int .u64 y43.1.Device]), (15, .tup [.agg [.sl 73 .ro (y44.1.Choices.map pv73)], .int .i64 y44.2]), (11, .tup [.agg [.sl 73 .ro (y44.1.Choices.map pv73)], .int .i64 y44.2]), (16, .agg [.sl 73 .ro (y44.1.Choices.map pv73)]), (17, .int .i64 y44.2), (0, .ptr (.par 0) 0), (2, .ptr (.loc 0 0) 0), (3, .ptr (.loc 1 0) 0), (4, .int .i64 v30)], [], [((.loc 0 0), [.sl 73 .full []]), ((.loc 1 0), [.sl 73 .ro (v27.map pv73)]), ((.par 0), [.sl 3 .ro (y43.2.L.map (PV.int .i64)), .int .i64 y43.2.At])]⟩,
        ⟨[(12, .agg [.sl 73 .ro (v27.map pv73)]), (13, .ptr (.par 0) 0), (14, .agg [.str y43.1.Role, .sl 71 .ro (y43.1.Set.map (PV.int .u64)), .int .u64 y43.1.Device]), (15, .tup [.agg [.sl 73 .ro (y44.1.Choices.map pv73)], .int .i64 y44.2]), (11, .tup [.agg [.sl 73 .ro (y44.1.Choices.map pv73)], .int .i64 y44.2]), (16, .agg [.sl 73 .ro (y44.1.Choices.map pv73)]), (17, .int .i64 y44.2), (0, .ptr (.par 0) 0), (2, .ptr (.loc 0 0) 0), (3, .ptr (.loc 1 0) 0), (4, .int .i64 v30)], [], [((.loc 0 0), [.sl 73 .full []]), ((.loc 1 0), [.sl 73 .ro (y44.1.Choices.map pv73)]), ((.par 0), [.sl 3 .ro (y43.2.L.map (PV.int .i64)), .int .i64 y43.2.At])]⟩]
        [(0, .ptr (.par 0) 0), (2, .ptr (.loc 0 0) 0), (3, .ptr (.loc 1 0) 0), (4, .int .i64 v30)]
        (.cons [3] [] (fun _ _ h => .val (h _)) rfl rfl <|
        .cons [3] [] (fun _ _ h => .val (h _)) rfl rfl <|
        .cons [0] [] (fun _ _ h => .move (h _)) rfl rfl <|
        .cons [12, 14] [] (fun _ _ h => .cP (g48 hy44) (h _)) rfl rfl <|
        .cons [15] [] (fun _ _ h => .move (h _)) rfl rfl <|
        .cons [11] [] (fun _ _ h => .val (h _)) rfl rfl <|
        .cons [11] [] (fun _ _ h => .val (h _)) rfl rfl <|
        .cons [11] [] (fun _ _ h => .val (h _)) rfl rfl <|
        .nil)
        (.cons (fun x => x) [13] [] (fun _ _ h => .cH (.par 0) (g44 hy43) (h _ _ (.cons rfl (.cons rfl (.cons rfl (.nil)))))) rfl (.old rfl (.old rfl (.new rfl (.new rfl (.new rfl (.new rfl (.new rfl (.old rfl (.old rfl (.old rfl (.old rfl (.nil)))))))))))) rfl rfl <|
        .cons (fun x => x) [3, 16] [] (fun _ _ h => .wrL (cs := [.sl 73 .ro (y44.1.Choices.map pv73)]) (h _ _ (.cons rfl (.cons rfl (.cons rfl (.nil)))))) rfl (.old rfl (.old rfl (.old rfl (.old rfl (.old rfl (.old rfl (.old rfl (.old rfl (.old rfl (.old rfl (.old rfl (.nil)))))))))))) rfl rfl <|
        .nil)
        (by kernel_rfl) rfl (.cons rfl (.cons rfl (.cons rfl (.cons rfl (.nil))))) (.nil) (.cons rfl (.cons rfl (.cons rfl (.nil)))) ?_
      refine .imp (T := St.of [(0, .ptr (.par 0) 0), (2, .ptr (.loc 0 0) 0), (3, .ptr (.loc 1 0) 0), (4, .int .i64 v30)] [((.loc 0 0), [.sl 73 .full []]), ((.loc 1 0), [.sl 73 .ro (y44.1.Choices.map pv73)]), ((.par 0), [.sl 3 .ro (y43.2.L.map (PV.int .i64)), .int .i64 y43.2.At])]) (imp_of (.cons rfl (.cons rfl (.cons rfl (.cons rfl (.nil))))) (.cons rfl (.cons rfl (.cons rfl (.nil))))) ?_
      refine .region ?_
      refine .move ?_
      refine .val ?_
      refine .assign ?_
      refine .nil ?_
      exact ⟨m38, _, Nat.lt_succ_self m38, ⟨_, _, _, _, rfl, h⟩, (imp_of (.cons rfl (.cons rfl (.cons rfl (.cons rfl (.nil))))) (.cons rfl (.cons rfl (.cons rfl (.nil)))))⟩
    · replace h := (if_neg (nt hc40)).symm.trans h
      refine .exit (.hit ?_)
      exact ⟨_, ⟨_, _, _, rfl, h⟩, (imp_of (.cons rfl (.cons rfl (.nil))) (.cons rfl (.cons rfl (.cons rfl (.nil)))))⟩
  · rintro T ⟨v19, v20, v21, rfl, h⟩
    subst hj22
    refine .seq ?_
    refine .region ?_
    refine .val (v := .agg [.sl 73 .ro (v19.map pv73)]) ?_
    refine .wrL (cs := [.sl 73 .ro (v19.map pv73)]) ?_
    refine .nil ?_
    cases h
    exact .ret (fin_gen none (.par .nil))

/- soundservice/soundserviceref30.SameSet -/
def f89_l1 (n : Nat) (a0 : (List Int)) (a1 : (List Int)) (j17 : Unit → Option Bool) : Nat → Int → Option Bool
  | 0, _ => none
  | m28 + 1, v22 =>
    if decide (v22 < (a0.length : Int)) then (
    (lAt a0 v22).bind fun x34 =>
    (lAt a1 v22).bind fun x35 =>
    if (x34 != x35) then (
    some false)
    else (
    f89_l1 n a0 a1 j17 m28 (w64 (v22 + (1 : Int)))))
    else (
    j17 ())
def f89 (n : Nat) (a0 : (List Int)) (a1 : (List Int)) : Option Bool :=
  if ((a0.length : Int) != (a1.length : Int)) then (
  some false)
  else (
  joinK (fun (_ : Unit) =>
  some true) fun j17 =>
  f89_l1 n a0 a1 j17 n 0)
set_option maxHeartbeats 4000000 in
set_option maxRecDepth 100000 in
theorem g89 {n : Nat} {a0 : (List Int)} {a1 : (List Int)} {r : Bool} (h : f89 n a0 a1 = some r) :
    Ab.Can Try.prog 89 [.sl 71 .ro (a0.map (PV.int .u64)), .sl 71 .ro (a1.map (PV.int .u64))] H0 (.bool r) H0 := by
  refine can_of tabOK mix Try.call89 Try.func89 rfl (by kernel_rfl) (by show _ ≤ 26; simp) fun _ => ?_
  rw [f89] at h
  refine .seq ?_
  refine .region ?_
  refine .assign ?_
  refine .nil ?_
  refine .seq ?_
  refine .seq ?_
  refine .region ?_
  refine .move ?_
  refine .lenL (f := (PV.int .u64)) ?_
  refine .move ?_
  refine .lenL (f := (PV.int .u64)) ?_
  refine .val ?_
  refine .nil ?_
  refine .cond (fun hc2 => ?_) (fun hc2 => ?_)
  · replace h := (if_pos hc2).symm.trans h
    refine .seq ?_
    refine .region ?_
    refine .assign ?_
    refine .nil ?_
    cases h
    exact .ret (fin_gen0 none)
  · replace h := (if_neg (nt hc2)).symm.trans h
    refine .skip ?_
    obtain ⟨j17, hj17, h⟩ := joinE h
    refine .cutI (fun T => (T = St.of [] [] ∧ j17 () = some r)) ?_ ?_
    · refine .seq ?_
      refine .region ?_
      refine .assign ?_
      refine .nil ?_
      refine .block ?_
      refine .loopI (fun m T => ∃ (v22 : Int), T = St.of [(0, .sl 71 .ro (a0.map (PV.int .u64))), (1, .sl 71 .ro (a1.map (PV.int .u64))), (5, .int .i64 v22)] [] ∧ f89_l1 n a0 a1 j17 m v22 = some r) _ _ ⟨_, rfl, h⟩ (imp_of (.cons rfl (.cons rfl (.cons rfl (.nil)))) (.nil)) ?_
      rintro m28 T ⟨v22, rfl, h⟩
      obtain _ | m28 := m28
      · rw [f89_l1] at h; cases h
      rw [f89_l1] at h
      refine .seq ?_
      refine .seq ?_
      refine .region ?_
      refine .move ?_
      refine .move ?_
      refine .lenL (f := (PV.int .u64)) ?_
      refine .val ?_
      refine .nil ?_
      refine .cond (fun hc30 => ?_) (fun hc30 => ?_)
      · replace h := (if_pos hc30).symm.trans h
        refine .skip ?_
        refine .seq ?_
        refine .block ?_
        refine .seq ?_
        obtain ⟨x34, hx34, h⟩ := bindE h
        obtain ⟨x35, hx35, h⟩ := bindE h
        refine .draw [] [[], [], [], [], [], [], [], [], []] [[], [], [], [], [], [], [], [], []] [[]]
          [(0, 0), (1, 0), (2, 0), (3, 0), (4, 0), (5, 0), (6, 0), (7, 0), (8, 0)] [] 0
          [⟨[(17, .sl 71 .ro (a0.map (PV.int .u64))), (18, .int .i64 v22), (19, .ep 71 .ro (a0.map (PV.int .u64)) (v22 : Int).toNat 0), (20, .int .u64 x34), (21, .sl 71 .ro (a1.map (PV.int .u64))), (22, .int .i64 v22), (23, .ep 71 .ro (a1.map (PV.int .u64)) (v22 : Int).toNat 0), (24, .int .u64 x35), (25, .bool (x34 != x35)), (0, .sl 71 .ro (a0.map (PV.int .u64))), (1, .sl 71 .ro (a1.map (PV.int .u64))), (5, .int .i64 v22)], [], []⟩]
          [(0, .sl 71 .ro (a0.map (PV.int .u64))), (1, .sl 71 .ro (a1.map (PV.int .u64))), (5, .int .i64 v22)]
          (.cons [0] [] (fun _ _ h => .move (h _)) rfl rfl <|
          .cons [5] [] (fun _ _ h => .move (h _)) rfl rfl <|
          .cons [17, 18] [] (fun _ _ h => .idxL (f := (PV.int .u64)) hx34 (h _)) rfl rfl <|
          .cons [19] [] (fun _ _ h => .ldL hx34 (h _)) rfl rfl <|
          .cons [1] [] (fun _ _ h => .move (h _)) rfl rfl <|
          .cons [5] [] (fun _ _ h => .move (h _)) rfl rfl <|
          .cons [21, 22] [] (fun _ _ h => .idxL (f := (PV.int .u64)) hx35 (h _)) rfl rfl <|
          .cons [23] [] (fun _ _ h => .ldL hx35 (h _)) rfl rfl <|
          .cons [20, 24] [] (fun _ _ h => .val (h _)) rfl rfl <|
          .nil)
          (.nil)
          (by kernel_rfl) rfl (.cons rfl (.cons rfl (.cons rfl (.nil)))) (.nil) (.nil) ?_
        refine .imp (T := St.of [(0, .sl 71 .ro (a0.map (PV.int .u64))), (1, .sl 71 .ro (a1.map (PV.int .u64))), (5, .int .i64 v22), (25, .bool (x34 != x35))] []) (imp_of (.cons rfl (.cons rfl (.cons rfl (.cons rfl (.nil))))) (.nil)) ?_
        refine .cond (fun hc36 => ?_) (fun hc36 => ?_)
        · replace h := (if_pos hc36).symm.trans h
          refine .seq ?_
          refine .region ?_
          refine .assign ?_
          refine .nil ?_
          cases h
          exact .ret (fin_gen0 none)
        · replace h := (if_neg (nt hc36)).symm.trans h
          refine .skip ?_
          refine .region ?_
          refine .move ?_
          refine .val ?_
          refine .assign ?_
          refine .nil ?_
          exact ⟨m28, _, Nat.lt_succ_self m28, ⟨_, rfl, h⟩, (imp_of (.cons rfl (.cons rfl (.cons rfl (.nil)))) (.nil))⟩
      · replace h := (if_neg (nt hc30)).symm.trans h
        refine .exit (.hit ?_)
        exact ⟨_, ⟨rfl, h⟩, (imp_of (.nil) (.nil))⟩
    · rintro T ⟨rfl, h⟩
      subst hj17
      refine .seq ?_
      refine .region ?_
      refine .assign ?_
      refine .nil ?_
      cases h
      exact .ret (fin_gen0 none)

/- soundservice/soundserviceref30.Same -/
def f49_l1 (n : Nat) (a0 : Memory) (a1 : Memory) (j35 : Unit → Option Bool) : Nat → Int → Option Bool
  | 0, _ => none
  | m58 + 1, v46 =>
    if decide (v46 < (a0.Choices.length : Int)) then (
    (lAt a0.Choices v46).bind fun x70 =>
    (lAt a1.Choices v46).bind fun x71 =>
    joinK (fun (_ : Unit) =>
    some false) fun j75 =>
    joinK (fun (v76 : Bool) =>
    if v76 then (
    some false)
    else (
    f49_l1 n a0 a1 j35 m58 (w64 (v46 + (1 : Int))))) fun j77 =>
    if !(sEq x70.Role x71.Role) then (
    j75 ())
    else (
    if (x70.Device != x71.Device) then (
    j75 ())
    else (
    (f89 n x70.Set x71.Set).bind fun y80 =>
    j77 (!y80))))
    else (
    j35 ())
def f49 (n : Nat) (a0 : Memory) (a1 : Memory) : Option Bool :=
  if ((a0.Choices.length : Int) != (a1.Choices.length : Int)) then (
  some false)
  else (
  joinK (fun (_ : Unit) =>
  some true) fun j35 =>
  f49_l1 n a0 a1 j35 n 0)
set_option maxHeartbeats 4000000 in
set_option maxRecDepth 100000 in
theorem g49 {n : Nat} {a0 : Memory} {a1 : Memory} {r : Bool} (h : f49 n a0 a1 = some r) :
    Ab.Can Try.prog 49 [.agg [.sl 73 .ro (a0.Choices.map pv73)], .agg [.sl 73 .ro (a1.Choices.map pv73)]] H0 (.bool r) H0 := by
  refine can_of tabOK mix Try.call49 Try.func49 rfl (by kernel_rfl) (by show _ ≤ 52; simp) fun _ => ?_
  rw [f49] at h
  refine .seq ?_
  refine .region ?_
  refine .boxL (cs := [.sl 73 .ro (a0.Choices.map pv73)]) ?_
  refine .boxL (cs := [.sl 73 .ro (a1.Choices.map pv73)]) ?_
  refine .assign ?_
  refine .nil ?_
  refine .seq ?_
  refine .seq ?_
  refine .region ?_
  refine .val ?_
  refine .val ?_
  refine .lenL (f := pv73) ?_
  refine .val ?_
  refine .val ?_
  refine .lenL (f := pv73) ?_
  refine .val ?_
  refine .nil ?_
  refine .cond (fun hc2 => ?_) (fun hc2 => ?_)
  · replace h := (if_pos hc2).symm.trans h
    refine .seq ?_
    refine .region ?_
    refine .assign ?_
    refine .nil ?_
    cases h
    exact .ret (fin_gen0 none)
  · replace h := (if_neg (nt hc2)).symm.trans h
    refine .skip ?_
    obtain ⟨j35, hj35, h⟩ := joinE h
    refine .cutI (fun T => (T = St.of [] [] ∧ j35 () = some r)) ?_ ?_
    · refine .seq ?_
      refine .region ?_
      refine .assign ?_
      refine .nil ?_
      refine .block ?_
      refine .loopI (fun m T => ∃ (v46 : Int), T = St.of [(2, .ptr (.loc 0 0) 0), (3, .ptr (.loc 0 1) 0), (5, .int .i64 v46)] [((.loc 0 0), [.sl 73 .ro (a0.Choices.map pv73)]), ((.loc 0 1), [.sl 73 .ro (a1.Choices.map pv73)])] ∧ f49_l1 n a0 a1 j35 m v46 = some r) _ _ ⟨_, rfl, h⟩ (imp_of (.cons rfl (.cons rfl (.cons rfl (.nil)))) (.cons rfl (.cons rfl (.nil)))) ?_
      rintro m58 T ⟨v46, rfl, h⟩
      obtain _ | m58 := m58
      · rw [f49_l1] at h; cases h
      rw [f49_l1] at h
      refine .seq ?_
      refine .seq ?_
      refine .region ?_
      refine .move ?_
      refine .val ?_
      refine .val ?_
      refine .lenL (f := pv73) ?_
      refine .val ?_
      refine .nil ?_
      refine .cond (fun hc60 => ?_) (fun hc60 => ?_)
      · replace h := (if_pos hc60).symm.trans h
        refine .skip ?_
        refine .seq ?_
        refine .block ?_
        refine .seq ?_
        obtain ⟨x70, hx70, h⟩ := bindE h
        obtain ⟨x71, hx71, h⟩ := bindE h
        refine .draw [10, 11, 12, 13] [[], [], [], [], [], [], [], [], [], [], [], [], [10, 11], [10, 11, 12]] [[12, 13], [12, 13], [12, 13], [12, 13], [12, 13], [13], [13], [13], [13], [13], [12, 13], [12, 13], [13], []] [[], [10], [11], [10, 11], [10, 11, 12], [10, 11, 12, 13]]
          [(0, 0), (0, 1), (0, 2), (0, 3), (1, 0), (1, 1), (1, 2), (1, 3), (2, 0), (2, 1), (2, 2), (2, 3), (3, 0), (3, 1), (3, 2), (3, 3), (4, 0), (4, 1), (4, 2), (4, 3), (5, 0), (5, 1), (5, 2), (5, 3), (5, 4), (6, 0), (6, 1), (6, 2), (6, 3), (6, 4), (7, 0), (7, 1), (7, 2), (7, 3), (7, 4), (8, 0), (8, 1), (8, 2), (8, 3), (8, 4), (9, 0), (9, 1), (9, 2), (9, 3), (9, 4)] [(0, 10, 1), (0, 11, 2), (1, 11, 3), (2, 10, 3), (3, 12, 4), (4, 13, 5)] 5
          [⟨[(22, .ptr (.loc 0 0) 0), (23, .sl 73 .ro (a0.Choices.map pv73)), (24, .int .i64 v46), (25, .ep 73 .ro (a0.Choices.map pv73) (v46 : Int).toNat 0), (26, .agg [.str x70.Role, .sl 71 .ro (x70.Set.map (PV.int .u64)), .int .u64 x70.Device]), (27, .ptr (.loc 0 1) 0), (28, .sl 73 .ro (a1.Choices.map pv73)), (29, .int .i64 v46), (30, .ep 73 .ro (a1.Choices.map pv73) (v46 : Int).toNat 0), (31, .agg [.str x71.Role, .sl 71 .ro (x71.Set.map (PV.int .u64)), .int .u64 x71.Device]), (2, .ptr (.loc 0 0) 0), (3, .ptr (.loc 0 1) 0), (5, .int .i64 v46)], [], [((.loc 0 0), [.sl 73 .ro (a0.Choices.map pv73)]), ((.loc 0 1), [.sl 73 .ro (a1.Choices.map pv73)])]⟩,
          ⟨[(22, .ptr (.loc 0 0) 0), (23, .sl 73 .ro (a0.Choices.map pv73)), (24, .int .i64 v46), (25, .ep 73 .ro (a0.Choices.map pv73) (v46 : Int).toNat 0), (26, .agg [.str x70.Role, .sl 71 .ro (x70.Set.map (PV.int .u64)), .int .u64 x70.Device]), (27, .ptr (.loc 0 1) 0), (28, .sl 73 .ro (a1.Choices.map pv73)), (29, .int .i64 v46), (30, .ep 73 .ro (a1.Choices.map pv73) (v46 : Int).toNat 0), (31, .agg [.str x71.Role, .sl 71 .ro (x71.Set.map (PV.int .u64)), .int .u64 x71.Device]), (6, .ptr (.loc 6 10) 0), (2, .ptr (.loc 0 0) 0), (3, .ptr (.loc 0 1) 0), (5, .int .i64 v46)], [], [((.loc 0 0), [.sl 73 .ro (a0.Choices.map pv73)]), ((.loc 0 1), [.sl 73 .ro (a1.Choices.map pv73)]), ((.loc 6 10), [.str (⟨#[]⟩ : ByteArray), .sl 71 .full [], .int .u64 0])]⟩,
          ⟨[(22, .ptr (.loc 0 0) 0), (23, .sl 73 .ro (a0.Choices.map pv73)), (24, .int .i64 v46), (25, .ep 73 .ro (a0.Choices.map pv73) (v46 : Int).toNat 0), (26, .agg [.str x70.Role, .sl 71 .ro (x70.Set.map (PV.int .u64)), .int .u64 x70.Device]), (27, .ptr (.loc 0 1) 0), (28, .sl 73 .ro (a1.Choices.map pv73)), (29, .int .i64 v46), (30, .ep 73 .ro (a1.Choices.map pv73) (v46 : Int).toNat 0), (31, .agg [.str x71.Role, .sl 71 .ro (x71.Set.map (PV.int .u64)), .int .u64 x71.Device]), (7, .ptr (.loc 6 11) 0), (2, .ptr (.loc 0 0) 0), (3, .ptr (.loc 0 1) 0), (5, .int .i64 v46)], [], [((.loc 0 0), [.sl 73 .ro (a0.Choices.map pv73)]), ((.loc 0 1), [.sl 73 .ro (a1.Choices.map pv73)]), ((.loc 6 11), [.str (⟨#[]⟩ : ByteArray), .sl 71 .full [], .int .u64 0])]⟩,
          ⟨[(22, .ptr (.loc 0 0) 0), (23, .sl 73 .ro (a0.Choices.map pv73)), (24, .int .i64 v46), (25, .ep 73 .ro (a0.Choices.map pv73) (v46 : Int).toNat 0), (26, .agg [.str x70.Role, .sl 71 .ro (x70.Set.map (PV.int .u64)), .int .u64 x70.Device]), (27, .ptr (.loc 0 1) 0), (28, .sl 73 .ro (a1.Choices.map pv73)), (29, .int .i64 v46), (30, .ep 73 .ro (a1.Choices.map pv73) (v46 : Int).toNat 0), (31, .agg [.str x71.Role, .sl 71 .ro (x71.Set.map (PV.int .u64)), .int .u64 x71.Device]), (6, .ptr (.loc 6 10) 0), (7, .ptr (.loc 6 11) 0), (2, .ptr (.loc 0 0) 0), (3, .ptr (.loc 0 1) 0), (5, .int .i64 v46)], [], [((.loc 0 0), [.sl 73 .ro (a0.Choices.map pv73)]), ((.loc 0 1), [.sl 73 .ro (a1.Choices.map pv73)]), ((.loc 6 10), [.str (⟨#[]⟩ : ByteArray), .sl 71 .full [], .int .u64 0]), ((.loc 6 11), [.str (⟨#[]⟩ : ByteArray), .sl 71 .full [], .int .u64 0])]⟩,
          ⟨[(22, .ptr (.loc 0 0) 0), (23, .sl 73 .ro (a0.Choices.map pv73)), (24, .int .i64 v46), (25, .ep 73 .ro (a0.Choices.map pv73) (v46 : Int).toNat 0), (26, .agg [.str x70.Role, .sl 71 .ro (x70.Set.map (PV.int .u64)), .int .u64 x70.Device]), (27, .ptr (.loc 0 1) 0), (28, .sl 73 .ro (a1.Choices.map pv73)), (29, .int .i64 v46), (30, .ep 73 .ro (a1.Choices.map pv73) (v46 : Int).toNat 0), (31, .agg [.str x71.Role, .sl 71 .ro (x71.Set.map (PV.int .u64)), .int .u64 x71.Device]), (6, .ptr (.loc 6 10) 0), (7, .ptr (.loc 6 11) 0), (2, .ptr (.loc 0 0) 0), (3, .ptr (.loc 0 1) 0), (5, .int .i64 v46)], [], [((.loc 0 0), [.sl 73 .ro (a0.Choices.map pv73)]), ((.loc 0 1), [.sl 73 .ro (a1.Choices.map pv73)]), ((.loc 6 10), [.str x70.Role, .sl 71 .ro (x70.Set.map (PV.int .u64)), .int .u64 x70.Device]), ((.loc 6 11), [.str (⟨#[]⟩ : ByteArray), .sl 71 .full [], .int .u64 0])]⟩,
          ⟨[(22, .ptr (.loc 0 0) 0), (23, .sl 73 .ro (a0.Choices.map pv73)), (24, .int .i64 v46), (25, .ep 73 .ro (a0.Choices.map pv73) (v46 : Int).toNat 0), (26, .agg [.str x70.Role, .sl 71 .ro (x70.Set.map (PV.int .u64)), .int .u64 x70.Device]), (27, .ptr (.loc 0 1) 0), (28, .sl 73 .ro (a1.Choices.map pv73)), (29, .int .i64 v46), (30, .ep 73 .ro (a1.Choices.map pv73) (v46 : Int).toNat 0), (31, .agg [.str x71.Role, .sl 71 .ro (x71.Set.map (PV.int .u64)), .int .u64 x71.Device]), (6, .ptr (.loc 6 10) 0), (7, .ptr (.loc 6 11) 0), (2, .ptr (.loc 0 0) 0), (3, .ptr (.loc 0 1) 0), (5, .int .i64 v46)], [], [((.loc 0 0), [.sl 73 .ro (a0.Choices.map pv73)]), ((.loc 0 1), [.sl 73 .ro (a1.Choices.map pv73)]), ((.loc 6 10), [.str x70.Role, .sl 71 .ro (x70.Set.map (PV.int .u64)), .int .u64 x70.Device]), ((.loc 6 11), [.str x71.Role, .sl 71 .ro (x71.Set.map (PV.int .u64)), .int .u64 x71.Device])]⟩]
          [(2, .ptr (.loc 0 0) 0), (3, .ptr (.loc 0 1) 0), (5, .int .i64 v46)]
          (.cons [2] [] (fun _ _ h => .val (h _)) rfl rfl <|
          .cons [2] [] (fun _ _ h => .val (h _)) rfl rfl <|
          .cons [2] [] (fun _ _ h => .val (h _)) rfl rfl <|
          .cons [2] [] (fun _ _ h => .val (h _)) rfl rfl <|
          .cons [22] [] (fun _ _ h => .val (h _)) rfl rfl <|
          .cons [22] [] (fun _ _ h => .val (h _)) rfl rfl <|
          .cons [22] [] (fun _ _ h => .val (h _)) rfl rfl <|
          .cons [22] [] (fun _ _ h => .val (h _)) rfl rfl <|
          .cons [5] [] (fun _ _ h => .move (h _)) rfl rfl <|
          .cons [5] [] (fun _ _ h => .move (h _)) rfl rfl <|
          .cons [5] [] (fun _ _ h => .move (h _)) rfl rfl <|
          .cons [5] [] (fun _ _ h => .move (h _)) rfl rfl <|
          .cons [23, 24] [] (fun _ _ h => .idxL (f := pv73) hx70 (h _)) rfl rfl <|
          .cons [23, 24] [] (fun _ _ h => .idxL (f := pv73) hx70 (h _)) rfl rfl <|
          .cons [23, 24] [] (fun _ _ h => .idxL (f := pv73) hx70 (h _)) rfl rfl <|
          .cons [23, 24] [] (fun _ _ h => .idxL (f := pv73) hx70 (h _)) rfl rfl <|
          .cons [25] [] (fun _ _ h => .ldL hx70 (h _)) rfl rfl <|
          .cons [25] [] (fun _ _ h => .ldL hx70 (h _)) rfl rfl <|
          .cons [25] [] (fun _ _ h => .ldL hx70 (h _)) rfl rfl <|
          .cons [25] [] (fun _ _ h => .ldL hx70 (h _)) rfl rfl <|
          .cons [3] [] (fun _ _ h => .val (h _)) rfl rfl <|
          .cons [3] [] (fun _ _ h => .val (h _)) rfl rfl <|
          .cons [3] [] (fun _ _ h => .val (h _)) rfl rfl <|
          .cons [3] [] (fun _ _ h => .val (h _)) rfl rfl <|
          .cons [3] [] (fun _ _ h => .val (h _)) rfl rfl <|
          .cons [27] [] (fun _ _ h => .val (h _)) rfl rfl <|
          .cons [27] [] (fun _ _ h => .val (h _)) rfl rfl <|
          .cons [27] [] (fun _ _ h => .val (h _)) rfl rfl <|
          .cons [27] [] (fun _ _ h => .val (h _)) rfl rfl <|
          .cons [27] [] (fun _ _ h => .val (h _)) rfl rfl <|
          .cons [5] [] (fun _ _ h => .move (h _)) rfl rfl <|
          .cons [5] [] (fun _ _ h => .move (h _)) rfl rfl <|
          .cons [5] [] (fun _ _ h => .move (h _)) rfl rfl <|
          .cons [5] [] (fun _ _ h => .move (h _)) rfl rfl <|
          .cons [5] [] (fun _ _ h => .move (h _)) rfl rfl <|
          .cons [28, 29] [] (fun _ _ h => .idxL (f := pv73) hx71 (h _)) rfl rfl <|
          .cons [28, 29] [] (fun _ _ h => .idxL (f := pv73) hx71 (h _)) rfl rfl <|
          .cons [28, 29] [] (fun _ _ h => .idxL (f := pv73) hx71 (h _)) rfl rfl <|
          .cons [28, 29] [] (fun _ _ h => .idxL (f := pv73) hx71 (h _)) rfl rfl <|
          .cons [28, 29] [] (fun _ _ h => .idxL (f := pv73) hx71 (h _)) rfl rfl <|
          .cons [30] [] (fun _ _ h => .ldL hx71 (h _)) rfl rfl <|
          .cons [30] [] (fun _ _ h => .ldL hx71 (h _)) rfl rfl <|
          .cons [30] [] (fun _ _ h => .ldL hx71 (h _)) rfl rfl <|
          .cons [30] [] (fun _ _ h => .ldL hx71 (h _)) rfl rfl <|
          .cons [30] [] (fun _ _ h => .ldL hx71 (h _)) rfl rfl <|
          .nil)
          (.cons (PV.sub (oneSub (.loc 6 10) .kill)) [] [] (fun _ _ h => .allocL (cs := [.str (⟨#[]⟩ : ByteArray), .sl 71 .full [], .int .u64 0]) (h _ _ (.cons rfl (.cons rfl (.cons rfl (.nil)))))) rfl (.old rfl (.old rfl (.old rfl (.old rfl (.old rfl (.old rfl (.old rfl (.old rfl (.old rfl (.old rfl (.new rfl (.old rfl (.old rfl (.old rfl (.nil))))))))))))))) rfl rfl <|
          .cons (PV.sub (oneSub (.loc 6 11) .kill)) [] [] (fun _ _ h => .allocL (cs := [.str (⟨#[]⟩ : ByteArray), .sl 71 .full [], .int .u64 0]) (h _ _ (.cons rfl (.cons rfl (.cons rfl (.nil)))))) rfl (.old rfl (.old rfl (.old rfl (.old rfl (.old rfl (.old rfl (.old rfl (.old rfl (.old rfl (.old rfl (.new rfl (.old rfl (.old rfl (.old rfl (.nil))))))))))))))) rfl rfl <|
          .cons (PV.sub (oneSub (.loc 6 11) .kill)) [] [] (fun _ _ h => .allocL (cs := [.str (⟨#[]⟩ : ByteArray), .sl 71 .full [], .int .u64 0]) (h _ _ (.cons rfl (.cons rfl (.cons rfl (.cons rfl (.nil))))))) rfl (.old rfl (.old rfl (.old rfl (.old rfl (.old rfl (.old rfl (.old rfl (.old rfl (.old rfl (.old rfl (.old rfl (.new rfl (.old rfl (.old rfl (.old rfl (.nil)))))))))))))))) rfl rfl <|
          .cons (PV.sub (oneSub (.loc 6 10) .kill)) [] [] (fun _ _ h => .allocL (cs := [.str (⟨#[]⟩ : ByteArray), .sl 71 .full [], .int .u64 0]) (h _ _ (.cons rfl (.cons rfl (.cons rfl (.cons rfl (.nil))))))) rfl (.old rfl (.old rfl (.old rfl (.old rfl (.old rfl (.old rfl (.old rfl (.old rfl (.old rfl (.old rfl (.new rfl (.old rfl (.old rfl (.old rfl (.old rfl (.nil)))))))))))))))) rfl rfl <|
          .cons (fun x => x) [6, 26] [] (fun _ _ h => .wrL (cs := [.str x70.Role, .sl 71 .ro (x70.Set.map (PV.int .u64)), .int .u64 x70.Device]) (h _ _ (.cons rfl (.cons rfl (.cons rfl (.cons rfl (.nil))))))) rfl (.old rfl (.old rfl (.old rfl (.old rfl (.old rfl (.old rfl (.old rfl (.old rfl (.old rfl (.old rfl (.old rfl (.old rfl (.old rfl (.old rfl (.old rfl (.nil)))))))))))))))) rfl rfl <|
          .cons (fun x => x) [7, 31] [] (fun _ _ h => .wrL (cs := [.str x71.Role, .sl 71 .ro (x71.Set.map (PV.int .u64)), .int .u64 x71.Device]) (h _ _ (.cons rfl (.cons rfl (.cons rfl (.cons rfl (.nil))))))) rfl (.old rfl (.old rfl (.old rfl (.old rfl (.old rfl (.old rfl (.old rfl (.old rfl (.old rfl (.old rfl (.old rfl (.old rfl (.old rfl (.old rfl (.old rfl (.nil)))))))))))))))) rfl rfl <|
          .nil)
          (by kernel_rfl) rfl (.cons rfl (.cons rfl (.cons rfl (.nil)))) (.nil) (.cons rfl (.cons rfl (.nil))) ?_
        refine .imp (T := St.of [(2, .ptr (.loc 0 0) 0), (3, .ptr (.loc 0 1) 0), (5, .int .i64 v46), (6, .ptr (.loc 6 10) 0), (7, .ptr (.loc 6 11) 0)] [((.loc 0 0), [.sl 73 .ro (a0.Choices.map pv73)]), ((.loc 0 1), [.sl 73 .ro (a1.Choices.map pv73)]), ((.loc 6 10), [.str x70.Role, .sl 71 .ro (x70.Set.map (PV.int .u64)), .int .u64 x70.Device]), ((.loc 6 11), [.str x71.Role, .sl 71 .ro (x71.Set.map (PV.int .u64)), .int .u64 x71.Device])]) (imp_of (.cons rfl (.cons rfl (.cons rfl (.cons rfl (.cons rfl (.nil)))))) (.cons rfl (.cons rfl (.cons rfl (.cons rfl (.nil)))))) ?_
        obtain ⟨j75, hj75, h⟩ := joinE h
        obtain ⟨j77, hj77, h⟩ := joinE h
        refine .cutI (fun T => (T = St.of [(2, .ptr (.loc 0 0) 0), (3, .ptr (.loc 0 1) 0), (5, .int .i64 v46), (51, .bool true)] [((.loc 0 0), [.sl 73 .ro (a0.Choices.map pv73)]), ((.loc 0 1), [.sl 73 .ro (a1.Choices.map pv73)])] ∧ j75 () = some r) ∨ (∃ (v76 : Bool), T = St.of [(2, .ptr (.loc 0 0) 0), (3, .ptr (.loc 0 1) 0), (5, .int .i64 v46), (51, .bool v76)] [((.loc 0 0), [.sl 73 .ro (a0.Choices.map pv73)]), ((.loc 0 1), [.sl 73 .ro (a1.Choices.map pv73)])] ∧ j77 v76 = some r)) ?_ ?_
        · refine .region ?_
          refine .val ?_
          refine .val ?_
          refine .val ?_
          refine .val ?_
          refine .val ?_
          refine .move ?_
          refine .caseG (fun hc78 => ?_) (fun hc78 => ?_)
          · replace h := (if_pos hc78).symm.trans h
            refine .skip ?_
            refine .skip ?_
            refine .skip ?_
            refine .skip ?_
            refine .skip ?_
            refine .brT ?_
            refine .move ?_
            refine .skip ?_
            refine .skip ?_
            refine .skip ?_
            refine .skip ?_
            refine .skip ?_
            refine .skip ?_
            refine .brT ?_
            refine .nil ?_
            exact ⟨_, (.inl ⟨rfl, h⟩), (imp_of (.cons rfl (.cons rfl (.cons rfl (.cons rfl (.nil))))) (.cons rfl (.cons rfl (.nil))))⟩
          · replace h := (if_neg (nt hc78)).symm.trans h
            refine .val ?_
            refine .val ?_
            refine .val ?_
            refine .val ?_
            refine .val ?_
            refine .brF ?_
            refine .move ?_
            refine .caseG (fun hc79 => ?_) (fun hc79 => ?_)
            · replace h := (if_pos hc79).symm.trans h
              refine .skip ?_
              refine .skip ?_
              refine .skip ?_
              refine .skip ?_
              refine .skip ?_
              refine .skip ?_
              refine .brT ?_
              refine .nil ?_
              exact ⟨_, (.inl ⟨rfl, h⟩), (imp_of (.cons rfl (.cons rfl (.cons rfl (.cons rfl (.nil))))) (.cons rfl (.cons rfl (.nil))))⟩
            · replace h := (if_neg (nt hc79)).symm.trans h
              refine .val ?_
              refine .val ?_
              refine .val ?_
              refine .val ?_
              obtain ⟨y80, hy80, h⟩ := bindE h
              refine .cP (g89 hy80) ?_
              refine .val ?_
              refine .brF ?_
              refine .nil ?_
              exact ⟨_, (.inr (⟨_, rfl, h⟩)), (imp_of (.cons rfl (.cons rfl (.cons rfl (.cons rfl (.nil))))) (.cons rfl (.cons rfl (.nil))))⟩
        · rintro T (⟨rfl, h⟩ | ⟨v76, rfl, h⟩)
          · subst hj75
            refine .condT ?_
            refine .seq ?_
            refine .region ?_
            refine .assign ?_
            refine .nil ?_
            cases h
            exact .ret (fin_gen0 none)
          · subst hj77
            refine .cond (fun hc81 => ?_) (fun hc81 => ?_)
            · replace h := (if_pos hc81).symm.trans h
              refine .seq ?_
              refine .region ?_
              refine .assign ?_
              refine .nil ?_
              cases h
              exact .ret (fin_gen0 none)
            · replace h := (if_neg (nt hc81)).symm.trans h
              refine .skip ?_
              refine .region ?_
              refine .move ?_
              refine .val ?_
              refine .assign ?_
              refine .nil ?_
              exact ⟨m58, _, Nat.lt_succ_self m58, ⟨_, rfl, h⟩, (imp_of (.cons rfl (.cons rfl (.cons rfl (.nil)))) (.cons rfl (.cons rfl (.nil))))⟩
      · replace h := (if_neg (nt hc60)).symm.trans h
        refine .exit (.hit ?_)
        exact ⟨_, ⟨rfl, h⟩, (imp_of (.nil) (.nil))⟩
    · rintro T ⟨rfl, h⟩
      subst hj35
      refine .seq ?_
      refine .region ?_
      refine .assign ?_
      refine .nil ?_
      cases h
      exact .ret (fin_gen0 none)

/- soundservice/choices.Forget -/
def f59 (n : Nat) (a0 : Memory) (a1 : Int) : Option Memory :=
  (f45 n (⟨a0.Choices⟩ : Memory)).bind fun y1 =>
  (f86s95 n (⟨a0.Choices⟩ : Memory) y1 a1).bind fun y2 =>
  some (⟨y2.Choices⟩ : Memory)
set_option maxHeartbeats 4000000 in
set_option maxRecDepth 100000 in
theorem g59 {n : Nat} {a0 : Memory} {a1 : Int} {r : Memory} (h : f59 n a0 a1 = some r) :
    Ab.Can Try.prog 59 [.agg [.sl 73 .ro (a0.Choices.map pv73)], .int .u64 a1] H0 (.agg [.sl 73 .ro (r.Choices.map pv73)]) H0 := by
  refine can_of tabOK mix Try.call59 Try.func59 rfl (by kernel_rfl) (by show _ ≤ 11; simp) fun _ => ?_
  rw [f59] at h
  refine .seq ?_
  refine .region ?_
  refine .boxL (cs := [.sl 73 .ro (a0.Choices.map pv73)]) ?_
  refine .boxL (cs := [.int .u64 a1]) ?_
  refine .allocL (cs := [.sl 73 .full []]) ?_
  refine .nil ?_
  refine .seq ?_
  refine .region ?_
  refine .val (v := .agg [.sl 73 .ro (a0.Choices.map pv73)]) ?_
  obtain ⟨y1, hy1, h⟩ := bindE h
  refine .cP (g45 hy1) ?_
  refine .allocL (cs := [.bool false]) ?_
  refine .wrL (cs := [.bool y1]) ?_
  refine .nil ?_
  refine .seq ?_
  refine .region ?_
  refine .val (v := .agg [.sl 73 .ro (a0.Choices.map pv73)]) ?_
  refine .val (v := .fn 95 [.ptr (.loc 1 2) 0, .ptr (.loc 0 1) 0]) ?_
  obtain ⟨y2, hy2, h⟩ := bindE h
  refine .cH2 (.loc 1 2) (.loc 0 1) (g86s95r hy2) ?_
  refine .wrL (cs := [.sl 73 .ro (y2.Choices.map pv73)]) ?_
  refine .nil ?_
  cases h
  exact .ret (fin_gen0 none)
end Go.Proofs.Ytacdknbakjbpiaa
