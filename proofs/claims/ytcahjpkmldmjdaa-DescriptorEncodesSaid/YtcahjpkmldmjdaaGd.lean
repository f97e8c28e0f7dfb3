/-
  Plain functions of channels, intset, slices, soundservicemade, soundserviceref02, soundserviceref06, soundserviceref09, soundserviceref10, words, and that the code does what they say.
-/
import Derived.Test.YtcahjpkmldmjdaaGs
namespace Go.Proofs.Ytcahjpkmldmjdaa
open Go Ab
/- soundservice/words.Name -/
def f90_l1 (n : Nat) (a0 : ByteArray) (j174 : Unit → Option Bool) : Nat → Int → Option Bool
  | 0, _ => none
  | m291 + 1, v232 =>
    if decide (v232 < (a0.size : Int)) then (
    joinK (fun (_ : Unit) =>
    f90_l1 n a0 j174 m291 (w64 (v232 + (1 : Int)))) fun j349 =>
    (sAt a0 v232).bind fun x350 =>
    joinK (fun (_ : Unit) =>
    joinK (fun (_ : Unit) =>
    joinK (fun (_ : Unit) =>
    some false) fun j388 =>
    joinK (fun (_ : Unit) =>
    j349 ()) fun j389 =>
    if !(decide ((bitsI .or .u8 x350 (32 : Int)) ≤ (122 : Int))) then (
    if (v232 == (0 : Int)) then (
    j388 ())
    else (
    j389 ()))
    else (
    j389 ())) fun j369 =>
    joinK (fun (v370 : Bool) =>
    joinK (fun (_ : Unit) =>
    some false) fun j394 =>
    joinK (fun (_ : Unit) =>
    if !v370 then (
    some false)
    else (
    j349 ())) fun j395 =>
    joinK (fun (_ : Unit) =>
    j349 ()) fun j396 =>
    if !(decide ((bitsI .or .u8 x350 (32 : Int)) ≤ (122 : Int))) then (
    if (v232 == (0 : Int)) then (
    j394 ())
    else (
    j395 ()))
    else (
    j396 ())) fun j371 =>
    (sAt a0 v232).bind fun x372 =>
    if decide (x372 ≥ (48 : Int)) then (
    (sAt a0 v232).bind fun x374 =>
    if decide (x374 ≤ (57 : Int)) then (
    j369 ())
    else (
    (sAt a0 v232).bind fun x376 =>
    if (x376 == (45 : Int)) then (
    j369 ())
    else (
    (sAt a0 v232).bind fun x378 =>
    if (x378 == (46 : Int)) then (
    j369 ())
    else (
    (sAt a0 v232).bind fun x380 =>
    j371 (x380 == (95 : Int))))))
    else (
    (sAt a0 v232).bind fun x381 =>
    if (x381 == (45 : Int)) then (
    j369 ())
    else (
    (sAt a0 v232).bind fun x383 =>
    if (x383 == (46 : Int)) then (
    j369 ())
    else (
    (sAt a0 v232).bind fun x385 =>
    j371 (x385 == (95 : Int)))))) fun j352 =>
    joinK (fun (_ : Unit) =>
    joinK (fun (_ : Unit) =>
    joinK (fun (_ : Unit) =>
    some false) fun j432 =>
    joinK (fun (_ : Unit) =>
    j349 ()) fun j433 =>
    if (v232 == (0 : Int)) then (
    j432 ())
    else (
    j433 ())) fun j414 =>
    joinK (fun (v415 : Bool) =>
    joinK (fun (_ : Unit) =>
    some false) fun j436 =>
    joinK (fun (_ : Unit) =>
    if !v415 then (
    some false)
    else (
    j349 ())) fun j437 =>
    if (v232 == (0 : Int)) then (
    j436 ())
    else (
    j437 ())) fun j416 =>
    (sAt a0 v232).bind fun x417 =>
    if decide (x417 ≥ (48 : Int)) then (
    (sAt a0 v232).bind fun x419 =>
    if decide (x419 ≤ (57 : Int)) then (
    j414 ())
    else (
    (sAt a0 v232).bind fun x421 =>
    if (x421 == (45 : Int)) then (
    j414 ())
    else (
    (sAt a0 v232).bind fun x423 =>
    if (x423 == (46 : Int)) then (
    j414 ())
    else (
    (sAt a0 v232).bind fun x425 =>
    j416 (x425 == (95 : Int))))))
    else (
    (sAt a0 v232).bind fun x426 =>
    if (x426 == (45 : Int)) then (
    j414 ())
    else (
    (sAt a0 v232).bind fun x428 =>
    if (x428 == (46 : Int)) then (
    j414 ())
    else (
    (sAt a0 v232).bind fun x430 =>
    j416 (x430 == (95 : Int)))))) fun j353 =>
    if decide ((bitsI .or .u8 x350 (32 : Int)) ≥ (97 : Int)) then (
    j352 ())
    else (
    j353 ()))
    else (
    j174 ())
def f90 (n : Nat) (a0 : ByteArray) : Option Bool :=
  joinK (fun (_ : Unit) =>
  if !(sEq a0 (⟨#[]⟩ : ByteArray)) then (
  some (decide ((a0.size : Int) ≤ (64 : Int))))
  else (
  some false)) fun j174 =>
  f90_l1 n a0 j174 n 0
set_option maxHeartbeats 4000000 in
set_option maxRecDepth 100000 in
theorem g90 {n : Nat} {a0 : ByteArray} {r : Bool} (h : f90 n a0 = some r) :
    Ab.Can Try.prog 90 [.str a0] H0 (.bool r) H0 := by
  refine can_of tabOK mix Try.call90 Try.func90 rfl (by kernel_rfl) (by show _ ≤ 68; simp) fun _ => ?_
  rw [f90] at h
  refine .seq ?_
  refine .region ?_
  refine .assign ?_
  refine .nil ?_
  obtain ⟨j174, hj174, h⟩ := joinE h
  refine .cutI (fun T => (T = St.of [(0, .str a0)] [] ∧ j174 () = some r)) ?_ ?_
  · refine .seq ?_
    refine .region ?_
    refine .move ?_
    refine .val ?_
    refine .move ?_
    refine .nil ?_
    refine .block ?_
    refine .loopI (fun m T => ∃ (v232 : Int), T = St.of [(0, .str a0), (8, .int .i64 (a0.size : Int)), (9, .int .i64 v232)] [] ∧ f90_l1 n a0 j174 m v232 = some r) _ _ ⟨_, rfl, h⟩ (imp_of (.cons rfl (.cons rfl (.cons rfl (.nil)))) (.nil)) ?_
    rintro m291 T ⟨v232, rfl, h⟩
    obtain _ | m291 := m291
    · rw [f90_l1] at h; cases h
    rw [f90_l1] at h
    refine .seq ?_
    refine .region ?_
    refine .val ?_
    refine .nil ?_
    refine .seq ?_
    refine .cond (fun hc293 => ?_) (fun hc293 => ?_)
    · replace h := (if_pos hc293).symm.trans h
      refine .skip ?_
      obtain ⟨j349, hj349, h⟩ := joinE h
      refine .cutI (fun T => (T = St.of [(0, .str a0), (8, .int .i64 (a0.size : Int)), (9, .int .i64 v232)] [] ∧ j349 () = some r)) ?_ ?_
      · refine .block ?_
        refine .seq ?_
        refine .region ?_
        refine .move ?_
        refine .assign ?_
        refine .nil ?_
        refine .seq ?_
        refine .region ?_
        refine .move ?_
        refine .move ?_
        obtain ⟨x350, hx350, h⟩ := bindE h
        refine .atS hx350 ?_
        refine .val ?_
        refine .assign ?_
        refine .nil ?_
        obtain ⟨j352, hj352, h⟩ := joinE h
        obtain ⟨j353, hj353, h⟩ := joinE h
        refine .cutI (fun T => (T = St.of [(0, .str a0), (3, .int .i64 v232), (5, .bool (decide ((bitsI .or .u8 x350 (32 : Int)) ≤ (122 : Int)))), (8, .int .i64 (a0.size : Int)), (9, .int .i64 v232)] [] ∧ j352 () = some r) ∨ (T = St.of [(0, .str a0), (3, .int .i64 v232), (5, .bool false), (8, .int .i64 (a0.size : Int)), (9, .int .i64 v232)] [] ∧ j353 () = some r)) ?_ ?_
        · refine .region ?_
          refine .move ?_
          refine .val ?_
          refine .move ?_
          refine .caseG (fun hc354 => ?_) (fun hc354 => ?_)
          · replace h := (if_pos hc354).symm.trans h
            refine .move ?_
            refine .val ?_
            refine .brT ?_
            refine .assign ?_
            refine .nil ?_
            exact ⟨_, (.inl ⟨rfl, h⟩), (imp_of (.cons rfl (.cons rfl (.cons rfl (.cons rfl (.cons rfl (.nil)))))) (.nil))⟩
          · replace h := (if_neg (nt hc354)).symm.trans h
            refine .skip ?_
            refine .skip ?_
            refine .brF ?_
            refine .assign ?_
            refine .nil ?_
            exact ⟨_, (.inr (⟨rfl, h⟩)), (imp_of (.cons rfl (.cons rfl (.cons rfl (.cons rfl (.cons rfl (.nil)))))) (.nil))⟩
        · rintro T (⟨rfl, h⟩ | ⟨rfl, h⟩)
          · subst hj352
            obtain ⟨j369, hj369, h⟩ := joinE h
            obtain ⟨j371, hj371, h⟩ := joinE h
            refine .cutI (fun T => (T = St.of [(0, .str a0), (3, .int .i64 v232), (5, .bool (decide ((bitsI .or .u8 x350 (32 : Int)) ≤ (122 : Int)))), (6, .bool true), (8, .int .i64 (a0.size : Int)), (9, .int .i64 v232)] [] ∧ j369 () = some r) ∨ (∃ (v370 : Bool), T = St.of [(0, .str a0), (3, .int .i64 v232), (5, .bool (decide ((bitsI .or .u8 x350 (32 : Int)) ≤ (122 : Int)))), (6, .bool v370), (8, .int .i64 (a0.size : Int)), (9, .int .i64 v232)] [] ∧ j371 v370 = some r)) ?_ ?_
            · refine .region ?_
              refine .move ?_
              refine .move ?_
              obtain ⟨x372, hx372, h⟩ := bindE h
              refine .atS hx372 ?_
              refine .val ?_
              refine .move ?_
              refine .caseG (fun hc373 => ?_) (fun hc373 => ?_)
              · replace h := (if_pos hc373).symm.trans h
                refine .move ?_
                refine .move ?_
                obtain ⟨x374, hx374, h⟩ := bindE h
                refine .atS hx374 ?_
                refine .val ?_
                refine .brT ?_
                refine .move ?_
                refine .caseG (fun hc375 => ?_) (fun hc375 => ?_)
                · replace h := (if_pos hc375).symm.trans h
                  refine .skip ?_
                  refine .skip ?_
                  refine .skip ?_
                  refine .skip ?_
                  refine .brT ?_
                  refine .move ?_
                  refine .skip ?_
                  refine .skip ?_
                  refine .skip ?_
                  refine .skip ?_
                  refine .brT ?_
                  refine .move ?_
                  refine .skip ?_
                  refine .skip ?_
                  refine .skip ?_
                  refine .skip ?_
                  refine .brT ?_
                  refine .assign ?_
                  refine .nil ?_
                  exact ⟨_, (.inl ⟨rfl, h⟩), (imp_of (.cons rfl (.cons rfl (.cons rfl (.cons rfl (.cons rfl (.cons rfl (.nil))))))) (.nil))⟩
                · replace h := (if_neg (nt hc375)).symm.trans h
                  refine .move ?_
                  refine .move ?_
                  obtain ⟨x376, hx376, h⟩ := bindE h
                  refine .atS hx376 ?_
                  refine .val ?_
                  refine .brF ?_
                  refine .move ?_
                  refine .caseG (fun hc377 => ?_) (fun hc377 => ?_)
                  · replace h := (if_pos hc377).symm.trans h
                    refine .skip ?_
                    refine .skip ?_
                    refine .skip ?_
                    refine .skip ?_
                    refine .brT ?_
                    refine .move ?_
                    refine .skip ?_
                    refine .skip ?_
                    refine .skip ?_
                    refine .skip ?_
                    refine .brT ?_
                    refine .assign ?_
                    refine .nil ?_
                    exact ⟨_, (.inl ⟨rfl, h⟩), (imp_of (.cons rfl (.cons rfl (.cons rfl (.cons rfl (.cons rfl (.cons rfl (.nil))))))) (.nil))⟩
                  · replace h := (if_neg (nt hc377)).symm.trans h
                    refine .move ?_
                    refine .move ?_
                    obtain ⟨x378, hx378, h⟩ := bindE h
                    refine .atS hx378 ?_
                    refine .val ?_
                    refine .brF ?_
                    refine .move ?_
                    refine .caseG (fun hc379 => ?_) (fun hc379 => ?_)
                    · replace h := (if_pos hc379).symm.trans h
                      refine .skip ?_
                      refine .skip ?_
                      refine .skip ?_
                      refine .skip ?_
                      refine .brT ?_
                      refine .assign ?_
                      refine .nil ?_
                      exact ⟨_, (.inl ⟨rfl, h⟩), (imp_of (.cons rfl (.cons rfl (.cons rfl (.cons rfl (.cons rfl (.cons rfl (.nil))))))) (.nil))⟩
                    · replace h := (if_neg (nt hc379)).symm.trans h
                      refine .move ?_
                      refine .move ?_
                      obtain ⟨x380, hx380, h⟩ := bindE h
                      refine .atS hx380 ?_
                      refine .val ?_
                      refine .brF ?_
                      refine .assign ?_
                      refine .nil ?_
                      exact ⟨_, (.inr (⟨_, rfl, h⟩)), (imp_of (.cons rfl (.cons rfl (.cons rfl (.cons rfl (.cons rfl (.cons rfl (.nil))))))) (.nil))⟩
              · replace h := (if_neg (nt hc373)).symm.trans h
                refine .skip ?_
                refine .skip ?_
                refine .skip ?_
                refine .skip ?_
                refine .brF ?_
                refine .move ?_
                refine .move ?_
                refine .move ?_
                obtain ⟨x381, hx381, h⟩ := bindE h
                refine .atS hx381 ?_
                refine .val ?_
                refine .brF ?_
                refine .move ?_
                refine .caseG (fun hc382 => ?_) (fun hc382 => ?_)
                · replace h := (if_pos hc382).symm.trans h
                  refine .skip ?_
                  refine .skip ?_
                  refine .skip ?_
                  refine .skip ?_
                  refine .brT ?_
                  refine .move ?_
                  refine .skip ?_
                  refine .skip ?_
                  refine .skip ?_
                  refine .skip ?_
                  refine .brT ?_
                  refine .assign ?_
                  refine .nil ?_
                  exact ⟨_, (.inl ⟨rfl, h⟩), (imp_of (.cons rfl (.cons rfl (.cons rfl (.cons rfl (.cons rfl (.cons rfl (.nil))))))) (.nil))⟩
                · replace h := (if_neg (nt hc382)).symm.trans h
                  refine .move ?_
                  refine .move ?_
                  obtain ⟨x383, hx383, h⟩ := bindE h
                  refine .atS hx383 ?_
                  refine .val ?_
                  refine .brF ?_
                  refine .move ?_
                  refine .caseG (fun hc384 => ?_) (fun hc384 => ?_)
                  · replace h := (if_pos hc384).symm.trans h
                    refine .skip ?_
                    refine .skip ?_
                    refine .skip ?_
                    refine .skip ?_
                    refine .brT ?_
                    refine .assign ?_
                    refine .nil ?_
                    exact ⟨_, (.inl ⟨rfl, h⟩), (imp_of (.cons rfl (.cons rfl (.cons rfl (.cons rfl (.cons rfl (.cons rfl (.nil))))))) (.nil))⟩
                  · replace h := (if_neg (nt hc384)).symm.trans h
                    refine .move ?_
                    refine .move ?_
                    obtain ⟨x385, hx385, h⟩ := bindE h
                    refine .atS hx385 ?_
                    refine .val ?_
                    refine .brF ?_
                    refine .assign ?_
                    refine .nil ?_
                    exact ⟨_, (.inr (⟨_, rfl, h⟩)), (imp_of (.cons rfl (.cons rfl (.cons rfl (.cons rfl (.cons rfl (.cons rfl (.nil))))))) (.nil))⟩
            · rintro T (⟨rfl, h⟩ | ⟨v370, rfl, h⟩)
              · subst hj369
                obtain ⟨j388, hj388, h⟩ := joinE h
                obtain ⟨j389, hj389, h⟩ := joinE h
                refine .cutI (fun T => (T = St.of [(0, .str a0), (8, .int .i64 (a0.size : Int)), (9, .int .i64 v232), (59, .bool true)] [] ∧ j388 () = some r) ∨ (T = St.of [(0, .str a0), (8, .int .i64 (a0.size : Int)), (9, .int .i64 v232), (59, .bool false)] [] ∧ j389 () = some r)) ?_ ?_
                · refine .region ?_
                  refine .move ?_
                  refine .val ?_
                  refine .move ?_
                  refine .caseG (fun hc390 => ?_) (fun hc390 => ?_)
                  · replace h := (if_pos hc390).symm.trans h
                    refine .move ?_
                    refine .val ?_
                    refine .move ?_
                    refine .caseG (fun hc391 => ?_) (fun hc391 => ?_)
                    · replace h := (if_pos hc391).symm.trans h
                      refine .skip ?_
                      refine .skip ?_
                      refine .brT ?_
                      refine .brT ?_
                      refine .nil ?_
                      exact ⟨_, (.inl ⟨rfl, h⟩), (imp_of (.cons rfl (.cons rfl (.cons rfl (.cons rfl (.nil))))) (.nil))⟩
                    · replace h := (if_neg (nt hc391)).symm.trans h
                      refine .move ?_
                      refine .val ?_
                      refine .brF ?_
                      refine .brT ?_
                      refine .nil ?_
                      exact ⟨_, (.inr (⟨rfl, h⟩)), (imp_of (.cons rfl (.cons rfl (.cons rfl (.cons rfl (.nil))))) (.nil))⟩
                  · replace h := (if_neg (nt hc390)).symm.trans h
                    refine .skip ?_
                    refine .skip ?_
                    refine .skip ?_
                    refine .skip ?_
                    refine .skip ?_
                    refine .skip ?_
                    refine .brF ?_
                    refine .nil ?_
                    exact ⟨_, (.inr (⟨rfl, h⟩)), (imp_of (.cons rfl (.cons rfl (.cons rfl (.cons rfl (.nil))))) (.nil))⟩
                · rintro T (⟨rfl, h⟩ | ⟨rfl, h⟩)
                  · subst hj388
                    refine .condT ?_
                    refine .seq ?_
                    refine .region ?_
                    refine .assign ?_
                    refine .nil ?_
                    cases h
                    exact .ret (fin_gen0 none)
                  · subst hj389
                    refine .condF ?_
                    refine .skip ?_
                    exact ⟨_, ⟨rfl, h⟩, (imp_of (.cons rfl (.cons rfl (.cons rfl (.nil)))) (.nil))⟩
              · subst hj371
                obtain ⟨j394, hj394, h⟩ := joinE h
                obtain ⟨j395, hj395, h⟩ := joinE h
                obtain ⟨j396, hj396, h⟩ := joinE h
                refine .cutI (fun T => (T = St.of [(0, .str a0), (8, .int .i64 (a0.size : Int)), (9, .int .i64 v232), (59, .bool true)] [] ∧ j394 () = some r) ∨ (T = St.of [(0, .str a0), (8, .int .i64 (a0.size : Int)), (9, .int .i64 v232), (59, .bool (!v370))] [] ∧ j395 () = some r) ∨ (T = St.of [(0, .str a0), (8, .int .i64 (a0.size : Int)), (9, .int .i64 v232), (59, .bool false)] [] ∧ j396 () = some r)) ?_ ?_
                · refine .region ?_
                  refine .move ?_
                  refine .val ?_
                  refine .move ?_
                  refine .caseG (fun hc397 => ?_) (fun hc397 => ?_)
                  · replace h := (if_pos hc397).symm.trans h
                    refine .move ?_
                    refine .val ?_
                    refine .move ?_
                    refine .caseG (fun hc398 => ?_) (fun hc398 => ?_)
                    · replace h := (if_pos hc398).symm.trans h
                      refine .skip ?_
                      refine .skip ?_
                      refine .brT ?_
                      refine .brT ?_
                      refine .nil ?_
                      exact ⟨_, (.inl ⟨rfl, h⟩), (imp_of (.cons rfl (.cons rfl (.cons rfl (.cons rfl (.nil))))) (.nil))⟩
                    · replace h := (if_neg (nt hc398)).symm.trans h
                      refine .move ?_
                      refine .val ?_
                      refine .brF ?_
                      refine .brT ?_
                      refine .nil ?_
                      exact ⟨_, (.inr (.inl ⟨rfl, h⟩)), (imp_of (.cons rfl (.cons rfl (.cons rfl (.cons rfl (.nil))))) (.nil))⟩
                  · replace h := (if_neg (nt hc397)).symm.trans h
                    refine .skip ?_
                    refine .skip ?_
                    refine .skip ?_
                    refine .skip ?_
                    refine .skip ?_
                    refine .skip ?_
                    refine .brF ?_
                    refine .nil ?_
                    exact ⟨_, (.inr (.inr (⟨rfl, h⟩))), (imp_of (.cons rfl (.cons rfl (.cons rfl (.cons rfl (.nil))))) (.nil))⟩
                · rintro T (⟨rfl, h⟩ | ⟨rfl, h⟩ | ⟨rfl, h⟩)
                  · subst hj394
                    refine .condT ?_
                    refine .seq ?_
                    refine .region ?_
                    refine .assign ?_
                    refine .nil ?_
                    cases h
                    exact .ret (fin_gen0 none)
                  · subst hj395
                    refine .cond (fun hc399 => ?_) (fun hc399 => ?_)
                    · replace h := (if_pos hc399).symm.trans h
                      refine .seq ?_
                      refine .region ?_
                      refine .assign ?_
                      refine .nil ?_
                      cases h
                      exact .ret (fin_gen0 none)
                    · replace h := (if_neg (nt hc399)).symm.trans h
                      refine .skip ?_
                      exact ⟨_, ⟨rfl, h⟩, (imp_of (.cons rfl (.cons rfl (.cons rfl (.nil)))) (.nil))⟩
                  · subst hj396
                    refine .condF ?_
                    refine .skip ?_
                    exact ⟨_, ⟨rfl, h⟩, (imp_of (.cons rfl (.cons rfl (.cons rfl (.nil)))) (.nil))⟩
          · subst hj353
            obtain ⟨j414, hj414, h⟩ := joinE h
            obtain ⟨j416, hj416, h⟩ := joinE h
            refine .cutI (fun T => (T = St.of [(0, .str a0), (3, .int .i64 v232), (5, .bool false), (6, .bool true), (8, .int .i64 (a0.size : Int)), (9, .int .i64 v232)] [] ∧ j414 () = some r) ∨ (∃ (v415 : Bool), T = St.of [(0, .str a0), (3, .int .i64 v232), (5, .bool false), (6, .bool v415), (8, .int .i64 (a0.size : Int)), (9, .int .i64 v232)] [] ∧ j416 v415 = some r)) ?_ ?_
            · refine .region ?_
              refine .move ?_
              refine .move ?_
              obtain ⟨x417, hx417, h⟩ := bindE h
              refine .atS hx417 ?_
              refine .val ?_
              refine .move ?_
              refine .caseG (fun hc418 => ?_) (fun hc418 => ?_)
              · replace h := (if_pos hc418).symm.trans h
                refine .move ?_
                refine .move ?_
                obtain ⟨x419, hx419, h⟩ := bindE h
                refine .atS hx419 ?_
                refine .val ?_
                refine .brT ?_
                refine .move ?_
                refine .caseG (fun hc420 => ?_) (fun hc420 => ?_)
                · replace h := (if_pos hc420).symm.trans h
                  refine .skip ?_
                  refine .skip ?_
                  refine .skip ?_
                  refine .skip ?_
                  refine .brT ?_
                  refine .move ?_
                  refine .skip ?_
                  refine .skip ?_
                  refine .skip ?_
                  refine .skip ?_
                  refine .brT ?_
                  refine .move ?_
                  refine .skip ?_
                  refine .skip ?_
                  refine .skip ?_
                  refine .skip ?_
                  refine .brT ?_
                  refine .assign ?_
                  refine .nil ?_
                  exact ⟨_, (.inl ⟨rfl, h⟩), (imp_of (.cons rfl (.cons rfl (.cons rfl (.cons rfl (.cons rfl (.cons rfl (.nil))))))) (.nil))⟩
                · replace h := (if_neg (nt hc420)).symm.trans h
                  refine .move ?_
                  refine .move ?_
                  obtain ⟨x421, hx421, h⟩ := bindE h
                  refine .atS hx421 ?_
                  refine .val ?_
                  refine .brF ?_
                  refine .move ?_
                  refine .caseG (fun hc422 => ?_) (fun hc422 => ?_)
                  · replace h := (if_pos hc422).symm.trans h
                    refine .skip ?_
                    refine .skip ?_
                    refine .skip ?_
                    refine .skip ?_
                    refine .brT ?_
                    refine .move ?_
                    refine .skip ?_
                    refine .skip ?_
                    refine .skip ?_
                    refine .skip ?_
                    refine .brT ?_
                    refine .assign ?_
                    refine .nil ?_
                    exact ⟨_, (.inl ⟨rfl, h⟩), (imp_of (.cons rfl (.cons rfl (.cons rfl (.cons rfl (.cons rfl (.cons rfl (.nil))))))) (.nil))⟩
                  · replace h := (if_neg (nt hc422)).symm.trans h
                    refine .move ?_
                    refine .move ?_
                    obtain ⟨x423, hx423, h⟩ := bindE h
                    refine .atS hx423 ?_
                    refine .val ?_
                    refine .brF ?_
                    refine .move ?_
                    refine .caseG (fun hc424 => ?_) (fun hc424 => ?_)
                    · replace h := (if_pos hc424).symm.trans h
                      refine .skip ?_
                      refine .skip ?_
                      refine .skip ?_
                      refine .skip ?_
                      refine .brT ?_
                      refine .assign ?_
                      refine .nil ?_
                      exact ⟨_, (.inl ⟨rfl, h⟩), (imp_of (.cons rfl (.cons rfl (.cons rfl (.cons rfl (.cons rfl (.cons rfl (.nil))))))) (.nil))⟩
                    · replace h := (if_neg (nt hc424)).symm.trans h
                      refine .move ?_
                      refine .move ?_
                      obtain ⟨x425, hx425, h⟩ := bindE h
                      refine .atS hx425 ?_
                      refine .val ?_
                      refine .brF ?_
                      refine .assign ?_
                      refine .nil ?_
                      exact ⟨_, (.inr (⟨_, rfl, h⟩)), (imp_of (.cons rfl (.cons rfl (.cons rfl (.cons rfl (.cons rfl (.cons rfl (.nil))))))) (.nil))⟩
              · replace h := (if_neg (nt hc418)).symm.trans h
                refine .skip ?_
                refine .skip ?_
                refine .skip ?_
                refine .skip ?_
                refine .brF ?_
                refine .move ?_
                refine .move ?_
                refine .move ?_
                obtain ⟨x426, hx426, h⟩ := bindE h
                refine .atS hx426 ?_
                refine .val ?_
                refine .brF ?_
                refine .move ?_
                refine .caseG (fun hc427 => ?_) (fun hc427 => ?_)
                · replace h := (if_pos hc427).symm.trans h
                  refine .skip ?_
                  refine .skip ?_
                  refine .skip ?_
                  refine .skip ?_
                  refine .brT ?_
                  refine .move ?_
                  refine .skip ?_
                  refine .skip ?_
                  refine .skip ?_
                  refine .skip ?_
                  refine .brT ?_
                  refine .assign ?_
                  refine .nil ?_
                  exact ⟨_, (.inl ⟨rfl, h⟩), (imp_of (.cons rfl (.cons rfl (.cons rfl (.cons rfl (.cons rfl (.cons rfl (.nil))))))) (.nil))⟩
                · replace h := (if_neg (nt hc427)).symm.trans h
                  refine .move ?_
                  refine .move ?_
                  obtain ⟨x428, hx428, h⟩ := bindE h
                  refine .atS hx428 ?_
                  refine .val ?_
                  refine .brF ?_
                  refine .move ?_
                  refine .caseG (fun hc429 => ?_) (fun hc429 => ?_)
                  · replace h := (if_pos hc429).symm.trans h
                    refine .skip ?_
                    refine .skip ?_
                    refine .skip ?_
                    refine .skip ?_
                    refine .brT ?_
                    refine .assign ?_
                    refine .nil ?_
                    exact ⟨_, (.inl ⟨rfl, h⟩), (imp_of (.cons rfl (.cons rfl (.cons rfl (.cons rfl (.cons rfl (.cons rfl (.nil))))))) (.nil))⟩
                  · replace h := (if_neg (nt hc429)).symm.trans h
                    refine .move ?_
                    refine .move ?_
                    obtain ⟨x430, hx430, h⟩ := bindE h
                    refine .atS hx430 ?_
                    refine .val ?_
                    refine .brF ?_
                    refine .assign ?_
                    refine .nil ?_
                    exact ⟨_, (.inr (⟨_, rfl, h⟩)), (imp_of (.cons rfl (.cons rfl (.cons rfl (.cons rfl (.cons rfl (.cons rfl (.nil))))))) (.nil))⟩
            · rintro T (⟨rfl, h⟩ | ⟨v415, rfl, h⟩)
              · subst hj414
                obtain ⟨j432, hj432, h⟩ := joinE h
                obtain ⟨j433, hj433, h⟩ := joinE h
                refine .cutI (fun T => (T = St.of [(0, .str a0), (8, .int .i64 (a0.size : Int)), (9, .int .i64 v232), (59, .bool true)] [] ∧ j432 () = some r) ∨ (T = St.of [(0, .str a0), (8, .int .i64 (a0.size : Int)), (9, .int .i64 v232), (59, .bool false)] [] ∧ j433 () = some r)) ?_ ?_
                · refine .region ?_
                  refine .move ?_
                  refine .val ?_
                  refine .move ?_
                  refine .move ?_
                  refine .val ?_
                  refine .move ?_
                  refine .caseG (fun hc434 => ?_) (fun hc434 => ?_)
                  · replace h := (if_pos hc434).symm.trans h
                    refine .skip ?_
                    refine .skip ?_
                    refine .brT ?_
                    refine .brT ?_
                    refine .nil ?_
                    exact ⟨_, (.inl ⟨rfl, h⟩), (imp_of (.cons rfl (.cons rfl (.cons rfl (.cons rfl (.nil))))) (.nil))⟩
                  · replace h := (if_neg (nt hc434)).symm.trans h
                    refine .move ?_
                    refine .val ?_
                    refine .brF ?_
                    refine .brT ?_
                    refine .nil ?_
                    exact ⟨_, (.inr (⟨rfl, h⟩)), (imp_of (.cons rfl (.cons rfl (.cons rfl (.cons rfl (.nil))))) (.nil))⟩
                · rintro T (⟨rfl, h⟩ | ⟨rfl, h⟩)
                  · subst hj432
                    refine .condT ?_
                    refine .seq ?_
                    refine .region ?_
                    refine .assign ?_
                    refine .nil ?_
                    cases h
                    exact .ret (fin_gen0 none)
                  · subst hj433
                    refine .condF ?_
                    refine .skip ?_
                    exact ⟨_, ⟨rfl, h⟩, (imp_of (.cons rfl (.cons rfl (.cons rfl (.nil)))) (.nil))⟩
              · subst hj416
                obtain ⟨j436, hj436, h⟩ := joinE h
                obtain ⟨j437, hj437, h⟩ := joinE h
                refine .cutI (fun T => (T = St.of [(0, .str a0), (8, .int .i64 (a0.size : Int)), (9, .int .i64 v232), (59, .bool true)] [] ∧ j436 () = some r) ∨ (T = St.of [(0, .str a0), (8, .int .i64 (a0.size : Int)), (9, .int .i64 v232), (59, .bool (!v415))] [] ∧ j437 () = some r)) ?_ ?_
                · refine .region ?_
                  refine .move ?_
                  refine .val ?_
                  refine .move ?_
                  refine .move ?_
                  refine .val ?_
                  refine .move ?_
                  refine .caseG (fun hc438 => ?_) (fun hc438 => ?_)
                  · replace h := (if_pos hc438).symm.trans h
                    refine .skip ?_
                    refine .skip ?_
                    refine .brT ?_
                    refine .brT ?_
                    refine .nil ?_
                    exact ⟨_, (.inl ⟨rfl, h⟩), (imp_of (.cons rfl (.cons rfl (.cons rfl (.cons rfl (.nil))))) (.nil))⟩
                  · replace h := (if_neg (nt hc438)).symm.trans h
                    refine .move ?_
                    refine .val ?_
                    refine .brF ?_
                    refine .brT ?_
                    refine .nil ?_
                    exact ⟨_, (.inr (⟨rfl, h⟩)), (imp_of (.cons rfl (.cons rfl (.cons rfl (.cons rfl (.nil))))) (.nil))⟩
                · rintro T (⟨rfl, h⟩ | ⟨rfl, h⟩)
                  · subst hj436
                    refine .condT ?_
                    refine .seq ?_
                    refine .region ?_
                    refine .assign ?_
                    refine .nil ?_
                    cases h
                    exact .ret (fin_gen0 none)
                  · subst hj437
                    refine .cond (fun hc439 => ?_) (fun hc439 => ?_)
                    · replace h := (if_pos hc439).symm.trans h
                      refine .seq ?_
                      refine .region ?_
                      refine .assign ?_
                      refine .nil ?_
                      cases h
                      exact .ret (fin_gen0 none)
                    · replace h := (if_neg (nt hc439)).symm.trans h
                      refine .skip ?_
                      exact ⟨_, ⟨rfl, h⟩, (imp_of (.cons rfl (.cons rfl (.cons rfl (.nil)))) (.nil))⟩
      · rintro T ⟨rfl, h⟩
        subst hj349
        refine .region ?_
        refine .val ?_
        refine .move ?_
        refine .nil ?_
        exact ⟨m291, _, Nat.lt_succ_self m291, ⟨_, rfl, h⟩, (imp_of (.cons rfl (.cons rfl (.cons rfl (.nil)))) (.nil))⟩
    · replace h := (if_neg (nt hc293)).symm.trans h
      refine .exit (.hit ?_)
      exact ⟨_, ⟨rfl, h⟩, (imp_of (.cons rfl (.nil)) (.nil))⟩
  · rintro T ⟨rfl, h⟩
    subst hj174
    refine .seq ?_
    refine .region ?_
    refine .move ?_
    refine .val ?_
    refine .move ?_
    refine .caseG (fun hc441 => ?_) (fun hc441 => ?_)
    · replace h := (if_pos hc441).symm.trans h
      refine .move ?_
      refine .val ?_
      refine .val ?_
      refine .brT ?_
      refine .assign ?_
      refine .nil ?_
      cases h
      exact .ret (fin_gen0 none)
    · replace h := (if_neg (nt hc441)).symm.trans h
      refine .skip ?_
      refine .skip ?_
      refine .skip ?_
      refine .brF ?_
      refine .assign ?_
      refine .nil ?_
      cases h
      exact .ret (fin_gen0 none)

/- soundservice/intset.fine -/
def f130 (_n : Nat) (a0 : Span) : Option Bool :=
  if decide (a0.Lo ≥ (0 : Int)) then (
  if decide (a0.Lo ≤ a0.Hi) then (
  some (decide (a0.Hi ≤ (2147483647 : Int))))
  else (
  some false))
  else (
  some false)
set_option maxHeartbeats 4000000 in
set_option maxRecDepth 100000 in
theorem g130 {n : Nat} {a0 : Span} {r : Bool} (h : f130 n a0 = some r) :
    Ab.Can Try.prog 130 [.agg [.int .i64 a0.Lo, .int .i64 a0.Hi]] H0 (.bool r) H0 := by
  refine can_of tabOK mix Try.call130 Try.func130 rfl (by kernel_rfl) (by show _ ≤ 18; simp) fun _ => ?_
  rw [f130] at h
  refine .seq ?_
  refine .region ?_
  refine .boxL (cs := [.int .i64 a0.Lo, .int .i64 a0.Hi]) ?_
  refine .assign ?_
  refine .nil ?_
  refine .seq ?_
  refine .region ?_
  refine .val ?_
  refine .val ?_
  refine .val ?_
  refine .move ?_
  refine .caseG (fun hc3 => ?_) (fun hc3 => ?_)
  · replace h := (if_pos hc3).symm.trans h
    refine .val ?_
    refine .val ?_
    refine .val ?_
    refine .val ?_
    refine .val ?_
    refine .brT ?_
    refine .move ?_
    refine .caseG (fun hc4 => ?_) (fun hc4 => ?_)
    · replace h := (if_pos hc4).symm.trans h
      refine .val ?_
      refine .val ?_
      refine .val ?_
      refine .brT ?_
      refine .assign ?_
      refine .nil ?_
      cases h
      exact .ret (fin_gen0 none)
    · replace h := (if_neg (nt hc4)).symm.trans h
      refine .skip ?_
      refine .skip ?_
      refine .skip ?_
      refine .brF ?_
      refine .assign ?_
      refine .nil ?_
      cases h
      exact .ret (fin_gen0 none)
  · replace h := (if_neg (nt hc3)).symm.trans h
    refine .skip ?_
    refine .skip ?_
    refine .skip ?_
    refine .skip ?_
    refine .skip ?_
    refine .brF ?_
    refine .move ?_
    refine .skip ?_
    refine .skip ?_
    refine .skip ?_
    refine .brF ?_
    refine .assign ?_
    refine .nil ?_
    cases h
    exact .ret (fin_gen0 none)

/- soundservice/intset.Valid -/
def f121_l1 (n : Nat) (a0 : IntSet) (j39 : Unit → Option Bool) : Nat → Int → Option Bool
  | 0, _ => none
  | m66 + 1, v52 =>
    if decide (v52 < (a0.Spans.length : Int)) then (
    joinK (fun (_ : Unit) =>
    f121_l1 n a0 j39 m66 (w64 (v52 + (1 : Int)))) fun j79 =>
    (lAt a0.Spans v52).bind fun x80 =>
    joinK (fun (_ : Unit) =>
    some false) fun j85 =>
    joinK (fun (v86 : Bool) =>
    if v86 then (
    some false)
    else (
    j79 ())) fun j87 =>
    joinK (fun (_ : Unit) =>
    j79 ()) fun j88 =>
    (f130 n (⟨x80.Lo, x80.Hi⟩ : Span)).bind fun y89 =>
    if !y89 then (
    j85 ())
    else (
    if decide (v52 > (0 : Int)) then (
    (lAt a0.Spans (w64 (v52 - (1 : Int)))).bind fun x92 =>
    j87 (decide (x80.Lo ≤ (w64 (x92.Hi + (1 : Int))))))
    else (
    j88 ())))
    else (
    j39 ())
def f121 (n : Nat) (a0 : IntSet) : Option Bool :=
  joinK (fun (_ : Unit) =>
  some (decide ((a0.Spans.length : Int) ≤ (64 : Int)))) fun j39 =>
  f121_l1 n a0 j39 n 0
set_option maxHeartbeats 4000000 in
set_option maxRecDepth 100000 in
theorem g121 {n : Nat} {a0 : IntSet} {r : Bool} (h : f121 n a0 = some r) :
    Ab.Can Try.prog 121 [.agg [.sl 124 .ro (a0.Spans.map pv124)]] H0 (.bool r) H0 := by
  refine can_of tabOK mix Try.call121 Try.func121 rfl (by kernel_rfl) (by show _ ≤ 38; simp) fun _ => ?_
  rw [f121] at h
  refine .seq ?_
  refine .region ?_
  refine .boxL (cs := [.sl 124 .ro (a0.Spans.map pv124)]) ?_
  refine .assign ?_
  refine .nil ?_
  obtain ⟨j39, hj39, h⟩ := joinE h
  refine .cutI (fun T => (T = St.of [(1, .ptr (.loc 0 0) 0)] [((.loc 0 0), [.sl 124 .ro (a0.Spans.map pv124)])] ∧ j39 () = some r)) ?_ ?_
  · refine .seq ?_
    refine .region ?_
    refine .val ?_
    refine .val ?_
    refine .lenL (f := pv124) ?_
    refine .move ?_
    refine .nil ?_
    refine .block ?_
    refine .loopI (fun m T => ∃ (v52 : Int), T = St.of [(1, .ptr (.loc 0 0) 0), (6, .sl 124 .ro (a0.Spans.map pv124)), (7, .int .i64 (a0.Spans.length : Int)), (8, .int .i64 v52)] [((.loc 0 0), [.sl 124 .ro (a0.Spans.map pv124)])] ∧ f121_l1 n a0 j39 m v52 = some r) _ _ ⟨_, rfl, h⟩ (imp_of (.cons rfl (.cons rfl (.cons rfl (.cons rfl (.nil))))) (.cons rfl (.nil))) ?_
    rintro m66 T ⟨v52, rfl, h⟩
    obtain _ | m66 := m66
    · rw [f121_l1] at h; cases h
    rw [f121_l1] at h
    refine .seq ?_
    refine .region ?_
    refine .val ?_
    refine .nil ?_
    refine .seq ?_
    refine .cond (fun hc68 => ?_) (fun hc68 => ?_)
    · replace h := (if_pos hc68).symm.trans h
      refine .skip ?_
      obtain ⟨j79, hj79, h⟩ := joinE h
      refine .cutI (fun T => (T = St.of [(1, .ptr (.loc 0 0) 0), (6, .sl 124 .ro (a0.Spans.map pv124)), (7, .int .i64 (a0.Spans.length : Int)), (8, .int .i64 v52)] [((.loc 0 0), [.sl 124 .ro (a0.Spans.map pv124)])] ∧ j79 () = some r)) ?_ ?_
      · refine .block ?_
        refine .seq ?_
        refine .region ?_
        refine .move ?_
        obtain ⟨x80, hx80, h⟩ := bindE h
        refine .idxL (f := pv124) hx80 ?_
        refine .ldL hx80 (y := .agg [.int .i64 x80.Lo, .int .i64 x80.Hi]) ?_
        refine .allocL (cs := [.int .i64 0, .int .i64 0]) ?_
        refine .assign ?_
        refine .wrL (cs := [.int .i64 x80.Lo, .int .i64 x80.Hi]) ?_
        refine .nil ?_
        obtain ⟨j85, hj85, h⟩ := joinE h
        obtain ⟨j87, hj87, h⟩ := joinE h
        obtain ⟨j88, hj88, h⟩ := joinE h
        refine .cutI (fun T => (T = St.of [(1, .ptr (.loc 0 0) 0), (6, .sl 124 .ro (a0.Spans.map pv124)), (7, .int .i64 (a0.Spans.length : Int)), (8, .int .i64 v52), (32, .bool true)] [((.loc 0 0), [.sl 124 .ro (a0.Spans.map pv124)])] ∧ j85 () = some r) ∨ (∃ (v86 : Bool), T = St.of [(1, .ptr (.loc 0 0) 0), (6, .sl 124 .ro (a0.Spans.map pv124)), (7, .int .i64 (a0.Spans.length : Int)), (8, .int .i64 v52), (32, .bool v86)] [((.loc 0 0), [.sl 124 .ro (a0.Spans.map pv124)])] ∧ j87 v86 = some r) ∨ (T = St.of [(1, .ptr (.loc 0 0) 0), (6, .sl 124 .ro (a0.Spans.map pv124)), (7, .int .i64 (a0.Spans.length : Int)), (8, .int .i64 v52), (32, .bool false)] [((.loc 0 0), [.sl 124 .ro (a0.Spans.map pv124)])] ∧ j88 () = some r)) ?_ ?_
        · obtain ⟨y89, hy89, h⟩ := bindE h
          rcases bool_em (!y89) with hc90 | hc90
          · replace h := (if_pos hc90).symm.trans h
            refine .draw [] [[], [], [], [], [], [], [], [], [], [], [], [], [], [], [], [], [], [], [], []] [[], [], [], [], [], [], [], [], [], [], [], [], [], [], [], [], [], [], [], []] [[]]
              [(0, 0), (1, 0), (2, 0), (3, 0), (4, 0), (5, 0), (6, 0), (7, 0), (8, 0), (9, 0), (10, 0), (11, 0), (12, 0), (13, 0), (14, 0), (15, 0), (16, 0), (17, 0), (18, 0), (19, 0)] [] 0
              [⟨[(13, .agg [.int .i64 x80.Lo, .int .i64 x80.Hi]), (14, .bool y89), (15, .bool true), (16, .bool true), (17, .tup []), (18, .tup []), (19, .tup []), (20, .tup []), (21, .tup []), (22, .tup []), (23, .tup []), (24, .tup []), (25, .tup []), (26, .tup []), (27, .tup []), (28, .tup []), (29, .tup []), (30, .tup []), (31, .tup []), (32, .bool true), (1, .ptr (.loc 0 0) 0), (3, .int .i64 v52), (4, .ptr (.loc 3 3) 0), (6, .sl 124 .ro (a0.Spans.map pv124)), (7, .int .i64 (a0.Spans.length : Int)), (8, .int .i64 v52)], [], [((.loc 0 0), [.sl 124 .ro (a0.Spans.map pv124)]), ((.loc 3 3), [.int .i64 x80.Lo, .int .i64 x80.Hi])]⟩]
              [(1, .ptr (.loc 0 0) 0), (3, .int .i64 v52), (4, .ptr (.loc 3 3) 0), (6, .sl 124 .ro (a0.Spans.map pv124)), (7, .int .i64 (a0.Spans.length : Int)), (8, .int .i64 v52)]
              (.cons [4] [] (fun _ _ h => .val (h _)) rfl rfl <|
              .cons [13] [] (fun _ _ h => .cP (g130 hy89) (h _)) rfl rfl <|
              .cons [14] [] (fun _ _ h => .valB hc90 (h _)) rfl rfl <|
              .cons [15] [] (fun _ _ h => .move (h _)) rfl rfl <|
              .cons [16] [] (fun _ _ h => .skip (h _)) rfl rfl <|
              .cons [16] [] (fun _ _ h => .skip (h _)) rfl rfl <|
              .cons [16] [] (fun _ _ h => .skip (h _)) rfl rfl <|
              .cons [19] [] (fun _ _ h => .skip (h _)) rfl rfl <|
              .cons [19] [] (fun _ _ h => .skip (h _)) rfl rfl <|
              .cons [19] [] (fun _ _ h => .skip (h _)) rfl rfl <|
              .cons [19] [] (fun _ _ h => .skip (h _)) rfl rfl <|
              .cons [19] [] (fun _ _ h => .skip (h _)) rfl rfl <|
              .cons [19] [] (fun _ _ h => .skip (h _)) rfl rfl <|
              .cons [19] [] (fun _ _ h => .skip (h _)) rfl rfl <|
              .cons [19] [] (fun _ _ h => .skip (h _)) rfl rfl <|
              .cons [19] [] (fun _ _ h => .skip (h _)) rfl rfl <|
              .cons [19] [] (fun _ _ h => .skip (h _)) rfl rfl <|
              .cons [19] [] (fun _ _ h => .skip (h _)) rfl rfl <|
              .cons [16] [] (fun _ _ h => .skip (h _)) rfl rfl <|
              .cons [16, 31] [] (fun _ _ h => .brT (h _)) rfl rfl <|
              .nil)
              (.nil)
              (by kernel_rfl) rfl (.cons rfl (.cons rfl (.cons rfl (.cons rfl (.cons rfl (.cons rfl (.nil))))))) (.nil) (.cons rfl (.cons rfl (.nil))) ?_
            exact ⟨_, (.inl ⟨rfl, h⟩), (imp_of (.cons rfl (.cons rfl (.cons rfl (.cons rfl (.cons rfl (.nil)))))) (.cons rfl (.nil)))⟩
          · replace h := (if_neg (nt hc90)).symm.trans h
            rcases bool_em (decide (v52 > (0 : Int))) with hc91 | hc91
            · replace h := (if_pos hc91).symm.trans h
              obtain ⟨x92, hx92, h⟩ := bindE h
              refine .draw [] [[], [], [], [], [], [], [], [], [], [], [], [], [], [], [], [], [], [], [], []] [[], [], [], [], [], [], [], [], [], [], [], [], [], [], [], [], [], [], [], []] [[]]
                [(0, 0), (1, 0), (2, 0), (3, 0), (4, 0), (5, 0), (6, 0), (7, 0), (8, 0), (9, 0), (10, 0), (11, 0), (12, 0), (13, 0), (14, 0), (15, 0), (16, 0), (17, 0), (18, 0), (19, 0)] [] 0
                [⟨[(13, .agg [.int .i64 x80.Lo, .int .i64 x80.Hi]), (14, .bool y89), (15, .bool false), (16, .bool false), (17, .int .i64 v52), (18, .bool true), (19, .bool true), (20, .ptr (.loc 3 3) 0), (21, .int .i64 x80.Lo), (22, .ptr (.loc 0 0) 0), (23, .sl 124 .ro (a0.Spans.map pv124)), (24, .int .i64 v52), (25, .int .i64 (w64 (v52 - (1 : Int)))), (26, .ep 124 .ro (a0.Spans.map pv124) (w64 (v52 - (1 : Int)) : Int).toNat 0), (27, .ep 124 .ro (a0.Spans.map pv124) (w64 (v52 - (1 : Int)) : Int).toNat 1), (28, .int .i64 x92.Hi), (29, .int .i64 (w64 (x92.Hi + (1 : Int)))), (30, .bool (decide (x80.Lo ≤ (w64 (x92.Hi + (1 : Int)))))), (31, .bool (decide (x80.Lo ≤ (w64 (x92.Hi + (1 : Int)))))), (32, .bool (decide (x80.Lo ≤ (w64 (x92.Hi + (1 : Int)))))), (1, .ptr (.loc 0 0) 0), (3, .int .i64 v52), (4, .ptr (.loc 3 3) 0), (6, .sl 124 .ro (a0.Spans.map pv124)), (7, .int .i64 (a0.Spans.length : Int)), (8, .int .i64 v52)], [], [((.loc 0 0), [.sl 124 .ro (a0.Spans.map pv124)]), ((.loc 3 3), [.int .i64 x80.Lo, .int .i64 x80.Hi])]⟩]
                [(1, .ptr (.loc 0 0) 0), (3, .int .i64 v52), (4, .ptr (.loc 3 3) 0), (6, .sl 124 .ro (a0.Spans.map pv124)), (7, .int .i64 (a0.Spans.length : Int)), (8, .int .i64 v52)]
                (.cons [4] [] (fun _ _ h => .val (h _)) rfl rfl <|
                .cons [13] [] (fun _ _ h => .cP (g130 hy89) (h _)) rfl rfl <|
                .cons [14] [] (fun _ _ h => .valB hc90 (h _)) rfl rfl <|
                .cons [15] [] (fun _ _ h => .move (h _)) rfl rfl <|
                .cons [3, 16] [] (fun _ _ h => .move (h _)) rfl rfl <|
                .cons [17, 16] [] (fun _ _ h => .valB hc91 (h _)) rfl rfl <|
                .cons [18, 16] [] (fun _ _ h => .move (h _)) rfl rfl <|
                .cons [4, 19] [] (fun _ _ h => .val (h _)) rfl rfl <|
                .cons [20, 19] [] (fun _ _ h => .val (h _)) rfl rfl <|
                .cons [1, 19] [] (fun _ _ h => .val (h _)) rfl rfl <|
                .cons [22, 19] [] (fun _ _ h => .val (h _)) rfl rfl <|
                .cons [3, 19] [] (fun _ _ h => .move (h _)) rfl rfl <|
                .cons [24, 19] [] (fun _ _ h => .val (h _)) rfl rfl <|
                .cons [23, 25, 19] [] (fun _ _ h => .idxL (f := pv124) hx92 (h _)) rfl rfl <|
                .cons [26, 19] [] (fun _ _ h => .val (h _)) rfl rfl <|
                .cons [27, 19] [] (fun _ _ h => .ldL hx92 (h _)) rfl rfl <|
                .cons [28, 19] [] (fun _ _ h => .val (h _)) rfl rfl <|
                .cons [21, 29, 19] [] (fun _ _ h => .val (h _)) rfl rfl <|
                .cons [19, 30, 16] [] (fun _ _ h => .brT (h _)) rfl rfl <|
                .cons [16, 31] [] (fun _ _ h => .brF (h _)) rfl rfl <|
                .nil)
                (.nil)
                (by kernel_rfl) rfl (.cons rfl (.cons rfl (.cons rfl (.cons rfl (.cons rfl (.cons rfl (.nil))))))) (.nil) (.cons rfl (.cons rfl (.nil))) ?_
              exact ⟨_, (.inr (.inl ⟨_, rfl, h⟩)), (imp_of (.cons rfl (.cons rfl (.cons rfl (.cons rfl (.cons rfl (.nil)))))) (.cons rfl (.nil)))⟩
            · replace h := (if_neg (nt hc91)).symm.trans h
              refine .draw [] [[], [], [], [], [], [], [], [], [], [], [], [], [], [], [], [], [], [], [], []] [[], [], [], [], [], [], [], [], [], [], [], [], [], [], [], [], [], [], [], []] [[]]
                [(0, 0), (1, 0), (2, 0), (3, 0), (4, 0), (5, 0), (6, 0), (7, 0), (8, 0), (9, 0), (10, 0), (11, 0), (12, 0), (13, 0), (14, 0), (15, 0), (16, 0), (17, 0), (18, 0), (19, 0)] [] 0
                [⟨[(13, .agg [.int .i64 x80.Lo, .int .i64 x80.Hi]), (14, .bool y89), (15, .bool false), (16, .bool false), (17, .int .i64 v52), (18, .bool false), (19, .bool false), (20, .tup []), (21, .tup []), (22, .tup []), (23, .tup []), (24, .tup []), (25, .tup []), (26, .tup []), (27, .tup []), (28, .tup []), (29, .tup []), (30, .tup []), (31, .bool false), (32, .bool false), (1, .ptr (.loc 0 0) 0), (3, .int .i64 v52), (4, .ptr (.loc 3 3) 0), (6, .sl 124 .ro (a0.Spans.map pv124)), (7, .int .i64 (a0.Spans.length : Int)), (8, .int .i64 v52)], [], [((.loc 0 0), [.sl 124 .ro (a0.Spans.map pv124)]), ((.loc 3 3), [.int .i64 x80.Lo, .int .i64 x80.Hi])]⟩]
                [(1, .ptr (.loc 0 0) 0), (3, .int .i64 v52), (4, .ptr (.loc 3 3) 0), (6, .sl 124 .ro (a0.Spans.map pv124)), (7, .int .i64 (a0.Spans.length : Int)), (8, .int .i64 v52)]
                (.cons [4] [] (fun _ _ h => .val (h _)) rfl rfl <|
                .cons [13] [] (fun _ _ h => .cP (g130 hy89) (h _)) rfl rfl <|
                .cons [14] [] (fun _ _ h => .valB hc90 (h _)) rfl rfl <|
                .cons [15] [] (fun _ _ h => .move (h _)) rfl rfl <|
                .cons [3, 16] [] (fun _ _ h => .move (h _)) rfl rfl <|
                .cons [17, 16] [] (fun _ _ h => .valB hc91 (h _)) rfl rfl <|
                .cons [18, 16] [] (fun _ _ h => .move (h _)) rfl rfl <|
                .cons [19] [] (fun _ _ h => .skip (h _)) rfl rfl <|
                .cons [19] [] (fun _ _ h => .skip (h _)) rfl rfl <|
                .cons [19] [] (fun _ _ h => .skip (h _)) rfl rfl <|
                .cons [19] [] (fun _ _ h => .skip (h _)) rfl rfl <|
                .cons [19] [] (fun _ _ h => .skip (h _)) rfl rfl <|
                .cons [19] [] (fun _ _ h => .skip (h _)) rfl rfl <|
                .cons [19] [] (fun _ _ h => .skip (h _)) rfl rfl <|
                .cons [19] [] (fun _ _ h => .skip (h _)) rfl rfl <|
                .cons [19] [] (fun _ _ h => .skip (h _)) rfl rfl <|
                .cons [19] [] (fun _ _ h => .skip (h _)) rfl rfl <|
                .cons [19] [] (fun _ _ h => .skip (h _)) rfl rfl <|
                .cons [19, 30, 16] [] (fun _ _ h => .brF (h _)) rfl rfl <|
                .cons [16, 31] [] (fun _ _ h => .brF (h _)) rfl rfl <|
                .nil)
                (.nil)
                (by kernel_rfl) rfl (.cons rfl (.cons rfl (.cons rfl (.cons rfl (.cons rfl (.cons rfl (.nil))))))) (.nil) (.cons rfl (.cons rfl (.nil))) ?_
              exact ⟨_, (.inr (.inr (⟨rfl, h⟩))), (imp_of (.cons rfl (.cons rfl (.cons rfl (.cons rfl (.cons rfl (.nil)))))) (.cons rfl (.nil)))⟩
        · rintro T (⟨rfl, h⟩ | ⟨v86, rfl, h⟩ | ⟨rfl, h⟩)
          · subst hj85
            refine .condT ?_
            refine .seq ?_
            refine .region ?_
            refine .assign ?_
            refine .nil ?_
            cases h
            exact .ret (fin_gen0 none)
          · subst hj87
            refine .cond (fun hc93 => ?_) (fun hc93 => ?_)
            · replace h := (if_pos hc93).symm.trans h
              refine .seq ?_
              refine .region ?_
              refine .assign ?_
              refine .nil ?_
              cases h
              exact .ret (fin_gen0 none)
            · replace h := (if_neg (nt hc93)).symm.trans h
              refine .skip ?_
              exact ⟨_, ⟨rfl, h⟩, (imp_of (.cons rfl (.cons rfl (.cons rfl (.cons rfl (.nil))))) (.cons rfl (.nil)))⟩
          · subst hj88
            refine .condF ?_
            refine .skip ?_
            exact ⟨_, ⟨rfl, h⟩, (imp_of (.cons rfl (.cons rfl (.cons rfl (.cons rfl (.nil))))) (.cons rfl (.nil)))⟩
      · rintro T ⟨rfl, h⟩
        subst hj79
        refine .region ?_
        refine .val ?_
        refine .move ?_
        refine .nil ?_
        exact ⟨m66, _, Nat.lt_succ_self m66, ⟨_, rfl, h⟩, (imp_of (.cons rfl (.cons rfl (.cons rfl (.cons rfl (.nil))))) (.cons rfl (.nil)))⟩
    · replace h := (if_neg (nt hc68)).symm.trans h
      refine .exit (.hit ?_)
      exact ⟨_, ⟨rfl, h⟩, (imp_of (.cons rfl (.nil)) (.cons rfl (.nil)))⟩
  · rintro T ⟨rfl, h⟩
    subst hj39
    refine .seq ?_
    refine .region ?_
    refine .val ?_
    refine .val ?_
    refine .lenL (f := pv124) ?_
    refine .val ?_
    refine .assign ?_
    refine .nil ?_
    cases h
    exact .ret (fin_gen0 none)

/- slices.Index[[]int,int] -/
def f131_l1 (n : Nat) (a0 : (List Int)) (a1 : Int) (j12 : Unit → Option Int) : Nat → Int → Option Int
  | 0, _ => none
  | m21 + 1, v16 =>
    if decide (v16 < (a0.length : Int)) then (
    (lAt a0 v16).bind fun x26 =>
    if (a1 == x26) then (
    some v16)
    else (
    f131_l1 n a0 a1 j12 m21 (w64 (v16 + (1 : Int)))))
    else (
    j12 ())
def f131 (n : Nat) (a0 : (List Int)) (a1 : Int) : Option Int :=
  joinK (fun (_ : Unit) =>
  some (-1)) fun j12 =>
  f131_l1 n a0 a1 j12 n 0
set_option maxHeartbeats 4000000 in
set_option maxRecDepth 100000 in
theorem g131 {n : Nat} {a0 : (List Int)} {a1 : Int} {r : Int} (h : f131 n a0 a1 = some r) :
    Ab.Can Try.prog 131 [.sl 3 .ro (a0.map (PV.int .i64)), .int .i64 a1] H0 (.int .i64 r) H0 := by
  refine can_of tabOK mix Try.call131 Try.func131 rfl (by kernel_rfl) (by show _ ≤ 19; simp) fun _ => ?_
  rw [f131] at h
  refine .seq ?_
  refine .region ?_
  refine .assign ?_
  refine .nil ?_
  obtain ⟨j12, hj12, h⟩ := joinE h
  refine .cutI (fun T => (T = St.of [] [] ∧ j12 () = some r)) ?_ ?_
  · refine .seq ?_
    refine .region ?_
    refine .move ?_
    refine .lenL (f := (PV.int .i64)) ?_
    refine .move ?_
    refine .nil ?_
    refine .block ?_
    refine .loopI (fun m T => ∃ (v16 : Int), T = St.of [(0, .sl 3 .ro (a0.map (PV.int .i64))), (1, .int .i64 a1), (7, .int .i64 (a0.length : Int)), (8, .int .i64 v16)] [] ∧ f131_l1 n a0 a1 j12 m v16 = some r) _ _ ⟨_, rfl, h⟩ (imp_of (.cons rfl (.cons rfl (.cons rfl (.cons rfl (.nil))))) (.nil)) ?_
    rintro m21 T ⟨v16, rfl, h⟩
    obtain _ | m21 := m21
    · rw [f131_l1] at h; cases h
    rw [f131_l1] at h
    refine .seq ?_
    refine .region ?_
    refine .val ?_
    refine .nil ?_
    refine .seq ?_
    refine .cond (fun hc23 => ?_) (fun hc23 => ?_)
    · replace h := (if_pos hc23).symm.trans h
      refine .skip ?_
      refine .seq ?_
      refine .block ?_
      refine .seq ?_
      refine .region ?_
      refine .move ?_
      refine .assign ?_
      refine .nil ?_
      refine .seq ?_
      refine .region ?_
      refine .move ?_
      refine .move ?_
      refine .move ?_
      obtain ⟨x26, hx26, h⟩ := bindE h
      refine .idxL (f := (PV.int .i64)) hx26 ?_
      refine .ldL hx26 (y := .int .i64 x26) ?_
      refine .val ?_
      refine .nil ?_
      refine .cond (fun hc27 => ?_) (fun hc27 => ?_)
      · replace h := (if_pos hc27).symm.trans h
        refine .seq ?_
        refine .region ?_
        refine .move ?_
        refine .assign ?_
        refine .nil ?_
        cases h
        exact .ret (fin_gen0 none)
      · replace h := (if_neg (nt hc27)).symm.trans h
        refine .skip ?_
        refine .region ?_
        refine .val ?_
        refine .move ?_
        refine .nil ?_
        exact ⟨m21, _, Nat.lt_succ_self m21, ⟨_, rfl, h⟩, (imp_of (.cons rfl (.cons rfl (.cons rfl (.cons rfl (.nil))))) (.nil))⟩
    · replace h := (if_neg (nt hc23)).symm.trans h
      refine .exit (.hit ?_)
      exact ⟨_, ⟨rfl, h⟩, (imp_of (.nil) (.nil))⟩
  · rintro T ⟨rfl, h⟩
    subst hj12
    refine .seq ?_
    refine .region ?_
    refine .assign ?_
    refine .nil ?_
    cases h
    exact .ret (fin_gen0 none)

/- slices.Contains[[]int,int] -/
def f122 (n : Nat) (a0 : (List Int)) (a1 : Int) : Option Bool :=
  (f131 n a0 a1).bind fun y1 =>
  some (decide (y1 ≥ (0 : Int)))
set_option maxHeartbeats 4000000 in
set_option maxRecDepth 100000 in
theorem g122 {n : Nat} {a0 : (List Int)} {a1 : Int} {r : Bool} (h : f122 n a0 a1 = some r) :
    Ab.Can Try.prog 122 [.sl 3 .ro (a0.map (PV.int .i64)), .int .i64 a1] H0 (.bool r) H0 := by
  refine can_of tabOK mix Try.call122 Try.func122 rfl (by kernel_rfl) (by show _ ≤ 9; simp) fun _ => ?_
  rw [f122] at h
  refine .seq ?_
  refine .region ?_
  refine .assign ?_
  refine .nil ?_
  refine .seq ?_
  refine .region ?_
  refine .move ?_
  refine .move ?_
  obtain ⟨y1, hy1, h⟩ := bindE h
  refine .cP (g131 hy1) ?_
  refine .val ?_
  refine .assign ?_
  refine .nil ?_
  cases h
  exact .ret (fin_gen0 none)

/- soundservice/channels.Valid -/
def f112_l1 (n : Nat) (a0 : (List Int)) (j42 : Unit → Option Bool) : Nat → Int → Option Bool
  | 0, _ => none
  | m65 + 1, v53 =>
    if decide (v53 < (a0.length : Int)) then (
    (lAt a0 v53).bind fun x77 =>
    joinK (fun (_ : Unit) =>
    some false) fun j82 =>
    joinK (fun (v83 : Bool) =>
    if v83 then (
    some false)
    else (
    f112_l1 n a0 j42 m65 (w64 (v53 + (1 : Int))))) fun j84 =>
    if decide (x77 < (1 : Int)) then (
    j82 ())
    else (
    if decide (x77 > (8 : Int)) then (
    j82 ())
    else (
    (lPart a0 (0 : Int) v53).bind fun x87 =>
    (f122 n x87 x77).bind fun y88 =>
    j84 y88)))
    else (
    j42 ())
def f112 (n : Nat) (a0 : (List Int)) : Option Bool :=
  joinK (fun (_ : Unit) =>
  some false) fun j6 =>
  joinK (fun (_ : Unit) =>
  if decide ((a0.length : Int) > (8 : Int)) then (
  some false)
  else (
  joinK (fun (_ : Unit) =>
  some true) fun j42 =>
  f112_l1 n a0 j42 n 0)) fun j7 =>
  if decide ((a0.length : Int) < (1 : Int)) then (
  j6 ())
  else (
  j7 ())
set_option maxHeartbeats 4000000 in
set_option maxRecDepth 100000 in
theorem g112 {n : Nat} {a0 : (List Int)} {r : Bool} (h : f112 n a0 = some r) :
    Ab.Can Try.prog 112 [.sl 3 .ro (a0.map (PV.int .i64))] H0 (.bool r) H0 := by
  refine can_of tabOK mix Try.call112 Try.func112 rfl (by kernel_rfl) (by show _ ≤ 34; simp) fun _ => ?_
  rw [f112] at h
  refine .seq ?_
  refine .region ?_
  refine .assign ?_
  refine .nil ?_
  refine .seq ?_
  obtain ⟨j6, hj6, h⟩ := joinE h
  obtain ⟨j7, hj7, h⟩ := joinE h
  refine .cutI (fun T => (T = St.of [(0, .sl 3 .ro (a0.map (PV.int .i64))), (12, .bool true)] [] ∧ j6 () = some r) ∨ (T = St.of [(0, .sl 3 .ro (a0.map (PV.int .i64))), (12, .bool (decide ((a0.length : Int) > (8 : Int))))] [] ∧ j7 () = some r)) ?_ ?_
  · refine .region ?_
    refine .move ?_
    refine .lenL (f := (PV.int .i64)) ?_
    refine .val ?_
    refine .move ?_
    refine .caseG (fun hc8 => ?_) (fun hc8 => ?_)
    · replace h := (if_pos hc8).symm.trans h
      refine .skip ?_
      refine .skip ?_
      refine .skip ?_
      refine .brT ?_
      refine .nil ?_
      exact ⟨_, (.inl ⟨rfl, h⟩), (imp_of (.cons rfl (.cons rfl (.nil))) (.nil))⟩
    · replace h := (if_neg (nt hc8)).symm.trans h
      refine .move ?_
      refine .lenL (f := (PV.int .i64)) ?_
      refine .val ?_
      refine .brF ?_
      refine .nil ?_
      exact ⟨_, (.inr (⟨rfl, h⟩)), (imp_of (.cons rfl (.cons rfl (.nil))) (.nil))⟩
  · rintro T (⟨rfl, h⟩ | ⟨rfl, h⟩)
    · subst hj6
      refine .condT ?_
      refine .seq ?_
      refine .region ?_
      refine .assign ?_
      refine .nil ?_
      cases h
      exact .ret (fin_gen0 none)
    · subst hj7
      refine .cond (fun hc9 => ?_) (fun hc9 => ?_)
      · replace h := (if_pos hc9).symm.trans h
        refine .seq ?_
        refine .region ?_
        refine .assign ?_
        refine .nil ?_
        cases h
        exact .ret (fin_gen0 none)
      · replace h := (if_neg (nt hc9)).symm.trans h
        refine .skip ?_
        obtain ⟨j42, hj42, h⟩ := joinE h
        refine .cutI (fun T => (T = St.of [] [] ∧ j42 () = some r)) ?_ ?_
        · refine .seq ?_
          refine .region ?_
          refine .move ?_
          refine .lenL (f := (PV.int .i64)) ?_
          refine .move ?_
          refine .nil ?_
          refine .block ?_
          refine .loopI (fun m T => ∃ (v53 : Int), T = St.of [(0, .sl 3 .ro (a0.map (PV.int .i64))), (13, .sl 3 .ro (a0.map (PV.int .i64))), (14, .int .i64 (a0.length : Int)), (15, .int .i64 v53)] [] ∧ f112_l1 n a0 j42 m v53 = some r) _ _ ⟨_, rfl, h⟩ (imp_of (.cons rfl (.cons rfl (.cons rfl (.cons rfl (.nil))))) (.nil)) ?_
          rintro m65 T ⟨v53, rfl, h⟩
          obtain _ | m65 := m65
          · rw [f112_l1] at h; cases h
          rw [f112_l1] at h
          refine .seq ?_
          refine .region ?_
          refine .val ?_
          refine .nil ?_
          refine .seq ?_
          refine .cond (fun hc67 => ?_) (fun hc67 => ?_)
          · replace h := (if_pos hc67).symm.trans h
            refine .skip ?_
            refine .seq ?_
            refine .block ?_
            refine .seq ?_
            refine .region ?_
            refine .move ?_
            obtain ⟨x77, hx77, h⟩ := bindE h
            refine .idxL (f := (PV.int .i64)) hx77 ?_
            refine .ldL hx77 (y := .int .i64 x77) ?_
            refine .assign ?_
            refine .assign ?_
            refine .nil ?_
            obtain ⟨j82, hj82, h⟩ := joinE h
            obtain ⟨j84, hj84, h⟩ := joinE h
            refine .cutI (fun T => (T = St.of [(0, .sl 3 .ro (a0.map (PV.int .i64))), (13, .sl 3 .ro (a0.map (PV.int .i64))), (14, .int .i64 (a0.length : Int)), (15, .int .i64 v53), (32, .bool true)] [] ∧ j82 () = some r) ∨ (∃ (v83 : Bool), T = St.of [(0, .sl 3 .ro (a0.map (PV.int .i64))), (13, .sl 3 .ro (a0.map (PV.int .i64))), (14, .int .i64 (a0.length : Int)), (15, .int .i64 v53), (32, .bool v83)] [] ∧ j84 v83 = some r)) ?_ ?_
            · refine .region ?_
              refine .move ?_
              refine .val ?_
              refine .move ?_
              refine .caseG (fun hc85 => ?_) (fun hc85 => ?_)
              · replace h := (if_pos hc85).symm.trans h
                refine .skip ?_
                refine .skip ?_
                refine .brT ?_
                refine .move ?_
                refine .skip ?_
                refine .skip ?_
                refine .skip ?_
                refine .skip ?_
                refine .skip ?_
                refine .brT ?_
                refine .nil ?_
                exact ⟨_, (.inl ⟨rfl, h⟩), (imp_of (.cons rfl (.cons rfl (.cons rfl (.cons rfl (.cons rfl (.nil)))))) (.nil))⟩
              · replace h := (if_neg (nt hc85)).symm.trans h
                refine .move ?_
                refine .val ?_
                refine .brF ?_
                refine .move ?_
                refine .caseG (fun hc86 => ?_) (fun hc86 => ?_)
                · replace h := (if_pos hc86).symm.trans h
                  refine .skip ?_
                  refine .skip ?_
                  refine .skip ?_
                  refine .skip ?_
                  refine .skip ?_
                  refine .brT ?_
                  refine .nil ?_
                  exact ⟨_, (.inl ⟨rfl, h⟩), (imp_of (.cons rfl (.cons rfl (.cons rfl (.cons rfl (.cons rfl (.nil)))))) (.nil))⟩
                · replace h := (if_neg (nt hc86)).symm.trans h
                  refine .move ?_
                  refine .move ?_
                  obtain ⟨x87, hx87, h⟩ := bindE h
                  refine .partL (f := (PV.int .i64)) hx87 ?_
                  refine .move ?_
                  obtain ⟨y88, hy88, h⟩ := bindE h
                  refine .cP (g122 hy88) ?_
                  refine .brF ?_
                  refine .nil ?_
                  exact ⟨_, (.inr (⟨_, rfl, h⟩)), (imp_of (.cons rfl (.cons rfl (.cons rfl (.cons rfl (.cons rfl (.nil)))))) (.nil))⟩
            · rintro T (⟨rfl, h⟩ | ⟨v83, rfl, h⟩)
              · subst hj82
                refine .condT ?_
                refine .seq ?_
                refine .region ?_
                refine .assign ?_
                refine .nil ?_
                cases h
                exact .ret (fin_gen0 none)
              · subst hj84
                refine .cond (fun hc89 => ?_) (fun hc89 => ?_)
                · replace h := (if_pos hc89).symm.trans h
                  refine .seq ?_
                  refine .region ?_
                  refine .assign ?_
                  refine .nil ?_
                  cases h
                  exact .ret (fin_gen0 none)
                · replace h := (if_neg (nt hc89)).symm.trans h
                  refine .skip ?_
                  refine .region ?_
                  refine .val ?_
                  refine .move ?_
                  refine .nil ?_
                  exact ⟨m65, _, Nat.lt_succ_self m65, ⟨_, rfl, h⟩, (imp_of (.cons rfl (.cons rfl (.cons rfl (.cons rfl (.nil))))) (.nil))⟩
          · replace h := (if_neg (nt hc67)).symm.trans h
            refine .exit (.hit ?_)
            exact ⟨_, ⟨rfl, h⟩, (imp_of (.nil) (.nil))⟩
        · rintro T ⟨rfl, h⟩
          subst hj42
          refine .seq ?_
          refine .region ?_
          refine .assign ?_
          refine .nil ?_
          cases h
          exact .ret (fin_gen0 none)

/- slices.Equal[[]int,int] -/
def f133_l1 (n : Nat) (a0 : (List Int)) (a1 : (List Int)) (j17 : Unit → Option Bool) : Nat → Int → Option Bool
  | 0, _ => none
  | m28 + 1, v22 =>
    if decide (v22 < (a0.length : Int)) then (
    (lAt a0 v22).bind fun x34 =>
    (lAt a1 v22).bind fun x35 =>
    if (x34 != x35) then (
    some false)
    else (
    f133_l1 n a0 a1 j17 m28 (w64 (v22 + (1 : Int)))))
    else (
    j17 ())
def f133 (n : Nat) (a0 : (List Int)) (a1 : (List Int)) : Option Bool :=
  if ((a0.length : Int) != (a1.length : Int)) then (
  some false)
  else (
  joinK (fun (_ : Unit) =>
  some true) fun j17 =>
  f133_l1 n a0 a1 j17 n 0)
set_option maxHeartbeats 4000000 in
set_option maxRecDepth 100000 in
theorem g133 {n : Nat} {a0 : (List Int)} {a1 : (List Int)} {r : Bool} (h : f133 n a0 a1 = some r) :
    Ab.Can Try.prog 133 [.sl 3 .ro (a0.map (PV.int .i64)), .sl 3 .ro (a1.map (PV.int .i64))] H0 (.bool r) H0 := by
  refine can_of tabOK mix Try.call133 Try.func133 rfl (by kernel_rfl) (by show _ ≤ 26; simp) fun _ => ?_
  rw [f133] at h
  refine .seq ?_
  refine .region ?_
  refine .assign ?_
  refine .nil ?_
  refine .seq ?_
  refine .seq ?_
  refine .region ?_
  refine .move ?_
  refine .lenL (f := (PV.int .i64)) ?_
  refine .move ?_
  refine .lenL (f := (PV.int .i64)) ?_
  refine .val ?_
  refine .nil ?_
  refine .cond (fun hc2 => ?_) (fun hc2 => ?_)
  · replace h := (if_pos hc2).symm.trans h
    refine .seq ?_
    refine .region ?_
    refine .assign ?_
    refine .nil ?_
    cases h
    exact .ret (fin_gen0 none)
  · replace h := (if_neg (nt hc2)).symm.trans h
    refine .skip ?_
    obtain ⟨j17, hj17, h⟩ := joinE h
    refine .cutI (fun T => (T = St.of [] [] ∧ j17 () = some r)) ?_ ?_
    · refine .seq ?_
      refine .region ?_
      refine .move ?_
      refine .lenL (f := (PV.int .i64)) ?_
      refine .move ?_
      refine .nil ?_
      refine .block ?_
      refine .loopI (fun m T => ∃ (v22 : Int), T = St.of [(0, .sl 3 .ro (a0.map (PV.int .i64))), (1, .sl 3 .ro (a1.map (PV.int .i64))), (12, .int .i64 (a0.length : Int)), (13, .int .i64 v22)] [] ∧ f133_l1 n a0 a1 j17 m v22 = some r) _ _ ⟨_, rfl, h⟩ (imp_of (.cons rfl (.cons rfl (.cons rfl (.cons rfl (.nil))))) (.nil)) ?_
      rintro m28 T ⟨v22, rfl, h⟩
      obtain _ | m28 := m28
      · rw [f133_l1] at h; cases h
      rw [f133_l1] at h
      refine .seq ?_
      refine .region ?_
      refine .val ?_
      refine .nil ?_
      refine .seq ?_
      refine .cond (fun hc30 => ?_) (fun hc30 => ?_)
      · replace h := (if_pos hc30).symm.trans h
        refine .skip ?_
        refine .seq ?_
        refine .block ?_
        refine .seq ?_
        refine .region ?_
        refine .move ?_
        refine .assign ?_
        refine .nil ?_
        refine .seq ?_
        obtain ⟨x34, hx34, h⟩ := bindE h
        obtain ⟨x35, hx35, h⟩ := bindE h
        refine .draw [] [[], [], [], [], [], [], [], [], []] [[], [], [], [], [], [], [], [], []] [[]]
          [(0, 0), (1, 0), (2, 0), (3, 0), (4, 0), (5, 0), (6, 0), (7, 0), (8, 0)] [] 0
          [⟨[(16, .sl 3 .ro (a0.map (PV.int .i64))), (17, .int .i64 v22), (18, .ep 3 .ro (a0.map (PV.int .i64)) (v22 : Int).toNat 0), (19, .int .i64 x34), (20, .sl 3 .ro (a1.map (PV.int .i64))), (21, .int .i64 v22), (22, .ep 3 .ro (a1.map (PV.int .i64)) (v22 : Int).toNat 0), (23, .int .i64 x35), (24, .bool (x34 != x35)), (0, .sl 3 .ro (a0.map (PV.int .i64))), (1, .sl 3 .ro (a1.map (PV.int .i64))), (5, .int .i64 v22), (12, .int .i64 (a0.length : Int)), (13, .int .i64 v22)], [], []⟩]
          [(0, .sl 3 .ro (a0.map (PV.int .i64))), (1, .sl 3 .ro (a1.map (PV.int .i64))), (5, .int .i64 v22), (12, .int .i64 (a0.length : Int)), (13, .int .i64 v22)]
          (.cons [0] [] (fun _ _ h => .move (h _)) rfl rfl <|
          .cons [5] [] (fun _ _ h => .move (h _)) rfl rfl <|
          .cons [16, 17] [] (fun _ _ h => .idxL (f := (PV.int .i64)) hx34 (h _)) rfl rfl <|
          .cons [18] [] (fun _ _ h => .ldL hx34 (h _)) rfl rfl <|
          .cons [1] [] (fun _ _ h => .move (h _)) rfl rfl <|
          .cons [5] [] (fun _ _ h => .move (h _)) rfl rfl <|
          .cons [20, 21] [] (fun _ _ h => .idxL (f := (PV.int .i64)) hx35 (h _)) rfl rfl <|
          .cons [22] [] (fun _ _ h => .ldL hx35 (h _)) rfl rfl <|
          .cons [19, 23] [] (fun _ _ h => .val (h _)) rfl rfl <|
          .nil)
          (.nil)
          (by kernel_rfl) rfl (.cons rfl (.cons rfl (.cons rfl (.cons rfl (.cons rfl (.nil)))))) (.nil) (.nil) ?_
        refine .imp (T := St.of [(0, .sl 3 .ro (a0.map (PV.int .i64))), (1, .sl 3 .ro (a1.map (PV.int .i64))), (12, .int .i64 (a0.length : Int)), (13, .int .i64 v22), (24, .bool (x34 != x35))] []) (imp_of (.cons rfl (.cons rfl (.cons rfl (.cons rfl (.cons rfl (.nil)))))) (.nil)) ?_
        refine .cond (fun hc36 => ?_) (fun hc36 => ?_)
        · replace h := (if_pos hc36).symm.trans h
          refine .seq ?_
          refine .region ?_
          refine .assign ?_
          refine .nil ?_
          cases h
          exact .ret (fin_gen0 none)
        · replace h := (if_neg (nt hc36)).symm.trans h
          refine .skip ?_
          refine .region ?_
          refine .val ?_
          refine .move ?_
          refine .nil ?_
          exact ⟨m28, _, Nat.lt_succ_self m28, ⟨_, rfl, h⟩, (imp_of (.cons rfl (.cons rfl (.cons rfl (.cons rfl (.nil))))) (.nil))⟩
      · replace h := (if_neg (nt hc30)).symm.trans h
        refine .exit (.hit ?_)
        exact ⟨_, ⟨rfl, h⟩, (imp_of (.nil) (.nil))⟩
    · rintro T ⟨rfl, h⟩
      subst hj17
      refine .seq ?_
      refine .region ?_
      refine .assign ?_
      refine .nil ?_
      cases h
      exact .ret (fin_gen0 none)

/- soundservice/channels.Same -/
def f125 (n : Nat) (a0 : (List Int)) (a1 : (List Int)) : Option Bool :=
  (f133 n a0 a1).bind fun y1 =>
  some y1
set_option maxHeartbeats 4000000 in
set_option maxRecDepth 100000 in
theorem g125 {n : Nat} {a0 : (List Int)} {a1 : (List Int)} {r : Bool} (h : f125 n a0 a1 = some r) :
    Ab.Can Try.prog 125 [.sl 3 .ro (a0.map (PV.int .i64)), .sl 3 .ro (a1.map (PV.int .i64))] H0 (.bool r) H0 := by
  refine can_of tabOK mix Try.call125 Try.func125 rfl (by kernel_rfl) (by show _ ≤ 8; simp) fun _ => ?_
  rw [f125] at h
  refine .seq ?_
  refine .region ?_
  refine .assign ?_
  refine .nil ?_
  refine .seq ?_
  refine .region ?_
  refine .move ?_
  refine .move ?_
  obtain ⟨y1, hy1, h⟩ := bindE h
  refine .cP (g133 hy1) ?_
  refine .assign ?_
  refine .nil ?_
  cases h
  exact .ret (fin_gen0 none)

/- soundservice/soundservicemade.New -/
def f69 (_n : Nat) (a0 : (List Int)) : Option Dice :=
  (lPart a0 (0 : Int) (iMin (a0.length : Int) (300 : Int))).bind fun x1 =>
  some (⟨x1⟩ : Dice)
set_option maxHeartbeats 4000000 in
set_option maxRecDepth 100000 in
theorem g69 {n : Nat} {a0 : (List Int)} {r : Dice} (h : f69 n a0 = some r) :
    Ab.Can Try.prog 69 [.sl 5 .ro (a0.map (PV.int .u8))] H0 (.ptr (.ret 0) 0) (lookH [(.ret 0, [.sl 5 .ro (r.l.map (PV.int .u8))])]) := by
  refine can_of tabOK mix Try.call69 Try.func69 rfl (by kernel_rfl) (by show _ ≤ 10; simp) fun _ => ?_
  rw [f69] at h
  refine .seq ?_
  refine .region ?_
  refine .assign ?_
  refine .nil ?_
  refine .seq ?_
  refine .region ?_
  refine .move ?_
  refine .move ?_
  refine .lenL (f := (PV.int .u8)) ?_
  refine .minL ?_
  obtain ⟨x1, hx1, h⟩ := bindE h
  refine .partL (f := (PV.int .u8)) hx1 ?_
  refine .buildL (cs := [.sl 5 .ro (x1.map (PV.int .u8))]) ?_
  refine .boxL (cs := [.sl 5 .ro (x1.map (PV.int .u8))]) ?_
  refine .assign ?_
  refine .nil ?_
  cases h
  exact .ret (fin_gen (some (.loc 1 6)) (.ret .nil))

/- (*soundservice/soundservicemade.Dice).Next -/
def f72 (_n : Nat) (a0 : Dice) (a1 : Int) : Option (Int × Dice) :=
  joinK (fun (_ : Unit) =>
  some (0, (⟨a0.l⟩ : Dice))) fun j6 =>
  joinK (fun (_ : Unit) =>
  if decide (a1 ≤ (1 : Int)) then (
  some (0, (⟨a0.l⟩ : Dice)))
  else (
  (lAt a0.l (0 : Int)).bind fun x10 =>
  (lPart a0.l (1 : Int) (a0.l.length : Int)).bind fun x11 =>
  (iRem (w64 (x10)) a1).bind fun x12 =>
  some (x12, (⟨x11⟩ : Dice)))) fun j7 =>
  if ((a0.l.length : Int) == (0 : Int)) then (
  j6 ())
  else (
  j7 ())
set_option maxHeartbeats 4000000 in
set_option maxRecDepth 100000 in
theorem g72 {n : Nat} {a0 : Dice} {a1 : Int} {r : (Int × Dice)} (h : f72 n a0 a1 = some r) :
    Ab.Can Try.prog 72 [.ptr (.par 0) 0, .int .i64 a1] (lookH [(.par 0, [.sl 5 .ro (a0.l.map (PV.int .u8))])]) (.int .i64 r.1) (lookH [(.par 0, [.sl 5 .ro (r.2.l.map (PV.int .u8))])]) := by
  refine can_of tabOK mix Try.call72 Try.func72 rfl (by kernel_rfl) (by show _ ≤ 34; simp) fun _ => ?_
  rw [f72] at h
  refine .seq ?_
  refine .region ?_
  refine .assign ?_
  refine .nil ?_
  refine .seq ?_
  obtain ⟨j6, hj6, h⟩ := joinE h
  obtain ⟨j7, hj7, h⟩ := joinE h
  refine .cutI (fun T => (T = St.of [(0, .ptr (.par 0) 0), (1, .int .i64 a1), (15, .bool true)] [((.par 0), [.sl 5 .ro (a0.l.map (PV.int .u8))])] ∧ j6 () = some r) ∨ (T = St.of [(0, .ptr (.par 0) 0), (1, .int .i64 a1), (15, .bool (decide (a1 ≤ (1 : Int))))] [((.par 0), [.sl 5 .ro (a0.l.map (PV.int .u8))])] ∧ j7 () = some r)) ?_ ?_
  · refine .region ?_
    refine .move ?_
    refine .val ?_
    refine .val ?_
    refine .val ?_
    refine .lenL (f := (PV.int .u8)) ?_
    refine .val ?_
    refine .move ?_
    refine .caseG (fun hc8 => ?_) (fun hc8 => ?_)
    · replace h := (if_pos hc8).symm.trans h
      refine .skip ?_
      refine .skip ?_
      refine .brT ?_
      refine .nil ?_
      exact ⟨_, (.inl ⟨rfl, h⟩), (imp_of (.cons rfl (.cons rfl (.cons rfl (.nil)))) (.cons rfl (.nil)))⟩
    · replace h := (if_neg (nt hc8)).symm.trans h
      refine .move ?_
      refine .val ?_
      refine .brF ?_
      refine .nil ?_
      exact ⟨_, (.inr (⟨rfl, h⟩)), (imp_of (.cons rfl (.cons rfl (.cons rfl (.nil)))) (.cons rfl (.nil)))⟩
  · rintro T (⟨rfl, h⟩ | ⟨rfl, h⟩)
    · subst hj6
      refine .condT ?_
      refine .seq ?_
      refine .region ?_
      refine .assign ?_
      refine .nil ?_
      cases h
      exact .ret (fin_gen none (.par .nil))
    · subst hj7
      refine .cond (fun hc9 => ?_) (fun hc9 => ?_)
      · replace h := (if_pos hc9).symm.trans h
        refine .seq ?_
        refine .region ?_
        refine .assign ?_
        refine .nil ?_
        cases h
        exact .ret (fin_gen none (.par .nil))
      · replace h := (if_neg (nt hc9)).symm.trans h
        refine .skip ?_
        refine .seq ?_
        refine .region ?_
        refine .move ?_
        refine .val ?_
        refine .val ?_
        refine .val ?_
        obtain ⟨x10, hx10, h⟩ := bindE h
        refine .idxL (f := (PV.int .u8)) hx10 ?_
        refine .ldL hx10 (y := .int .u8 x10) ?_
        refine .val ?_
        refine .assign ?_
        refine .nil ?_
        refine .seq ?_
        refine .region ?_
        refine .move ?_
        refine .move ?_
        refine .val ?_
        refine .val ?_
        refine .val ?_
        obtain ⟨x11, hx11, h⟩ := bindE h
        refine .partE (f := (PV.int .u8)) hx11 ?_
        refine .val ?_
        refine .val ?_
        refine .wrL (cs := [.sl 5 .ro (x11.map (PV.int .u8))]) ?_
        refine .nil ?_
        refine .seq ?_
        refine .region ?_
        refine .move ?_
        refine .move ?_
        obtain ⟨x12, hx12, h⟩ := bindE h
        refine .remL hx12 ?_
        refine .assign ?_
        refine .nil ?_
        cases h
        exact .ret (fin_gen none (.par .nil))

/- soundservice/soundserviceref02.letter -/
def f105 (_n : Nat) (a0 : Int) : Option Bool :=
  if decide (a0 ≥ (97 : Int)) then (
  if decide (a0 ≤ (122 : Int)) then (
  some true)
  else (
  if decide (a0 ≥ (65 : Int)) then (
  some (decide (a0 ≤ (90 : Int))))
  else (
  some false)))
  else (
  if decide (a0 ≥ (65 : Int)) then (
  some (decide (a0 ≤ (90 : Int))))
  else (
  some false))
set_option maxHeartbeats 4000000 in
set_option maxRecDepth 100000 in
theorem g105 {n : Nat} {a0 : Int} {r : Bool} (h : f105 n a0 = some r) :
    Ab.Can Try.prog 105 [.int .u8 a0] H0 (.bool r) H0 := by
  refine can_of tabOK mix Try.call105 Try.func105 rfl (by kernel_rfl) (by show _ ≤ 17; simp) fun _ => ?_
  rw [f105] at h
  refine .seq ?_
  refine .region ?_
  refine .assign ?_
  refine .nil ?_
  refine .seq ?_
  refine .region ?_
  refine .move ?_
  refine .val ?_
  refine .move ?_
  refine .caseG (fun hc5 => ?_) (fun hc5 => ?_)
  · replace h := (if_pos hc5).symm.trans h
    refine .move ?_
    refine .val ?_
    refine .brT ?_
    refine .move ?_
    refine .caseG (fun hc6 => ?_) (fun hc6 => ?_)
    · replace h := (if_pos hc6).symm.trans h
      refine .skip ?_
      refine .skip ?_
      refine .skip ?_
      refine .skip ?_
      refine .skip ?_
      refine .skip ?_
      refine .brT ?_
      refine .assign ?_
      refine .nil ?_
      cases h
      exact .ret (fin_gen0 none)
    · replace h := (if_neg (nt hc6)).symm.trans h
      refine .move ?_
      refine .val ?_
      refine .move ?_
      refine .caseG (fun hc7 => ?_) (fun hc7 => ?_)
      · replace h := (if_pos hc7).symm.trans h
        refine .move ?_
        refine .val ?_
        refine .brT ?_
        refine .brF ?_
        refine .assign ?_
        refine .nil ?_
        cases h
        exact .ret (fin_gen0 none)
      · replace h := (if_neg (nt hc7)).symm.trans h
        refine .skip ?_
        refine .skip ?_
        refine .brF ?_
        refine .brF ?_
        refine .assign ?_
        refine .nil ?_
        cases h
        exact .ret (fin_gen0 none)
  · replace h := (if_neg (nt hc5)).symm.trans h
    refine .skip ?_
    refine .skip ?_
    refine .brF ?_
    refine .move ?_
    refine .move ?_
    refine .val ?_
    refine .move ?_
    refine .caseG (fun hc8 => ?_) (fun hc8 => ?_)
    · replace h := (if_pos hc8).symm.trans h
      refine .move ?_
      refine .val ?_
      refine .brT ?_
      refine .brF ?_
      refine .assign ?_
      refine .nil ?_
      cases h
      exact .ret (fin_gen0 none)
    · replace h := (if_neg (nt hc8)).symm.trans h
      refine .skip ?_
      refine .skip ?_
      refine .brF ?_
      refine .brF ?_
      refine .assign ?_
      refine .nil ?_
      cases h
      exact .ret (fin_gen0 none)

/- soundservice/soundserviceref02.Name -/
def f92_l1 (n : Nat) (a0 : ByteArray) (j51 : Unit → Option Bool) : Nat → Int → Option Bool
  | 0, _ => none
  | m86 + 1, v68 =>
    if decide (v68 < (a0.size : Int)) then (
    joinK (fun (_ : Unit) =>
    f92_l1 n a0 j51 m86 (w64 (v68 + (1 : Int)))) fun j103 =>
    (sAt a0 v68).bind fun x104 =>
    joinK (fun (_ : Unit) =>
    some false) fun j114 =>
    joinK (fun (_ : Unit) =>
    if (x104 != (95 : Int)) then (
    some false)
    else (
    j103 ())) fun j115 =>
    joinK (fun (_ : Unit) =>
    j103 ()) fun j116 =>
    (f105 n x104).bind fun y117 =>
    if !y117 then (
    if (v68 == (0 : Int)) then (
    j114 ())
    else (
    if decide (x104 < (48 : Int)) then (
    if (x104 != (45 : Int)) then (
    if (x104 != (46 : Int)) then (
    j115 ())
    else (
    j116 ()))
    else (
    j116 ()))
    else (
    if decide (x104 > (57 : Int)) then (
    if (x104 != (45 : Int)) then (
    if (x104 != (46 : Int)) then (
    j115 ())
    else (
    j116 ()))
    else (
    j116 ()))
    else (
    j116 ()))))
    else (
    j116 ()))
    else (
    j51 ())
def f92 (n : Nat) (a0 : ByteArray) : Option Bool :=
  joinK (fun (_ : Unit) =>
  if !(sEq a0 (⟨#[]⟩ : ByteArray)) then (
  some (decide ((a0.size : Int) ≤ (64 : Int))))
  else (
  some false)) fun j51 =>
  f92_l1 n a0 j51 n 0
set_option maxHeartbeats 4000000 in
set_option maxRecDepth 100000 in
theorem g92 {n : Nat} {a0 : ByteArray} {r : Bool} (h : f92 n a0 = some r) :
    Ab.Can Try.prog 92 [.str a0] H0 (.bool r) H0 := by
  refine can_of tabOK mix Try.call92 Try.func92 rfl (by kernel_rfl) (by show _ ≤ 48; simp) fun _ => ?_
  rw [f92] at h
  refine .seq ?_
  refine .region ?_
  refine .assign ?_
  refine .nil ?_
  obtain ⟨j51, hj51, h⟩ := joinE h
  refine .cutI (fun T => (T = St.of [(0, .str a0)] [] ∧ j51 () = some r)) ?_ ?_
  · refine .seq ?_
    refine .region ?_
    refine .assign ?_
    refine .nil ?_
    refine .block ?_
    refine .loopI (fun m T => ∃ (v68 : Int), T = St.of [(0, .str a0), (3, .int .i64 v68)] [] ∧ f92_l1 n a0 j51 m v68 = some r) _ _ ⟨_, rfl, h⟩ (imp_of (.cons rfl (.cons rfl (.nil))) (.nil)) ?_
    rintro m86 T ⟨v68, rfl, h⟩
    obtain _ | m86 := m86
    · rw [f92_l1] at h; cases h
    rw [f92_l1] at h
    refine .seq ?_
    refine .seq ?_
    refine .region ?_
    refine .move ?_
    refine .move ?_
    refine .val ?_
    refine .val ?_
    refine .nil ?_
    refine .cond (fun hc88 => ?_) (fun hc88 => ?_)
    · replace h := (if_pos hc88).symm.trans h
      refine .skip ?_
      obtain ⟨j103, hj103, h⟩ := joinE h
      refine .cutI (fun T => (T = St.of [(0, .str a0), (3, .int .i64 v68)] [] ∧ j103 () = some r)) ?_ ?_
      · refine .block ?_
        refine .seq ?_
        refine .region ?_
        refine .move ?_
        refine .move ?_
        obtain ⟨x104, hx104, h⟩ := bindE h
        refine .atS hx104 ?_
        refine .assign ?_
        refine .nil ?_
        obtain ⟨j114, hj114, h⟩ := joinE h
        obtain ⟨j115, hj115, h⟩ := joinE h
        obtain ⟨j116, hj116, h⟩ := joinE h
        refine .cutI (fun T => (T = St.of [(0, .str a0), (3, .int .i64 v68), (40, .bool true)] [] ∧ j114 () = some r) ∨ (T = St.of [(0, .str a0), (3, .int .i64 v68), (40, .bool (x104 != (95 : Int)))] [] ∧ j115 () = some r) ∨ (T = St.of [(0, .str a0), (3, .int .i64 v68), (40, .bool false)] [] ∧ j116 () = some r)) ?_ ?_
        · refine .region ?_
          refine .move ?_
          obtain ⟨y117, hy117, h⟩ := bindE h
          refine .cP (g105 hy117) ?_
          refine .val ?_
          refine .move ?_
          refine .caseG (fun hc118 => ?_) (fun hc118 => ?_)
          · replace h := (if_pos hc118).symm.trans h
            refine .move ?_
            refine .val ?_
            refine .move ?_
            refine .caseG (fun hc119 => ?_) (fun hc119 => ?_)
            · replace h := (if_pos hc119).symm.trans h
              refine .skip ?_
              refine .skip ?_
              refine .skip ?_
              refine .skip ?_
              refine .skip ?_
              refine .skip ?_
              refine .skip ?_
              refine .skip ?_
              refine .skip ?_
              refine .skip ?_
              refine .skip ?_
              refine .skip ?_
              refine .skip ?_
              refine .skip ?_
              refine .skip ?_
              refine .skip ?_
              refine .skip ?_
              refine .skip ?_
              refine .brT ?_
              refine .brT ?_
              refine .nil ?_
              exact ⟨_, (.inl ⟨rfl, h⟩), (imp_of (.cons rfl (.cons rfl (.cons rfl (.nil)))) (.nil))⟩
            · replace h := (if_neg (nt hc119)).symm.trans h
              refine .move ?_
              refine .val ?_
              refine .move ?_
              refine .caseG (fun hc120 => ?_) (fun hc120 => ?_)
              · replace h := (if_pos hc120).symm.trans h
                refine .skip ?_
                refine .skip ?_
                refine .brT ?_
                refine .move ?_
                refine .move ?_
                refine .val ?_
                refine .brT ?_
                refine .move ?_
                refine .caseG (fun hc121 => ?_) (fun hc121 => ?_)
                · replace h := (if_pos hc121).symm.trans h
                  refine .move ?_
                  refine .val ?_
                  refine .brT ?_
                  refine .move ?_
                  refine .caseG (fun hc122 => ?_) (fun hc122 => ?_)
                  · replace h := (if_pos hc122).symm.trans h
                    refine .move ?_
                    refine .val ?_
                    refine .brT ?_
                    refine .brF ?_
                    refine .brT ?_
                    refine .nil ?_
                    exact ⟨_, (.inr (.inl ⟨rfl, h⟩)), (imp_of (.cons rfl (.cons rfl (.cons rfl (.nil)))) (.nil))⟩
                  · replace h := (if_neg (nt hc122)).symm.trans h
                    refine .skip ?_
                    refine .skip ?_
                    refine .brF ?_
                    refine .brF ?_
                    refine .brT ?_
                    refine .nil ?_
                    exact ⟨_, (.inr (.inr (⟨rfl, h⟩))), (imp_of (.cons rfl (.cons rfl (.cons rfl (.nil)))) (.nil))⟩
                · replace h := (if_neg (nt hc121)).symm.trans h
                  refine .skip ?_
                  refine .skip ?_
                  refine .brF ?_
                  refine .move ?_
                  refine .skip ?_
                  refine .skip ?_
                  refine .brF ?_
                  refine .brF ?_
                  refine .brT ?_
                  refine .nil ?_
                  exact ⟨_, (.inr (.inr (⟨rfl, h⟩))), (imp_of (.cons rfl (.cons rfl (.cons rfl (.nil)))) (.nil))⟩
              · replace h := (if_neg (nt hc120)).symm.trans h
                refine .move ?_
                refine .val ?_
                refine .brF ?_
                refine .move ?_
                refine .caseG (fun hc123 => ?_) (fun hc123 => ?_)
                · replace h := (if_pos hc123).symm.trans h
                  refine .move ?_
                  refine .val ?_
                  refine .brT ?_
                  refine .move ?_
                  refine .caseG (fun hc124 => ?_) (fun hc124 => ?_)
                  · replace h := (if_pos hc124).symm.trans h
                    refine .move ?_
                    refine .val ?_
                    refine .brT ?_
                    refine .move ?_
                    refine .caseG (fun hc125 => ?_) (fun hc125 => ?_)
                    · replace h := (if_pos hc125).symm.trans h
                      refine .move ?_
                      refine .val ?_
                      refine .brT ?_
                      refine .brF ?_
                      refine .brT ?_
                      refine .nil ?_
                      exact ⟨_, (.inr (.inl ⟨rfl, h⟩)), (imp_of (.cons rfl (.cons rfl (.cons rfl (.nil)))) (.nil))⟩
                    · replace h := (if_neg (nt hc125)).symm.trans h
                      refine .skip ?_
                      refine .skip ?_
                      refine .brF ?_
                      refine .brF ?_
                      refine .brT ?_
                      refine .nil ?_
                      exact ⟨_, (.inr (.inr (⟨rfl, h⟩))), (imp_of (.cons rfl (.cons rfl (.cons rfl (.nil)))) (.nil))⟩
                  · replace h := (if_neg (nt hc124)).symm.trans h
                    refine .skip ?_
                    refine .skip ?_
                    refine .brF ?_
                    refine .move ?_
                    refine .skip ?_
                    refine .skip ?_
                    refine .brF ?_
                    refine .brF ?_
                    refine .brT ?_
                    refine .nil ?_
                    exact ⟨_, (.inr (.inr (⟨rfl, h⟩))), (imp_of (.cons rfl (.cons rfl (.cons rfl (.nil)))) (.nil))⟩
                · replace h := (if_neg (nt hc123)).symm.trans h
                  refine .skip ?_
                  refine .skip ?_
                  refine .brF ?_
                  refine .move ?_
                  refine .skip ?_
                  refine .skip ?_
                  refine .brF ?_
                  refine .move ?_
                  refine .skip ?_
                  refine .skip ?_
                  refine .brF ?_
                  refine .brF ?_
                  refine .brT ?_
                  refine .nil ?_
                  exact ⟨_, (.inr (.inr (⟨rfl, h⟩))), (imp_of (.cons rfl (.cons rfl (.cons rfl (.nil)))) (.nil))⟩
          · replace h := (if_neg (nt hc118)).symm.trans h
            refine .skip ?_
            refine .skip ?_
            refine .skip ?_
            refine .skip ?_
            refine .skip ?_
            refine .skip ?_
            refine .skip ?_
            refine .skip ?_
            refine .skip ?_
            refine .skip ?_
            refine .skip ?_
            refine .skip ?_
            refine .skip ?_
            refine .skip ?_
            refine .skip ?_
            refine .skip ?_
            refine .skip ?_
            refine .skip ?_
            refine .skip ?_
            refine .skip ?_
            refine .skip ?_
            refine .skip ?_
            refine .brF ?_
            refine .nil ?_
            exact ⟨_, (.inr (.inr (⟨rfl, h⟩))), (imp_of (.cons rfl (.cons rfl (.cons rfl (.nil)))) (.nil))⟩
        · rintro T (⟨rfl, h⟩ | ⟨rfl, h⟩ | ⟨rfl, h⟩)
          · subst hj114
            refine .condT ?_
            refine .seq ?_
            refine .region ?_
            refine .assign ?_
            refine .nil ?_
            cases h
            exact .ret (fin_gen0 none)
          · subst hj115
            refine .cond (fun hc126 => ?_) (fun hc126 => ?_)
            · replace h := (if_pos hc126).symm.trans h
              refine .seq ?_
              refine .region ?_
              refine .assign ?_
              refine .nil ?_
              cases h
              exact .ret (fin_gen0 none)
            · replace h := (if_neg (nt hc126)).symm.trans h
              refine .skip ?_
              exact ⟨_, ⟨rfl, h⟩, (imp_of (.cons rfl (.cons rfl (.nil))) (.nil))⟩
          · subst hj116
            refine .condF ?_
            refine .skip ?_
            exact ⟨_, ⟨rfl, h⟩, (imp_of (.cons rfl (.cons rfl (.nil))) (.nil))⟩
      · rintro T ⟨rfl, h⟩
        subst hj103
        refine .region ?_
        refine .move ?_
        refine .val ?_
        refine .assign ?_
        refine .nil ?_
        exact ⟨m86, _, Nat.lt_succ_self m86, ⟨_, rfl, h⟩, (imp_of (.cons rfl (.cons rfl (.nil))) (.nil))⟩
    · replace h := (if_neg (nt hc88)).symm.trans h
      refine .exit (.hit ?_)
      exact ⟨_, ⟨rfl, h⟩, (imp_of (.cons rfl (.nil)) (.nil))⟩
  · rintro T ⟨rfl, h⟩
    subst hj51
    refine .seq ?_
    refine .region ?_
    refine .move ?_
    refine .val ?_
    refine .move ?_
    refine .caseG (fun hc128 => ?_) (fun hc128 => ?_)
    · replace h := (if_pos hc128).symm.trans h
      refine .move ?_
      refine .val ?_
      refine .val ?_
      refine .brT ?_
      refine .assign ?_
      refine .nil ?_
      cases h
      exact .ret (fin_gen0 none)
    · replace h := (if_neg (nt hc128)).symm.trans h
      refine .skip ?_
      refine .skip ?_
      refine .skip ?_
      refine .brF ?_
      refine .assign ?_
      refine .nil ?_
      cases h
      exact .ret (fin_gen0 none)

/- soundservice/soundserviceref06.Index -/
def f126_l1 (n : Nat) (a0 : (List Int)) (a1 : Int) (j12 : Unit → Option Int) : Nat → Int → Option Int
  | 0, _ => none
  | m21 + 1, v16 =>
    if decide (v16 < (a0.length : Int)) then (
    (lAt a0 v16).bind fun x26 =>
    if (x26 == a1) then (
    some v16)
    else (
    f126_l1 n a0 a1 j12 m21 (w64 (v16 + (1 : Int)))))
    else (
    j12 ())
def f126 (n : Nat) (a0 : (List Int)) (a1 : Int) : Option Int :=
  joinK (fun (_ : Unit) =>
  some (-1)) fun j12 =>
  f126_l1 n a0 a1 j12 n 0
set_option maxHeartbeats 4000000 in
set_option maxRecDepth 100000 in
theorem g126 {n : Nat} {a0 : (List Int)} {a1 : Int} {r : Int} (h : f126 n a0 a1 = some r) :
    Ab.Can Try.prog 126 [.sl 3 .ro (a0.map (PV.int .i64)), .int .i64 a1] H0 (.int .i64 r) H0 := by
  refine can_of tabOK mix Try.call126 Try.func126 rfl (by kernel_rfl) (by show _ ≤ 19; simp) fun _ => ?_
  rw [f126] at h
  refine .seq ?_
  refine .region ?_
  refine .assign ?_
  refine .nil ?_
  obtain ⟨j12, hj12, h⟩ := joinE h
  refine .cutI (fun T => (T = St.of [] [] ∧ j12 () = some r)) ?_ ?_
  · refine .seq ?_
    refine .region ?_
    refine .move ?_
    refine .lenL (f := (PV.int .i64)) ?_
    refine .move ?_
    refine .nil ?_
    refine .block ?_
    refine .loopI (fun m T => ∃ (v16 : Int), T = St.of [(1, .int .i64 a1), (7, .sl 3 .ro (a0.map (PV.int .i64))), (8, .int .i64 (a0.length : Int)), (9, .int .i64 v16)] [] ∧ f126_l1 n a0 a1 j12 m v16 = some r) _ _ ⟨_, rfl, h⟩ (imp_of (.cons rfl (.cons rfl (.cons rfl (.cons rfl (.nil))))) (.nil)) ?_
    rintro m21 T ⟨v16, rfl, h⟩
    obtain _ | m21 := m21
    · rw [f126_l1] at h; cases h
    rw [f126_l1] at h
    refine .seq ?_
    refine .region ?_
    refine .val ?_
    refine .nil ?_
    refine .seq ?_
    refine .cond (fun hc23 => ?_) (fun hc23 => ?_)
    · replace h := (if_pos hc23).symm.trans h
      refine .skip ?_
      refine .seq ?_
      refine .block ?_
      refine .seq ?_
      refine .region ?_
      refine .move ?_
      obtain ⟨x26, hx26, h⟩ := bindE h
      refine .idxL (f := (PV.int .i64)) hx26 ?_
      refine .ldL hx26 (y := .int .i64 x26) ?_
      refine .assign ?_
      refine .assign ?_
      refine .nil ?_
      refine .seq ?_
      refine .region ?_
      refine .move ?_
      refine .move ?_
      refine .val ?_
      refine .nil ?_
      refine .cond (fun hc27 => ?_) (fun hc27 => ?_)
      · replace h := (if_pos hc27).symm.trans h
        refine .seq ?_
        refine .region ?_
        refine .move ?_
        refine .assign ?_
        refine .nil ?_
        cases h
        exact .ret (fin_gen0 none)
      · replace h := (if_neg (nt hc27)).symm.trans h
        refine .skip ?_
        refine .region ?_
        refine .val ?_
        refine .move ?_
        refine .nil ?_
        exact ⟨m21, _, Nat.lt_succ_self m21, ⟨_, rfl, h⟩, (imp_of (.cons rfl (.cons rfl (.cons rfl (.cons rfl (.nil))))) (.nil))⟩
    · replace h := (if_neg (nt hc23)).symm.trans h
      refine .exit (.hit ?_)
      exact ⟨_, ⟨rfl, h⟩, (imp_of (.nil) (.nil))⟩
  · rintro T ⟨rfl, h⟩
    subst hj12
    refine .seq ?_
    refine .region ?_
    refine .assign ?_
    refine .nil ?_
    cases h
    exact .ret (fin_gen0 none)

/- soundservice/soundserviceref06.Valid -/
def f114_l1 (n : Nat) (a0 : (List Int)) (j30 : Unit → Option Bool) : Nat → Int → Option Bool
  | 0, _ => none
  | m51 + 1, v40 =>
    if decide (v40 < (a0.length : Int)) then (
    (lAt a0 v40).bind fun x62 =>
    joinK (fun (_ : Unit) =>
    some false) fun j66 =>
    joinK (fun (v67 : Bool) =>
    if v67 then (
    some false)
    else (
    f114_l1 n a0 j30 m51 (w64 (v40 + (1 : Int))))) fun j68 =>
    if decide (x62 < (1 : Int)) then (
    j66 ())
    else (
    if decide (x62 > (8 : Int)) then (
    j66 ())
    else (
    (f126 n a0 x62).bind fun y71 =>
    j68 (y71 != v40))))
    else (
    j30 ())
def f114 (n : Nat) (a0 : (List Int)) : Option Bool :=
  joinK (fun (_ : Unit) =>
  if decide ((a0.length : Int) ≥ (1 : Int)) then (
  some (decide ((a0.length : Int) ≤ (8 : Int))))
  else (
  some false)) fun j30 =>
  f114_l1 n a0 j30 n 0
set_option maxHeartbeats 4000000 in
set_option maxRecDepth 100000 in
theorem g114 {n : Nat} {a0 : (List Int)} {r : Bool} (h : f114 n a0 = some r) :
    Ab.Can Try.prog 114 [.sl 3 .ro (a0.map (PV.int .i64))] H0 (.bool r) H0 := by
  refine can_of tabOK mix Try.call114 Try.func114 rfl (by kernel_rfl) (by show _ ≤ 34; simp) fun _ => ?_
  rw [f114] at h
  refine .seq ?_
  refine .region ?_
  refine .assign ?_
  refine .nil ?_
  obtain ⟨j30, hj30, h⟩ := joinE h
  refine .cutI (fun T => (T = St.of [(0, .sl 3 .ro (a0.map (PV.int .i64)))] [] ∧ j30 () = some r)) ?_ ?_
  · refine .seq ?_
    refine .region ?_
    refine .move ?_
    refine .lenL (f := (PV.int .i64)) ?_
    refine .move ?_
    refine .nil ?_
    refine .block ?_
    refine .loopI (fun m T => ∃ (v40 : Int), T = St.of [(0, .sl 3 .ro (a0.map (PV.int .i64))), (5, .sl 3 .ro (a0.map (PV.int .i64))), (6, .int .i64 (a0.length : Int)), (7, .int .i64 v40)] [] ∧ f114_l1 n a0 j30 m v40 = some r) _ _ ⟨_, rfl, h⟩ (imp_of (.cons rfl (.cons rfl (.cons rfl (.cons rfl (.nil))))) (.nil)) ?_
    rintro m51 T ⟨v40, rfl, h⟩
    obtain _ | m51 := m51
    · rw [f114_l1] at h; cases h
    rw [f114_l1] at h
    refine .seq ?_
    refine .region ?_
    refine .val ?_
    refine .nil ?_
    refine .seq ?_
    refine .cond (fun hc53 => ?_) (fun hc53 => ?_)
    · replace h := (if_pos hc53).symm.trans h
      refine .skip ?_
      refine .seq ?_
      refine .block ?_
      refine .seq ?_
      refine .region ?_
      refine .move ?_
      obtain ⟨x62, hx62, h⟩ := bindE h
      refine .idxL (f := (PV.int .i64)) hx62 ?_
      refine .ldL hx62 (y := .int .i64 x62) ?_
      refine .assign ?_
      refine .assign ?_
      refine .nil ?_
      obtain ⟨j66, hj66, h⟩ := joinE h
      obtain ⟨j68, hj68, h⟩ := joinE h
      refine .cutI (fun T => (T = St.of [(0, .sl 3 .ro (a0.map (PV.int .i64))), (5, .sl 3 .ro (a0.map (PV.int .i64))), (6, .int .i64 (a0.length : Int)), (7, .int .i64 v40), (24, .bool true)] [] ∧ j66 () = some r) ∨ (∃ (v67 : Bool), T = St.of [(0, .sl 3 .ro (a0.map (PV.int .i64))), (5, .sl 3 .ro (a0.map (PV.int .i64))), (6, .int .i64 (a0.length : Int)), (7, .int .i64 v40), (24, .bool v67)] [] ∧ j68 v67 = some r)) ?_ ?_
      · refine .region ?_
        refine .move ?_
        refine .val ?_
        refine .move ?_
        refine .caseG (fun hc69 => ?_) (fun hc69 => ?_)
        · replace h := (if_pos hc69).symm.trans h
          refine .skip ?_
          refine .skip ?_
          refine .brT ?_
          refine .move ?_
          refine .skip ?_
          refine .skip ?_
          refine .skip ?_
          refine .skip ?_
          refine .skip ?_
          refine .brT ?_
          refine .nil ?_
          exact ⟨_, (.inl ⟨rfl, h⟩), (imp_of (.cons rfl (.cons rfl (.cons rfl (.cons rfl (.cons rfl (.nil)))))) (.nil))⟩
        · replace h := (if_neg (nt hc69)).symm.trans h
          refine .move ?_
          refine .val ?_
          refine .brF ?_
          refine .move ?_
          refine .caseG (fun hc70 => ?_) (fun hc70 => ?_)
          · replace h := (if_pos hc70).symm.trans h
            refine .skip ?_
            refine .skip ?_
            refine .skip ?_
            refine .skip ?_
            refine .skip ?_
            refine .brT ?_
            refine .nil ?_
            exact ⟨_, (.inl ⟨rfl, h⟩), (imp_of (.cons rfl (.cons rfl (.cons rfl (.cons rfl (.cons rfl (.nil)))))) (.nil))⟩
          · replace h := (if_neg (nt hc70)).symm.trans h
            refine .move ?_
            refine .move ?_
            obtain ⟨y71, hy71, h⟩ := bindE h
            refine .cP (g126 hy71) ?_
            refine .move ?_
            refine .val ?_
            refine .brF ?_
            refine .nil ?_
            exact ⟨_, (.inr (⟨_, rfl, h⟩)), (imp_of (.cons rfl (.cons rfl (.cons rfl (.cons rfl (.cons rfl (.nil)))))) (.nil))⟩
      · rintro T (⟨rfl, h⟩ | ⟨v67, rfl, h⟩)
        · subst hj66
          refine .condT ?_
          refine .seq ?_
          refine .region ?_
          refine .assign ?_
          refine .nil ?_
          cases h
          exact .ret (fin_gen0 none)
        · subst hj68
          refine .cond (fun hc72 => ?_) (fun hc72 => ?_)
          · replace h := (if_pos hc72).symm.trans h
            refine .seq ?_
            refine .region ?_
            refine .assign ?_
            refine .nil ?_
            cases h
            exact .ret (fin_gen0 none)
          · replace h := (if_neg (nt hc72)).symm.trans h
            refine .skip ?_
            refine .region ?_
            refine .val ?_
            refine .move ?_
            refine .nil ?_
            exact ⟨m51, _, Nat.lt_succ_self m51, ⟨_, rfl, h⟩, (imp_of (.cons rfl (.cons rfl (.cons rfl (.cons rfl (.nil))))) (.nil))⟩
    · replace h := (if_neg (nt hc53)).symm.trans h
      refine .exit (.hit ?_)
      exact ⟨_, ⟨rfl, h⟩, (imp_of (.cons rfl (.nil)) (.nil))⟩
  · rintro T ⟨rfl, h⟩
    subst hj30
    refine .seq ?_
    refine .region ?_
    refine .move ?_
    refine .lenL (f := (PV.int .i64)) ?_
    refine .val ?_
    refine .move ?_
    refine .caseG (fun hc74 => ?_) (fun hc74 => ?_)
    · replace h := (if_pos hc74).symm.trans h
      refine .move ?_
      refine .lenL (f := (PV.int .i64)) ?_
      refine .val ?_
      refine .brT ?_
      refine .assign ?_
      refine .nil ?_
      cases h
      exact .ret (fin_gen0 none)
    · replace h := (if_neg (nt hc74)).symm.trans h
      refine .skip ?_
      refine .skip ?_
      refine .skip ?_
      refine .brF ?_
      refine .assign ?_
      refine .nil ?_
      cases h
      exact .ret (fin_gen0 none)

/- soundservice/soundserviceref06.Same -/
def f118_l1 (n : Nat) (a0 : (List Int)) (a1 : (List Int)) (j17 : Unit → Option Bool) : Nat → Int → Option Bool
  | 0, _ => none
  | m28 + 1, v22 =>
    if decide (v22 < (a0.length : Int)) then (
    (lAt a0 v22).bind fun x34 =>
    (lAt a1 v22).bind fun x35 =>
    if (x34 != x35) then (
    some false)
    else (
    f118_l1 n a0 a1 j17 m28 (w64 (v22 + (1 : Int)))))
    else (
    j17 ())
def f118 (n : Nat) (a0 : (List Int)) (a1 : (List Int)) : Option Bool :=
  if ((a0.length : Int) != (a1.length : Int)) then (
  some false)
  else (
  joinK (fun (_ : Unit) =>
  some true) fun j17 =>
  f118_l1 n a0 a1 j17 n 0)
set_option maxHeartbeats 4000000 in
set_option maxRecDepth 100000 in
theorem g118 {n : Nat} {a0 : (List Int)} {a1 : (List Int)} {r : Bool} (h : f118 n a0 a1 = some r) :
    Ab.Can Try.prog 118 [.sl 3 .ro (a0.map (PV.int .i64)), .sl 3 .ro (a1.map (PV.int .i64))] H0 (.bool r) H0 := by
  refine can_of tabOK mix Try.call118 Try.func118 rfl (by kernel_rfl) (by show _ ≤ 26; simp) fun _ => ?_
  rw [f118] at h
  refine .seq ?_
  refine .region ?_
  refine .assign ?_
  refine .nil ?_
  refine .seq ?_
  refine .seq ?_
  refine .region ?_
  refine .move ?_
  refine .lenL (f := (PV.int .i64)) ?_
  refine .move ?_
  refine .lenL (f := (PV.int .i64)) ?_
  refine .val ?_
  refine .nil ?_
  refine .cond (fun hc2 => ?_) (fun hc2 => ?_)
  · replace h := (if_pos hc2).symm.trans h
    refine .seq ?_
    refine .region ?_
    refine .assign ?_
    refine .nil ?_
    cases h
    exact .ret (fin_gen0 none)
  · replace h := (if_neg (nt hc2)).symm.trans h
    refine .skip ?_
    obtain ⟨j17, hj17, h⟩ := joinE h
    refine .cutI (fun T => (T = St.of [] [] ∧ j17 () = some r)) ?_ ?_
    · refine .seq ?_
      refine .region ?_
      refine .move ?_
      refine .lenL (f := (PV.int .i64)) ?_
      refine .move ?_
      refine .nil ?_
      refine .block ?_
      refine .loopI (fun m T => ∃ (v22 : Int), T = St.of [(0, .sl 3 .ro (a0.map (PV.int .i64))), (1, .sl 3 .ro (a1.map (PV.int .i64))), (12, .int .i64 (a0.length : Int)), (13, .int .i64 v22)] [] ∧ f118_l1 n a0 a1 j17 m v22 = some r) _ _ ⟨_, rfl, h⟩ (imp_of (.cons rfl (.cons rfl (.cons rfl (.cons rfl (.nil))))) (.nil)) ?_
      rintro m28 T ⟨v22, rfl, h⟩
      obtain _ | m28 := m28
      · rw [f118_l1] at h; cases h
      rw [f118_l1] at h
      refine .seq ?_
      refine .region ?_
      refine .val ?_
      refine .nil ?_
      refine .seq ?_
      refine .cond (fun hc30 => ?_) (fun hc30 => ?_)
      · replace h := (if_pos hc30).symm.trans h
        refine .skip ?_
        refine .seq ?_
        refine .block ?_
        refine .seq ?_
        refine .region ?_
        refine .move ?_
        refine .assign ?_
        refine .nil ?_
        refine .seq ?_
        obtain ⟨x34, hx34, h⟩ := bindE h
        obtain ⟨x35, hx35, h⟩ := bindE h
        refine .draw [] [[], [], [], [], [], [], [], [], []] [[], [], [], [], [], [], [], [], []] [[]]
          [(0, 0), (1, 0), (2, 0), (3, 0), (4, 0), (5, 0), (6, 0), (7, 0), (8, 0)] [] 0
          [⟨[(16, .sl 3 .ro (a0.map (PV.int .i64))), (17, .int .i64 v22), (18, .ep 3 .ro (a0.map (PV.int .i64)) (v22 : Int).toNat 0), (19, .int .i64 x34), (20, .sl 3 .ro (a1.map (PV.int .i64))), (21, .int .i64 v22), (22, .ep 3 .ro (a1.map (PV.int .i64)) (v22 : Int).toNat 0), (23, .int .i64 x35), (24, .bool (x34 != x35)), (0, .sl 3 .ro (a0.map (PV.int .i64))), (1, .sl 3 .ro (a1.map (PV.int .i64))), (5, .int .i64 v22), (12, .int .i64 (a0.length : Int)), (13, .int .i64 v22)], [], []⟩]
          [(0, .sl 3 .ro (a0.map (PV.int .i64))), (1, .sl 3 .ro (a1.map (PV.int .i64))), (5, .int .i64 v22), (12, .int .i64 (a0.length : Int)), (13, .int .i64 v22)]
          (.cons [0] [] (fun _ _ h => .move (h _)) rfl rfl <|
          .cons [5] [] (fun _ _ h => .move (h _)) rfl rfl <|
          .cons [16, 17] [] (fun _ _ h => .idxL (f := (PV.int .i64)) hx34 (h _)) rfl rfl <|
          .cons [18] [] (fun _ _ h => .ldL hx34 (h _)) rfl rfl <|
          .cons [1] [] (fun _ _ h => .move (h _)) rfl rfl <|
          .cons [5] [] (fun _ _ h => .move (h _)) rfl rfl <|
          .cons [20, 21] [] (fun _ _ h => .idxL (f := (PV.int .i64)) hx35 (h _)) rfl rfl <|
          .cons [22] [] (fun _ _ h => .ldL hx35 (h _)) rfl rfl <|
          .cons [19, 23] [] (fun _ _ h => .val (h _)) rfl rfl <|
          .nil)
          (.nil)
          (by kernel_rfl) rfl (.cons rfl (.cons rfl (.cons rfl (.cons rfl (.cons rfl (.nil)))))) (.nil) (.nil) ?_
        refine .imp (T := St.of [(0, .sl 3 .ro (a0.map (PV.int .i64))), (1, .sl 3 .ro (a1.map (PV.int .i64))), (12, .int .i64 (a0.length : Int)), (13, .int .i64 v22), (24, .bool (x34 != x35))] []) (imp_of (.cons rfl (.cons rfl (.cons rfl (.cons rfl (.cons rfl (.nil)))))) (.nil)) ?_
        refine .cond (fun hc36 => ?_) (fun hc36 => ?_)
        · replace h := (if_pos hc36).symm.trans h
          refine .seq ?_
          refine .region ?_
          refine .assign ?_
          refine .nil ?_
          cases h
          exact .ret (fin_gen0 none)
        · replace h := (if_neg (nt hc36)).symm.trans h
          refine .skip ?_
          refine .region ?_
          refine .val ?_
          refine .move ?_
          refine .nil ?_
          exact ⟨m28, _, Nat.lt_succ_self m28, ⟨_, rfl, h⟩, (imp_of (.cons rfl (.cons rfl (.cons rfl (.cons rfl (.nil))))) (.nil))⟩
      · replace h := (if_neg (nt hc30)).symm.trans h
        refine .exit (.hit ?_)
        exact ⟨_, ⟨rfl, h⟩, (imp_of (.nil) (.nil))⟩
    · rintro T ⟨rfl, h⟩
      subst hj17
      refine .seq ?_
      refine .region ?_
      refine .assign ?_
      refine .nil ?_
      cases h
      exact .ret (fin_gen0 none)

/- soundservice/soundserviceref10.hasMap -/
def f115_l1 (n : Nat) (a0 : (List (List Int))) (a1 : (List Int)) (j15 : Unit → Option Bool) : Nat → Int → Option Bool
  | 0, _ => none
  | m26 + 1, v20 =>
    if decide (v20 < (a0.length : Int)) then (
    (lAt a0 v20).bind fun x32 =>
    (f118 n x32 a1).bind fun y33 =>
    if y33 then (
    some true)
    else (
    f115_l1 n a0 a1 j15 m26 (w64 (v20 + (1 : Int)))))
    else (
    j15 ())
def f115 (n : Nat) (a0 : (List (List Int))) (a1 : (List Int)) : Option Bool :=
  joinK (fun (_ : Unit) =>
  some false) fun j15 =>
  f115_l1 n a0 a1 j15 n 0
set_option maxHeartbeats 4000000 in
set_option maxRecDepth 100000 in
theorem g115 {n : Nat} {a0 : (List (List Int))} {a1 : (List Int)} {r : Bool} (h : f115 n a0 a1 = some r) :
    Ab.Can Try.prog 115 [.sl 59 .ro (a0.map pv59), .sl 3 .ro (a1.map (PV.int .i64))] H0 (.bool r) H0 := by
  refine can_of tabOK mix Try.call115 Try.func115 rfl (by kernel_rfl) (by show _ ≤ 17; simp) fun _ => ?_
  rw [f115] at h
  refine .seq ?_
  refine .region ?_
  refine .assign ?_
  refine .nil ?_
  obtain ⟨j15, hj15, h⟩ := joinE h
  refine .cutI (fun T => (T = St.of [] [] ∧ j15 () = some r)) ?_ ?_
  · refine .seq ?_
    refine .region ?_
    refine .move ?_
    refine .lenL (f := pv59) ?_
    refine .move ?_
    refine .nil ?_
    refine .block ?_
    refine .loopI (fun m T => ∃ (v20 : Int), T = St.of [(1, .sl 3 .ro (a1.map (PV.int .i64))), (7, .sl 59 .ro (a0.map pv59)), (8, .int .i64 (a0.length : Int)), (9, .int .i64 v20)] [] ∧ f115_l1 n a0 a1 j15 m v20 = some r) _ _ ⟨_, rfl, h⟩ (imp_of (.cons rfl (.cons rfl (.cons rfl (.cons rfl (.nil))))) (.nil)) ?_
    rintro m26 T ⟨v20, rfl, h⟩
    obtain _ | m26 := m26
    · rw [f115_l1] at h; cases h
    rw [f115_l1] at h
    refine .seq ?_
    refine .region ?_
    refine .val ?_
    refine .nil ?_
    refine .seq ?_
    refine .cond (fun hc28 => ?_) (fun hc28 => ?_)
    · replace h := (if_pos hc28).symm.trans h
      refine .skip ?_
      refine .seq ?_
      refine .block ?_
      refine .seq ?_
      refine .region ?_
      obtain ⟨x32, hx32, h⟩ := bindE h
      refine .idxL (f := pv59) hx32 ?_
      refine .ldL hx32 (y := .sl 3 .ro (x32.map (PV.int .i64))) ?_
      refine .assign ?_
      refine .nil ?_
      refine .seq ?_
      refine .region ?_
      refine .move ?_
      refine .move ?_
      obtain ⟨y33, hy33, h⟩ := bindE h
      refine .cP (g118 hy33) ?_
      refine .nil ?_
      refine .cond (fun hc34 => ?_) (fun hc34 => ?_)
      · replace h := (if_pos hc34).symm.trans h
        refine .seq ?_
        refine .region ?_
        refine .assign ?_
        refine .nil ?_
        cases h
        exact .ret (fin_gen0 none)
      · replace h := (if_neg (nt hc34)).symm.trans h
        refine .skip ?_
        refine .region ?_
        refine .val ?_
        refine .move ?_
        refine .nil ?_
        exact ⟨m26, _, Nat.lt_succ_self m26, ⟨_, rfl, h⟩, (imp_of (.cons rfl (.cons rfl (.cons rfl (.cons rfl (.nil))))) (.nil))⟩
    · replace h := (if_neg (nt hc28)).symm.trans h
      refine .exit (.hit ?_)
      exact ⟨_, ⟨rfl, h⟩, (imp_of (.nil) (.nil))⟩
  · rintro T ⟨rfl, h⟩
    subst hj15
    refine .seq ?_
    refine .region ?_
    refine .assign ?_
    refine .nil ?_
    cases h
    exact .ret (fin_gen0 none)

/- soundservice/soundserviceref09.Valid -/
def f127_l1 (n : Nat) (a0 : IntSet) (j42 : Unit → Option Bool) : Nat → Int → Option Bool
  | 0, _ => none
  | m71 + 1, v56 =>
    if decide (v56 < (a0.Spans.length : Int)) then (
    joinK (fun (_ : Unit) =>
    f127_l1 n a0 j42 m71 (w64 (v56 + (1 : Int)))) fun j85 =>
    (lAt a0.Spans v56).bind fun x86 =>
    joinK (fun (_ : Unit) =>
    some false) fun j92 =>
    joinK (fun (v93 : Bool) =>
    if v93 then (
    some false)
    else (
    j85 ())) fun j94 =>
    joinK (fun (_ : Unit) =>
    j85 ()) fun j95 =>
    if decide (x86.Lo < (0 : Int)) then (
    j92 ())
    else (
    if decide (x86.Hi < x86.Lo) then (
    j92 ())
    else (
    if decide (x86.Hi > (2147483647 : Int)) then (
    j92 ())
    else (
    if decide (v56 > (0 : Int)) then (
    (lAt a0.Spans (w64 (v56 - (1 : Int)))).bind fun x100 =>
    j94 (decide ((w64 (x86.Lo - (1 : Int))) ≤ x100.Hi)))
    else (
    j95 ())))))
    else (
    j42 ())
def f127 (n : Nat) (a0 : IntSet) : Option Bool :=
  joinK (fun (_ : Unit) =>
  some (decide ((a0.Spans.length : Int) ≤ (64 : Int)))) fun j42 =>
  f127_l1 n a0 j42 n 0
set_option maxHeartbeats 4000000 in
set_option maxRecDepth 100000 in
theorem g127 {n : Nat} {a0 : IntSet} {r : Bool} (h : f127 n a0 = some r) :
    Ab.Can Try.prog 127 [.agg [.sl 124 .ro (a0.Spans.map pv124)]] H0 (.bool r) H0 := by
  refine can_of tabOK mix Try.call127 Try.func127 rfl (by kernel_rfl) (by show _ ≤ 50; simp) fun _ => ?_
  rw [f127] at h
  refine .seq ?_
  refine .region ?_
  refine .boxL (cs := [.sl 124 .ro (a0.Spans.map pv124)]) ?_
  refine .assign ?_
  refine .nil ?_
  obtain ⟨j42, hj42, h⟩ := joinE h
  refine .cutI (fun T => (T = St.of [(1, .ptr (.loc 0 0) 0)] [((.loc 0 0), [.sl 124 .ro (a0.Spans.map pv124)])] ∧ j42 () = some r)) ?_ ?_
  · refine .seq ?_
    refine .region ?_
    refine .val ?_
    refine .val ?_
    refine .lenL (f := pv124) ?_
    refine .move ?_
    refine .nil ?_
    refine .block ?_
    refine .loopI (fun m T => ∃ (v56 : Int), T = St.of [(1, .ptr (.loc 0 0) 0), (6, .sl 124 .ro (a0.Spans.map pv124)), (7, .int .i64 (a0.Spans.length : Int)), (8, .int .i64 v56)] [((.loc 0 0), [.sl 124 .ro (a0.Spans.map pv124)])] ∧ f127_l1 n a0 j42 m v56 = some r) _ _ ⟨_, rfl, h⟩ (imp_of (.cons rfl (.cons rfl (.cons rfl (.cons rfl (.nil))))) (.cons rfl (.nil))) ?_
    rintro m71 T ⟨v56, rfl, h⟩
    obtain _ | m71 := m71
    · rw [f127_l1] at h; cases h
    rw [f127_l1] at h
    refine .seq ?_
    refine .region ?_
    refine .val ?_
    refine .nil ?_
    refine .seq ?_
    refine .cond (fun hc73 => ?_) (fun hc73 => ?_)
    · replace h := (if_pos hc73).symm.trans h
      refine .skip ?_
      obtain ⟨j85, hj85, h⟩ := joinE h
      refine .cutI (fun T => (T = St.of [(1, .ptr (.loc 0 0) 0), (6, .sl 124 .ro (a0.Spans.map pv124)), (7, .int .i64 (a0.Spans.length : Int)), (8, .int .i64 v56)] [((.loc 0 0), [.sl 124 .ro (a0.Spans.map pv124)])] ∧ j85 () = some r)) ?_ ?_
      · refine .block ?_
        refine .seq ?_
        refine .region ?_
        refine .move ?_
        obtain ⟨x86, hx86, h⟩ := bindE h
        refine .idxL (f := pv124) hx86 ?_
        refine .ldL hx86 (y := .agg [.int .i64 x86.Lo, .int .i64 x86.Hi]) ?_
        refine .allocL (cs := [.int .i64 0, .int .i64 0]) ?_
        refine .assign ?_
        refine .wrL (cs := [.int .i64 x86.Lo, .int .i64 x86.Hi]) ?_
        refine .nil ?_
        obtain ⟨j92, hj92, h⟩ := joinE h
        obtain ⟨j94, hj94, h⟩ := joinE h
        obtain ⟨j95, hj95, h⟩ := joinE h
        refine .cutI (fun T => (T = St.of [(1, .ptr (.loc 0 0) 0), (6, .sl 124 .ro (a0.Spans.map pv124)), (7, .int .i64 (a0.Spans.length : Int)), (8, .int .i64 v56), (44, .bool true)] [((.loc 0 0), [.sl 124 .ro (a0.Spans.map pv124)])] ∧ j92 () = some r) ∨ (∃ (v93 : Bool), T = St.of [(1, .ptr (.loc 0 0) 0), (6, .sl 124 .ro (a0.Spans.map pv124)), (7, .int .i64 (a0.Spans.length : Int)), (8, .int .i64 v56), (44, .bool v93)] [((.loc 0 0), [.sl 124 .ro (a0.Spans.map pv124)])] ∧ j94 v93 = some r) ∨ (T = St.of [(1, .ptr (.loc 0 0) 0), (6, .sl 124 .ro (a0.Spans.map pv124)), (7, .int .i64 (a0.Spans.length : Int)), (8, .int .i64 v56), (44, .bool false)] [((.loc 0 0), [.sl 124 .ro (a0.Spans.map pv124)])] ∧ j95 () = some r)) ?_ ?_
        · rcases bool_em (decide (x86.Lo < (0 : Int))) with hc96 | hc96
          · replace h := (if_pos hc96).symm.trans h
            refine .draw [] [[], [], [], [], [], [], [], [], [], [], [], [], [], [], [], [], [], [], [], [], [], [], [], [], [], [], [], [], [], [], [], []] [[], [], [], [], [], [], [], [], [], [], [], [], [], [], [], [], [], [], [], [], [], [], [], [], [], [], [], [], [], [], [], []] [[]]
              [(0, 0), (1, 0), (2, 0), (3, 0), (4, 0), (5, 0), (6, 0), (7, 0), (8, 0), (9, 0), (10, 0), (11, 0), (12, 0), (13, 0), (14, 0), (15, 0), (16, 0), (17, 0), (18, 0), (19, 0), (20, 0), (21, 0), (22, 0), (23, 0), (24, 0), (25, 0), (26, 0), (27, 0), (28, 0), (29, 0), (30, 0), (31, 0)] [] 0
              [⟨[(13, .ptr (.loc 3 3) 0), (14, .int .i64 x86.Lo), (15, .bool true), (16, .bool true), (17, .tup []), (18, .tup []), (19, .tup []), (20, .tup []), (21, .tup []), (22, .bool true), (23, .bool true), (24, .tup []), (25, .tup []), (26, .tup []), (27, .bool true), (28, .bool true), (29, .tup []), (30, .tup []), (31, .tup []), (32, .tup []), (33, .tup []), (34, .tup []), (35, .tup []), (36, .tup []), (37, .tup []), (38, .tup []), (39, .tup []), (40, .tup []), (41, .tup []), (42, .tup []), (43, .tup []), (44, .bool true), (1, .ptr (.loc 0 0) 0), (3, .int .i64 v56), (4, .ptr (.loc 3 3) 0), (6, .sl 124 .ro (a0.Spans.map pv124)), (7, .int .i64 (a0.Spans.length : Int)), (8, .int .i64 v56)], [], [((.loc 0 0), [.sl 124 .ro (a0.Spans.map pv124)]), ((.loc 3 3), [.int .i64 x86.Lo, .int .i64 x86.Hi])]⟩]
              [(1, .ptr (.loc 0 0) 0), (3, .int .i64 v56), (4, .ptr (.loc 3 3) 0), (6, .sl 124 .ro (a0.Spans.map pv124)), (7, .int .i64 (a0.Spans.length : Int)), (8, .int .i64 v56)]
              (.cons [4] [] (fun _ _ h => .val (h _)) rfl rfl <|
              .cons [13] [] (fun _ _ h => .val (h _)) rfl rfl <|
              .cons [14] [] (fun _ _ h => .valB hc96 (h _)) rfl rfl <|
              .cons [15] [] (fun _ _ h => .move (h _)) rfl rfl <|
              .cons [16] [] (fun _ _ h => .skip (h _)) rfl rfl <|
              .cons [16] [] (fun _ _ h => .skip (h _)) rfl rfl <|
              .cons [16] [] (fun _ _ h => .skip (h _)) rfl rfl <|
              .cons [16] [] (fun _ _ h => .skip (h _)) rfl rfl <|
              .cons [16] [] (fun _ _ h => .skip (h _)) rfl rfl <|
              .cons [16, 21] [] (fun _ _ h => .brT (h _)) rfl rfl <|
              .cons [22] [] (fun _ _ h => .move (h _)) rfl rfl <|
              .cons [23] [] (fun _ _ h => .skip (h _)) rfl rfl <|
              .cons [23] [] (fun _ _ h => .skip (h _)) rfl rfl <|
              .cons [23] [] (fun _ _ h => .skip (h _)) rfl rfl <|
              .cons [23, 26] [] (fun _ _ h => .brT (h _)) rfl rfl <|
              .cons [27] [] (fun _ _ h => .move (h _)) rfl rfl <|
              .cons [28] [] (fun _ _ h => .skip (h _)) rfl rfl <|
              .cons [28] [] (fun _ _ h => .skip (h _)) rfl rfl <|
              .cons [28] [] (fun _ _ h => .skip (h _)) rfl rfl <|
              .cons [31] [] (fun _ _ h => .skip (h _)) rfl rfl <|
              .cons [31] [] (fun _ _ h => .skip (h _)) rfl rfl <|
              .cons [31] [] (fun _ _ h => .skip (h _)) rfl rfl <|
              .cons [31] [] (fun _ _ h => .skip (h _)) rfl rfl <|
              .cons [31] [] (fun _ _ h => .skip (h _)) rfl rfl <|
              .cons [31] [] (fun _ _ h => .skip (h _)) rfl rfl <|
              .cons [31] [] (fun _ _ h => .skip (h _)) rfl rfl <|
              .cons [31] [] (fun _ _ h => .skip (h _)) rfl rfl <|
              .cons [31] [] (fun _ _ h => .skip (h _)) rfl rfl <|
              .cons [31] [] (fun _ _ h => .skip (h _)) rfl rfl <|
              .cons [31] [] (fun _ _ h => .skip (h _)) rfl rfl <|
              .cons [28] [] (fun _ _ h => .skip (h _)) rfl rfl <|
              .cons [28, 43] [] (fun _ _ h => .brT (h _)) rfl rfl <|
              .nil)
              (.nil)
              (by kernel_rfl) rfl (.cons rfl (.cons rfl (.cons rfl (.cons rfl (.cons rfl (.cons rfl (.nil))))))) (.nil) (.cons rfl (.cons rfl (.nil))) ?_
            exact ⟨_, (.inl ⟨rfl, h⟩), (imp_of (.cons rfl (.cons rfl (.cons rfl (.cons rfl (.cons rfl (.nil)))))) (.cons rfl (.nil)))⟩
          · replace h := (if_neg (nt hc96)).symm.trans h
            rcases bool_em (decide (x86.Hi < x86.Lo)) with hc97 | hc97
            · replace h := (if_pos hc97).symm.trans h
              refine .draw [] [[], [], [], [], [], [], [], [], [], [], [], [], [], [], [], [], [], [], [], [], [], [], [], [], [], [], [], [], [], [], [], []] [[], [], [], [], [], [], [], [], [], [], [], [], [], [], [], [], [], [], [], [], [], [], [], [], [], [], [], [], [], [], [], []] [[]]
                [(0, 0), (1, 0), (2, 0), (3, 0), (4, 0), (5, 0), (6, 0), (7, 0), (8, 0), (9, 0), (10, 0), (11, 0), (12, 0), (13, 0), (14, 0), (15, 0), (16, 0), (17, 0), (18, 0), (19, 0), (20, 0), (21, 0), (22, 0), (23, 0), (24, 0), (25, 0), (26, 0), (27, 0), (28, 0), (29, 0), (30, 0), (31, 0)] [] 0
                [⟨[(13, .ptr (.loc 3 3) 0), (14, .int .i64 x86.Lo), (15, .bool false), (16, .bool false), (17, .ptr (.loc 3 3) 1), (18, .int .i64 x86.Hi), (19, .ptr (.loc 3 3) 0), (20, .int .i64 x86.Lo), (21, .bool true), (22, .bool true), (23, .bool true), (24, .tup []), (25, .tup []), (26, .tup []), (27, .bool true), (28, .bool true), (29, .tup []), (30, .tup []), (31, .tup []), (32, .tup []), (33, .tup []), (34, .tup []), (35, .tup []), (36, .tup []), (37, .tup []), (38, .tup []), (39, .tup []), (40, .tup []), (41, .tup []), (42, .tup []), (43, .tup []), (44, .bool true), (1, .ptr (.loc 0 0) 0), (3, .int .i64 v56), (4, .ptr (.loc 3 3) 0), (6, .sl 124 .ro (a0.Spans.map pv124)), (7, .int .i64 (a0.Spans.length : Int)), (8, .int .i64 v56)], [], [((.loc 0 0), [.sl 124 .ro (a0.Spans.map pv124)]), ((.loc 3 3), [.int .i64 x86.Lo, .int .i64 x86.Hi])]⟩]
                [(1, .ptr (.loc 0 0) 0), (3, .int .i64 v56), (4, .ptr (.loc 3 3) 0), (6, .sl 124 .ro (a0.Spans.map pv124)), (7, .int .i64 (a0.Spans.length : Int)), (8, .int .i64 v56)]
                (.cons [4] [] (fun _ _ h => .val (h _)) rfl rfl <|
                .cons [13] [] (fun _ _ h => .val (h _)) rfl rfl <|
                .cons [14] [] (fun _ _ h => .valB hc96 (h _)) rfl rfl <|
                .cons [15] [] (fun _ _ h => .move (h _)) rfl rfl <|
                .cons [4, 16] [] (fun _ _ h => .val (h _)) rfl rfl <|
                .cons [17, 16] [] (fun _ _ h => .val (h _)) rfl rfl <|
                .cons [4, 16] [] (fun _ _ h => .val (h _)) rfl rfl <|
                .cons [19, 16] [] (fun _ _ h => .val (h _)) rfl rfl <|
                .cons [18, 20, 16] [] (fun _ _ h => .valB hc97 (h _)) rfl rfl <|
                .cons [16, 21] [] (fun _ _ h => .brF (h _)) rfl rfl <|
                .cons [22] [] (fun _ _ h => .move (h _)) rfl rfl <|
                .cons [23] [] (fun _ _ h => .skip (h _)) rfl rfl <|
                .cons [23] [] (fun _ _ h => .skip (h _)) rfl rfl <|
                .cons [23] [] (fun _ _ h => .skip (h _)) rfl rfl <|
                .cons [23, 26] [] (fun _ _ h => .brT (h _)) rfl rfl <|
                .cons [27] [] (fun _ _ h => .move (h _)) rfl rfl <|
                .cons [28] [] (fun _ _ h => .skip (h _)) rfl rfl <|
                .cons [28] [] (fun _ _ h => .skip (h _)) rfl rfl <|
                .cons [28] [] (fun _ _ h => .skip (h _)) rfl rfl <|
                .cons [31] [] (fun _ _ h => .skip (h _)) rfl rfl <|
                .cons [31] [] (fun _ _ h => .skip (h _)) rfl rfl <|
                .cons [31] [] (fun _ _ h => .skip (h _)) rfl rfl <|
                .cons [31] [] (fun _ _ h => .skip (h _)) rfl rfl <|
                .cons [31] [] (fun _ _ h => .skip (h _)) rfl rfl <|
                .cons [31] [] (fun _ _ h => .skip (h _)) rfl rfl <|
                .cons [31] [] (fun _ _ h => .skip (h _)) rfl rfl <|
                .cons [31] [] (fun _ _ h => .skip (h _)) rfl rfl <|
                .cons [31] [] (fun _ _ h => .skip (h _)) rfl rfl <|
                .cons [31] [] (fun _ _ h => .skip (h _)) rfl rfl <|
                .cons [31] [] (fun _ _ h => .skip (h _)) rfl rfl <|
                .cons [28] [] (fun _ _ h => .skip (h _)) rfl rfl <|
                .cons [28, 43] [] (fun _ _ h => .brT (h _)) rfl rfl <|
                .nil)
                (.nil)
                (by kernel_rfl) rfl (.cons rfl (.cons rfl (.cons rfl (.cons rfl (.cons rfl (.cons rfl (.nil))))))) (.nil) (.cons rfl (.cons rfl (.nil))) ?_
              exact ⟨_, (.inl ⟨rfl, h⟩), (imp_of (.cons rfl (.cons rfl (.cons rfl (.cons rfl (.cons rfl (.nil)))))) (.cons rfl (.nil)))⟩
            · replace h := (if_neg (nt hc97)).symm.trans h
              rcases bool_em (decide (x86.Hi > (2147483647 : Int))) with hc98 | hc98
              · replace h := (if_pos hc98).symm.trans h
                refine .draw [] [[], [], [], [], [], [], [], [], [], [], [], [], [], [], [], [], [], [], [], [], [], [], [], [], [], [], [], [], [], [], [], []] [[], [], [], [], [], [], [], [], [], [], [], [], [], [], [], [], [], [], [], [], [], [], [], [], [], [], [], [], [], [], [], []] [[]]
                  [(0, 0), (1, 0), (2, 0), (3, 0), (4, 0), (5, 0), (6, 0), (7, 0), (8, 0), (9, 0), (10, 0), (11, 0), (12, 0), (13, 0), (14, 0), (15, 0), (16, 0), (17, 0), (18, 0), (19, 0), (20, 0), (21, 0), (22, 0), (23, 0), (24, 0), (25, 0), (26, 0), (27, 0), (28, 0), (29, 0), (30, 0), (31, 0)] [] 0
                  [⟨[(13, .ptr (.loc 3 3) 0), (14, .int .i64 x86.Lo), (15, .bool false), (16, .bool false), (17, .ptr (.loc 3 3) 1), (18, .int .i64 x86.Hi), (19, .ptr (.loc 3 3) 0), (20, .int .i64 x86.Lo), (21, .bool false), (22, .bool false), (23, .bool false), (24, .ptr (.loc 3 3) 1), (25, .int .i64 x86.Hi), (26, .bool true), (27, .bool true), (28, .bool true), (29, .tup []), (30, .tup []), (31, .tup []), (32, .tup []), (33, .tup []), (34, .tup []), (35, .tup []), (36, .tup []), (37, .tup []), (38, .tup []), (39, .tup []), (40, .tup []), (41, .tup []), (42, .tup []), (43, .tup []), (44, .bool true), (1, .ptr (.loc 0 0) 0), (3, .int .i64 v56), (4, .ptr (.loc 3 3) 0), (6, .sl 124 .ro (a0.Spans.map pv124)), (7, .int .i64 (a0.Spans.length : Int)), (8, .int .i64 v56)], [], [((.loc 0 0), [.sl 124 .ro (a0.Spans.map pv124)]), ((.loc 3 3), [.int .i64 x86.Lo, .int .i64 x86.Hi])]⟩]
                  [(1, .ptr (.loc 0 0) 0), (3, .int .i64 v56), (4, .ptr (.loc 3 3) 0), (6, .sl 124 .ro (a0.Spans.map pv124)), (7, .int .i64 (a0.Spans.length : Int)), (8, .int .i64 v56)]
                  (.cons [4] [] (fun _ _ h => .val (h _)) rfl rfl <|
                  .cons [13] [] (fun _ _ h => .val (h _)) rfl rfl <|
                  .cons [14] [] (fun _ _ h => .valB hc96 (h _)) rfl rfl <|
                  .cons [15] [] (fun _ _ h => .move (h _)) rfl rfl <|
                  .cons [4, 16] [] (fun _ _ h => .val (h _)) rfl rfl <|
                  .cons [17, 16] [] (fun _ _ h => .val (h _)) rfl rfl <|
                  .cons [4, 16] [] (fun _ _ h => .val (h _)) rfl rfl <|
                  .cons [19, 16] [] (fun _ _ h => .val (h _)) rfl rfl <|
                  .cons [18, 20, 16] [] (fun _ _ h => .valB hc97 (h _)) rfl rfl <|
                  .cons [16, 21] [] (fun _ _ h => .brF (h _)) rfl rfl <|
                  .cons [22] [] (fun _ _ h => .move (h _)) rfl rfl <|
                  .cons [4, 23] [] (fun _ _ h => .val (h _)) rfl rfl <|
                  .cons [24, 23] [] (fun _ _ h => .val (h _)) rfl rfl <|
                  .cons [25, 23] [] (fun _ _ h => .valB hc98 (h _)) rfl rfl <|
                  .cons [23, 26] [] (fun _ _ h => .brF (h _)) rfl rfl <|
                  .cons [27] [] (fun _ _ h => .move (h _)) rfl rfl <|
                  .cons [28] [] (fun _ _ h => .skip (h _)) rfl rfl <|
                  .cons [28] [] (fun _ _ h => .skip (h _)) rfl rfl <|
                  .cons [28] [] (fun _ _ h => .skip (h _)) rfl rfl <|
                  .cons [31] [] (fun _ _ h => .skip (h _)) rfl rfl <|
                  .cons [31] [] (fun _ _ h => .skip (h _)) rfl rfl <|
                  .cons [31] [] (fun _ _ h => .skip (h _)) rfl rfl <|
                  .cons [31] [] (fun _ _ h => .skip (h _)) rfl rfl <|
                  .cons [31] [] (fun _ _ h => .skip (h _)) rfl rfl <|
                  .cons [31] [] (fun _ _ h => .skip (h _)) rfl rfl <|
                  .cons [31] [] (fun _ _ h => .skip (h _)) rfl rfl <|
                  .cons [31] [] (fun _ _ h => .skip (h _)) rfl rfl <|
                  .cons [31] [] (fun _ _ h => .skip (h _)) rfl rfl <|
                  .cons [31] [] (fun _ _ h => .skip (h _)) rfl rfl <|
                  .cons [31] [] (fun _ _ h => .skip (h _)) rfl rfl <|
                  .cons [28] [] (fun _ _ h => .skip (h _)) rfl rfl <|
                  .cons [28, 43] [] (fun _ _ h => .brT (h _)) rfl rfl <|
                  .nil)
                  (.nil)
                  (by kernel_rfl) rfl (.cons rfl (.cons rfl (.cons rfl (.cons rfl (.cons rfl (.cons rfl (.nil))))))) (.nil) (.cons rfl (.cons rfl (.nil))) ?_
                exact ⟨_, (.inl ⟨rfl, h⟩), (imp_of (.cons rfl (.cons rfl (.cons rfl (.cons rfl (.cons rfl (.nil)))))) (.cons rfl (.nil)))⟩
              · replace h := (if_neg (nt hc98)).symm.trans h
                rcases bool_em (decide (v56 > (0 : Int))) with hc99 | hc99
                · replace h := (if_pos hc99).symm.trans h
                  obtain ⟨x100, hx100, h⟩ := bindE h
                  refine .draw [] [[], [], [], [], [], [], [], [], [], [], [], [], [], [], [], [], [], [], [], [], [], [], [], [], [], [], [], [], [], [], [], []] [[], [], [], [], [], [], [], [], [], [], [], [], [], [], [], [], [], [], [], [], [], [], [], [], [], [], [], [], [], [], [], []] [[]]
                    [(0, 0), (1, 0), (2, 0), (3, 0), (4, 0), (5, 0), (6, 0), (7, 0), (8, 0), (9, 0), (10, 0), (11, 0), (12, 0), (13, 0), (14, 0), (15, 0), (16, 0), (17, 0), (18, 0), (19, 0), (20, 0), (21, 0), (22, 0), (23, 0), (24, 0), (25, 0), (26, 0), (27, 0), (28, 0), (29, 0), (30, 0), (31, 0)] [] 0
                    [⟨[(13, .ptr (.loc 3 3) 0), (14, .int .i64 x86.Lo), (15, .bool false), (16, .bool false), (17, .ptr (.loc 3 3) 1), (18, .int .i64 x86.Hi), (19, .ptr (.loc 3 3) 0), (20, .int .i64 x86.Lo), (21, .bool false), (22, .bool false), (23, .bool false), (24, .ptr (.loc 3 3) 1), (25, .int .i64 x86.Hi), (26, .bool false), (27, .bool false), (28, .bool false), (29, .int .i64 v56), (30, .bool true), (31, .bool true), (32, .ptr (.loc 3 3) 0), (33, .int .i64 x86.Lo), (34, .int .i64 (w64 (x86.Lo - (1 : Int)))), (35, .ptr (.loc 0 0) 0), (36, .sl 124 .ro (a0.Spans.map pv124)), (37, .int .i64 v56), (38, .int .i64 (w64 (v56 - (1 : Int)))), (39, .ep 124 .ro (a0.Spans.map pv124) (w64 (v56 - (1 : Int)) : Int).toNat 0), (40, .ep 124 .ro (a0.Spans.map pv124) (w64 (v56 - (1 : Int)) : Int).toNat 1), (41, .int .i64 x100.Hi), (42, .bool (decide ((w64 (x86.Lo - (1 : Int))) ≤ x100.Hi))), (43, .bool (decide ((w64 (x86.Lo - (1 : Int))) ≤ x100.Hi))), (44, .bool (decide ((w64 (x86.Lo - (1 : Int))) ≤ x100.Hi))), (1, .ptr (.loc 0 0) 0), (3, .int .i64 v56), (4, .ptr (.loc 3 3) 0), (6, .sl 124 .ro (a0.Spans.map pv124)), (7, .int .i64 (a0.Spans.length : Int)), (8, .int .i64 v56)], [], [((.loc 0 0), [.sl 124 .ro (a0.Spans.map pv124)]), ((.loc 3 3), [.int .i64 x86.Lo, .int .i64 x86.Hi])]⟩]
                    [(1, .ptr (.loc 0 0) 0), (3, .int .i64 v56), (4, .ptr (.loc 3 3) 0), (6, .sl 124 .ro (a0.Spans.map pv124)), (7, .int .i64 (a0.Spans.length : Int)), (8, .int .i64 v56)]
                    (.cons [4] [] (fun _ _ h => .val (h _)) rfl rfl <|
                    .cons [13] [] (fun _ _ h => .val (h _)) rfl rfl <|
                    .cons [14] [] (fun _ _ h => .valB hc96 (h _)) rfl rfl <|
                    .cons [15] [] (fun _ _ h => .move (h _)) rfl rfl <|
                    .cons [4, 16] [] (fun _ _ h => .val (h _)) rfl rfl <|
                    .cons [17, 16] [] (fun _ _ h => .val (h _)) rfl rfl <|
                    .cons [4, 16] [] (fun _ _ h => .val (h _)) rfl rfl <|
                    .cons [19, 16] [] (fun _ _ h => .val (h _)) rfl rfl <|
                    .cons [18, 20, 16] [] (fun _ _ h => .valB hc97 (h _)) rfl rfl <|
                    .cons [16, 21] [] (fun _ _ h => .brF (h _)) rfl rfl <|
                    .cons [22] [] (fun _ _ h => .move (h _)) rfl rfl <|
                    .cons [4, 23] [] (fun _ _ h => .val (h _)) rfl rfl <|
                    .cons [24, 23] [] (fun _ _ h => .val (h _)) rfl rfl <|
                    .cons [25, 23] [] (fun _ _ h => .valB hc98 (h _)) rfl rfl <|
                    .cons [23, 26] [] (fun _ _ h => .brF (h _)) rfl rfl <|
                    .cons [27] [] (fun _ _ h => .move (h _)) rfl rfl <|
                    .cons [3, 28] [] (fun _ _ h => .move (h _)) rfl rfl <|
                    .cons [29, 28] [] (fun _ _ h => .valB hc99 (h _)) rfl rfl <|
                    .cons [30, 28] [] (fun _ _ h => .move (h _)) rfl rfl <|
                    .cons [4, 31] [] (fun _ _ h => .val (h _)) rfl rfl <|
                    .cons [32, 31] [] (fun _ _ h => .val (h _)) rfl rfl <|
                    .cons [33, 31] [] (fun _ _ h => .val (h _)) rfl rfl <|
                    .cons [1, 31] [] (fun _ _ h => .val (h _)) rfl rfl <|
                    .cons [35, 31] [] (fun _ _ h => .val (h _)) rfl rfl <|
                    .cons [3, 31] [] (fun _ _ h => .move (h _)) rfl rfl <|
                    .cons [37, 31] [] (fun _ _ h => .val (h _)) rfl rfl <|
                    .cons [36, 38, 31] [] (fun _ _ h => .idxL (f := pv124) hx100 (h _)) rfl rfl <|
                    .cons [39, 31] [] (fun _ _ h => .val (h _)) rfl rfl <|
                    .cons [40, 31] [] (fun _ _ h => .ldL hx100 (h _)) rfl rfl <|
                    .cons [34, 41, 31] [] (fun _ _ h => .val (h _)) rfl rfl <|
                    .cons [31, 42, 28] [] (fun _ _ h => .brT (h _)) rfl rfl <|
                    .cons [28, 43] [] (fun _ _ h => .brF (h _)) rfl rfl <|
                    .nil)
                    (.nil)
                    (by kernel_rfl) rfl (.cons rfl (.cons rfl (.cons rfl (.cons rfl (.cons rfl (.cons rfl (.nil))))))) (.nil) (.cons rfl (.cons rfl (.nil))) ?_
                  exact ⟨_, (.inr (.inl ⟨_, rfl, h⟩)), (imp_of (.cons rfl (.cons rfl (.cons rfl (.cons rfl (.cons rfl (.nil)))))) (.cons rfl (.nil)))⟩
                · replace h := (if_neg (nt hc99)).symm.trans h
                  refine .draw [] [[], [], [], [], [], [], [], [], [], [], [], [], [], [], [], [], [], [], [], [], [], [], [], [], [], [], [], [], [], [], [], []] [[], [], [], [], [], [], [], [], [], [], [], [], [], [], [], [], [], [], [], [], [], [], [], [], [], [], [], [], [], [], [], []] [[]]
                    [(0, 0), (1, 0), (2, 0), (3, 0), (4, 0), (5, 0), (6, 0), (7, 0), (8, 0), (9, 0), (10, 0), (11, 0), (12, 0), (13, 0), (14, 0), (15, 0), (16, 0), (17, 0), (18, 0), (19, 0), (20, 0), (21, 0), (22, 0), (23, 0), (24, 0), (25, 0), (26, 0), (27, 0), (28, 0), (29, 0), (30, 0), (31, 0)] [] 0
                    [⟨[(13, .ptr (.loc 3 3) 0), (14, .int .i64 x86.Lo), (15, .bool false), (16, .bool false), (17, .ptr (.loc 3 3) 1), (18, .int .i64 x86.Hi), (19, .ptr (.loc 3 3) 0), (20, .int .i64 x86.Lo), (21, .bool false), (22, .bool false), (23, .bool false), (24, .ptr (.loc 3 3) 1), (25, .int .i64 x86.Hi), (26, .bool false), (27, .bool false), (28, .bool false), (29, .int .i64 v56), (30, .bool false), (31, .bool false), (32, .tup []), (33, .tup []), (34, .tup []), (35, .tup []), (36, .tup []), (37, .tup []), (38, .tup []), (39, .tup []), (40, .tup []), (41, .tup []), (42, .tup []), (43, .bool false), (44, .bool false), (1, .ptr (.loc 0 0) 0), (3, .int .i64 v56), (4, .ptr (.loc 3 3) 0), (6, .sl 124 .ro (a0.Spans.map pv124)), (7, .int .i64 (a0.Spans.length : Int)), (8, .int .i64 v56)], [], [((.loc 0 0), [.sl 124 .ro (a0.Spans.map pv124)]), ((.loc 3 3), [.int .i64 x86.Lo, .int .i64 x86.Hi])]⟩]
                    [(1, .ptr (.loc 0 0) 0), (3, .int .i64 v56), (4, .ptr (.loc 3 3) 0), (6, .sl 124 .ro (a0.Spans.map pv124)), (7, .int .i64 (a0.Spans.length : Int)), (8, .int .i64 v56)]
                    (.cons [4] [] (fun _ _ h => .val (h _)) rfl rfl <|
                    .cons [13] [] (fun _ _ h => .val (h _)) rfl rfl <|
                    .cons [14] [] (fun _ _ h => .valB hc96 (h _)) rfl rfl <|
                    .cons [15] [] (fun _ _ h => .move (h _)) rfl rfl <|
                    .cons [4, 16] [] (fun _ _ h => .val (h _)) rfl rfl <|
                    .cons [17, 16] [] (fun _ _ h => .val (h _)) rfl rfl <|
                    .cons [4, 16] [] (fun _ _ h => .val (h _)) rfl rfl <|
                    .cons [19, 16] [] (fun _ _ h => .val (h _)) rfl rfl <|
                    .cons [18, 20, 16] [] (fun _ _ h => .valB hc97 (h _)) rfl rfl <|
                    .cons [16, 21] [] (fun _ _ h => .brF (h _)) rfl rfl <|
                    .cons [22] [] (fun _ _ h => .move (h _)) rfl rfl <|
                    .cons [4, 23] [] (fun _ _ h => .val (h _)) rfl rfl <|
                    .cons [24, 23] [] (fun _ _ h => .val (h _)) rfl rfl <|
                    .cons [25, 23] [] (fun _ _ h => .valB hc98 (h _)) rfl rfl <|
                    .cons [23, 26] [] (fun _ _ h => .brF (h _)) rfl rfl <|
                    .cons [27] [] (fun _ _ h => .move (h _)) rfl rfl <|
                    .cons [3, 28] [] (fun _ _ h => .move (h _)) rfl rfl <|
                    .cons [29, 28] [] (fun _ _ h => .valB hc99 (h _)) rfl rfl <|
                    .cons [30, 28] [] (fun _ _ h => .move (h _)) rfl rfl <|
                    .cons [31] [] (fun _ _ h => .skip (h _)) rfl rfl <|
                    .cons [31] [] (fun _ _ h => .skip (h _)) rfl rfl <|
                    .cons [31] [] (fun _ _ h => .skip (h _)) rfl rfl <|
                    .cons [31] [] (fun _ _ h => .skip (h _)) rfl rfl <|
                    .cons [31] [] (fun _ _ h => .skip (h _)) rfl rfl <|
                    .cons [31] [] (fun _ _ h => .skip (h _)) rfl rfl <|
                    .cons [31] [] (fun _ _ h => .skip (h _)) rfl rfl <|
                    .cons [31] [] (fun _ _ h => .skip (h _)) rfl rfl <|
                    .cons [31] [] (fun _ _ h => .skip (h _)) rfl rfl <|
                    .cons [31] [] (fun _ _ h => .skip (h _)) rfl rfl <|
                    .cons [31] [] (fun _ _ h => .skip (h _)) rfl rfl <|
                    .cons [31, 42, 28] [] (fun _ _ h => .brF (h _)) rfl rfl <|
                    .cons [28, 43] [] (fun _ _ h => .brF (h _)) rfl rfl <|
                    .nil)
                    (.nil)
                    (by kernel_rfl) rfl (.cons rfl (.cons rfl (.cons rfl (.cons rfl (.cons rfl (.cons rfl (.nil))))))) (.nil) (.cons rfl (.cons rfl (.nil))) ?_
                  exact ⟨_, (.inr (.inr (⟨rfl, h⟩))), (imp_of (.cons rfl (.cons rfl (.cons rfl (.cons rfl (.cons rfl (.nil)))))) (.cons rfl (.nil)))⟩
        · rintro T (⟨rfl, h⟩ | ⟨v93, rfl, h⟩ | ⟨rfl, h⟩)
          · subst hj92
            refine .condT ?_
            refine .seq ?_
            refine .region ?_
            refine .assign ?_
            refine .nil ?_
            cases h
            exact .ret (fin_gen0 none)
          · subst hj94
            refine .cond (fun hc101 => ?_) (fun hc101 => ?_)
            · replace h := (if_pos hc101).symm.trans h
              refine .seq ?_
              refine .region ?_
              refine .assign ?_
              refine .nil ?_
              cases h
              exact .ret (fin_gen0 none)
            · replace h := (if_neg (nt hc101)).symm.trans h
              refine .skip ?_
              exact ⟨_, ⟨rfl, h⟩, (imp_of (.cons rfl (.cons rfl (.cons rfl (.cons rfl (.nil))))) (.cons rfl (.nil)))⟩
          · subst hj95
            refine .condF ?_
            refine .skip ?_
            exact ⟨_, ⟨rfl, h⟩, (imp_of (.cons rfl (.cons rfl (.cons rfl (.cons rfl (.nil))))) (.cons rfl (.nil)))⟩
      · rintro T ⟨rfl, h⟩
        subst hj85
        refine .region ?_
        refine .val ?_
        refine .move ?_
        refine .nil ?_
        exact ⟨m71, _, Nat.lt_succ_self m71, ⟨_, rfl, h⟩, (imp_of (.cons rfl (.cons rfl (.cons rfl (.cons rfl (.nil))))) (.cons rfl (.nil)))⟩
    · replace h := (if_neg (nt hc73)).symm.trans h
      refine .exit (.hit ?_)
      exact ⟨_, ⟨rfl, h⟩, (imp_of (.cons rfl (.nil)) (.cons rfl (.nil)))⟩
  · rintro T ⟨rfl, h⟩
    subst hj42
    refine .seq ?_
    refine .region ?_
    refine .val ?_
    refine .val ?_
    refine .lenL (f := pv124) ?_
    refine .val ?_
    refine .assign ?_
    refine .nil ?_
    cases h
    exact .ret (fin_gen0 none)

/- soundservice/soundserviceref10.within -/
def f116 (n : Nat) (a0 : IntSet) (a1 : Int) (a2 : Int) : Option Bool :=
  (f127 n (⟨a0.Spans⟩ : IntSet)).bind fun y7 =>
  if y7 then (
  if decide ((a0.Spans.length : Int) > (0 : Int)) then (
  (lAt a0.Spans (0 : Int)).bind fun x10 =>
  if decide (x10.Lo ≥ a1) then (
  (lAt a0.Spans (w64 ((a0.Spans.length : Int) - (1 : Int)))).bind fun x12 =>
  some (decide (x12.Hi ≤ a2)))
  else (
  some false))
  else (
  some false))
  else (
  some false)
set_option maxHeartbeats 4000000 in
set_option maxRecDepth 100000 in
theorem g116 {n : Nat} {a0 : IntSet} {a1 : Int} {a2 : Int} {r : Bool} (h : f116 n a0 a1 a2 = some r) :
    Ab.Can Try.prog 116 [.agg [.sl 124 .ro (a0.Spans.map pv124)], .int .i64 a1, .int .i64 a2] H0 (.bool r) H0 := by
  refine can_of tabOK mix Try.call116 Try.func116 rfl (by kernel_rfl) (by show _ ≤ 37; simp) fun _ => ?_
  rw [f116] at h
  refine .seq ?_
  refine .region ?_
  refine .boxL (cs := [.sl 124 .ro (a0.Spans.map pv124)]) ?_
  refine .assign ?_
  refine .nil ?_
  refine .seq ?_
  refine .region ?_
  refine .val ?_
  refine .val ?_
  refine .lenL (f := pv124) ?_
  refine .assign ?_
  refine .nil ?_
  refine .seq ?_
  refine .region ?_
  refine .val (v := .agg [.sl 124 .ro (a0.Spans.map pv124)]) ?_
  obtain ⟨y7, hy7, h⟩ := bindE h
  refine .cP (g127 hy7) ?_
  refine .move ?_
  refine .caseG (fun hc8 => ?_) (fun hc8 => ?_)
  · replace h := (if_pos hc8).symm.trans h
    refine .move ?_
    refine .val ?_
    refine .brT ?_
    refine .move ?_
    refine .caseG (fun hc9 => ?_) (fun hc9 => ?_)
    · replace h := (if_pos hc9).symm.trans h
      refine .val ?_
      refine .val ?_
      obtain ⟨x10, hx10, h⟩ := bindE h
      refine .idxL (f := pv124) hx10 ?_
      refine .val ?_
      refine .ldL hx10 (y := .int .i64 x10.Lo) ?_
      refine .move ?_
      refine .val ?_
      refine .brT ?_
      refine .move ?_
      refine .caseG (fun hc11 => ?_) (fun hc11 => ?_)
      · replace h := (if_pos hc11).symm.trans h
        refine .val ?_
        refine .val ?_
        refine .move ?_
        refine .val ?_
        obtain ⟨x12, hx12, h⟩ := bindE h
        refine .idxL (f := pv124) hx12 ?_
        refine .val ?_
        refine .ldL hx12 (y := .int .i64 x12.Hi) ?_
        refine .move ?_
        refine .val ?_
        refine .brT ?_
        refine .assign ?_
        refine .nil ?_
        cases h
        exact .ret (fin_gen0 none)
      · replace h := (if_neg (nt hc11)).symm.trans h
        refine .skip ?_
        refine .skip ?_
        refine .skip ?_
        refine .skip ?_
        refine .skip ?_
        refine .skip ?_
        refine .skip ?_
        refine .skip ?_
        refine .skip ?_
        refine .brF ?_
        refine .assign ?_
        refine .nil ?_
        cases h
        exact .ret (fin_gen0 none)
    · replace h := (if_neg (nt hc9)).symm.trans h
      refine .skip ?_
      refine .skip ?_
      refine .skip ?_
      refine .skip ?_
      refine .skip ?_
      refine .skip ?_
      refine .skip ?_
      refine .brF ?_
      refine .move ?_
      refine .skip ?_
      refine .skip ?_
      refine .skip ?_
      refine .skip ?_
      refine .skip ?_
      refine .skip ?_
      refine .skip ?_
      refine .skip ?_
      refine .skip ?_
      refine .brF ?_
      refine .assign ?_
      refine .nil ?_
      cases h
      exact .ret (fin_gen0 none)
  · replace h := (if_neg (nt hc8)).symm.trans h
    refine .skip ?_
    refine .skip ?_
    refine .brF ?_
    refine .move ?_
    refine .skip ?_
    refine .skip ?_
    refine .skip ?_
    refine .skip ?_
    refine .skip ?_
    refine .skip ?_
    refine .skip ?_
    refine .brF ?_
    refine .move ?_
    refine .skip ?_
    refine .skip ?_
    refine .skip ?_
    refine .skip ?_
    refine .skip ?_
    refine .skip ?_
    refine .skip ?_
    refine .skip ?_
    refine .skip ?_
    refine .brF ?_
    refine .assign ?_
    refine .nil ?_
    cases h
    exact .ret (fin_gen0 none)

/- soundservice/soundserviceref10.box -/
def f106_l1 (n : Nat) (a0 : Box) (j48 : Unit → Option Bool) : Nat → Int → Option Bool
  | 0, _ => none
  | m71 + 1, v59 =>
    if decide (v59 < (a0.Maps.length : Int)) then (
    (lAt a0.Maps v59).bind fun x83 =>
    joinK (fun (_ : Unit) =>
    some false) fun j88 =>
    joinK (fun (v89 : Bool) =>
    if v89 then (
    some false)
    else (
    f106_l1 n a0 j48 m71 (w64 (v59 + (1 : Int))))) fun j90 =>
    (f114 n x83).bind fun y91 =>
    if !y91 then (
    j88 ())
    else (
    (lPart a0.Maps (0 : Int) v59).bind fun x93 =>
    (f115 n x93 x83).bind fun y94 =>
    j90 y94))
    else (
    j48 ())
def f106 (n : Nat) (a0 : Box) : Option Bool :=
  joinK (fun (_ : Unit) =>
  some false) fun j10 =>
  joinK (fun (_ : Unit) =>
  if decide ((a0.Maps.length : Int) > (16 : Int)) then (
  some false)
  else (
  joinK (fun (_ : Unit) =>
  (f116 n (⟨a0.Rates⟩ : IntSet) (1000 : Int) (768000 : Int)).bind fun y99 =>
  if y99 then (
  (f116 n (⟨a0.Sizes⟩ : IntSet) (1 : Int) (65536 : Int)).bind fun y101 =>
  some y101)
  else (
  some false)) fun j48 =>
  f106_l1 n a0 j48 n 0)) fun j11 =>
  if (a0.Kinds == (0 : Int)) then (
  j10 ())
  else (
  if ((bitsI .andNot .i64 a0.Kinds (254 : Int)) != (0 : Int)) then (
  j10 ())
  else (
  if decide ((a0.Maps.length : Int) < (1 : Int)) then (
  j10 ())
  else (
  j11 ())))
set_option maxHeartbeats 4000000 in
set_option maxRecDepth 100000 in
theorem g106 {n : Nat} {a0 : Box} {r : Bool} (h : f106 n a0 = some r) :
    Ab.Can Try.prog 106 [.agg [.int .i64 a0.Kinds, .sl 124 .ro (a0.Rates.map pv124), .sl 59 .ro (a0.Maps.map pv59), .sl 124 .ro (a0.Sizes.map pv124)]] H0 (.bool r) H0 := by
  refine can_of tabOK mix Try.call106 Try.func106 rfl (by kernel_rfl) (by show _ ≤ 54; simp) fun _ => ?_
  rw [f106] at h
  refine .seq ?_
  refine .region ?_
  refine .boxL (cs := [.int .i64 a0.Kinds, .sl 124 .ro (a0.Rates.map pv124), .sl 59 .ro (a0.Maps.map pv59), .sl 124 .ro (a0.Sizes.map pv124)]) ?_
  refine .assign ?_
  refine .nil ?_
  refine .seq ?_
  obtain ⟨j10, hj10, h⟩ := joinE h
  obtain ⟨j11, hj11, h⟩ := joinE h
  refine .cutI (fun T => (T = St.of [(1, .ptr (.loc 0 0) 0), (25, .bool true)] [((.loc 0 0), [.int .i64 a0.Kinds, .sl 124 .ro (a0.Rates.map pv124), .sl 59 .ro (a0.Maps.map pv59), .sl 124 .ro (a0.Sizes.map pv124)])] ∧ j10 () = some r) ∨ (T = St.of [(1, .ptr (.loc 0 0) 0), (25, .bool (decide ((a0.Maps.length : Int) > (16 : Int))))] [((.loc 0 0), [.int .i64 a0.Kinds, .sl 124 .ro (a0.Rates.map pv124), .sl 59 .ro (a0.Maps.map pv59), .sl 124 .ro (a0.Sizes.map pv124)])] ∧ j11 () = some r)) ?_ ?_
  · refine .region ?_
    refine .val ?_
    refine .val ?_
    refine .val ?_
    refine .move ?_
    refine .caseG (fun hc12 => ?_) (fun hc12 => ?_)
    · replace h := (if_pos hc12).symm.trans h
      refine .skip ?_
      refine .skip ?_
      refine .skip ?_
      refine .skip ?_
      refine .brT ?_
      refine .move ?_
      refine .skip ?_
      refine .skip ?_
      refine .skip ?_
      refine .skip ?_
      refine .brT ?_
      refine .move ?_
      refine .skip ?_
      refine .skip ?_
      refine .skip ?_
      refine .skip ?_
      refine .brT ?_
      refine .nil ?_
      exact ⟨_, (.inl ⟨rfl, h⟩), (imp_of (.cons rfl (.cons rfl (.nil))) (.cons rfl (.nil)))⟩
    · replace h := (if_neg (nt hc12)).symm.trans h
      refine .val ?_
      refine .val ?_
      refine .val ?_
      refine .val ?_
      refine .brF ?_
      refine .move ?_
      refine .caseG (fun hc13 => ?_) (fun hc13 => ?_)
      · replace h := (if_pos hc13).symm.trans h
        refine .skip ?_
        refine .skip ?_
        refine .skip ?_
        refine .skip ?_
        refine .brT ?_
        refine .move ?_
        refine .skip ?_
        refine .skip ?_
        refine .skip ?_
        refine .skip ?_
        refine .brT ?_
        refine .nil ?_
        exact ⟨_, (.inl ⟨rfl, h⟩), (imp_of (.cons rfl (.cons rfl (.nil))) (.cons rfl (.nil)))⟩
      · replace h := (if_neg (nt hc13)).symm.trans h
        refine .val ?_
        refine .val ?_
        refine .lenL (f := pv59) ?_
        refine .val ?_
        refine .brF ?_
        refine .move ?_
        refine .caseG (fun hc14 => ?_) (fun hc14 => ?_)
        · replace h := (if_pos hc14).symm.trans h
          refine .skip ?_
          refine .skip ?_
          refine .skip ?_
          refine .skip ?_
          refine .brT ?_
          refine .nil ?_
          exact ⟨_, (.inl ⟨rfl, h⟩), (imp_of (.cons rfl (.cons rfl (.nil))) (.cons rfl (.nil)))⟩
        · replace h := (if_neg (nt hc14)).symm.trans h
          refine .val ?_
          refine .val ?_
          refine .lenL (f := pv59) ?_
          refine .val ?_
          refine .brF ?_
          refine .nil ?_
          exact ⟨_, (.inr (⟨rfl, h⟩)), (imp_of (.cons rfl (.cons rfl (.nil))) (.cons rfl (.nil)))⟩
  · rintro T (⟨rfl, h⟩ | ⟨rfl, h⟩)
    · subst hj10
      refine .condT ?_
      refine .seq ?_
      refine .region ?_
      refine .assign ?_
      refine .nil ?_
      cases h
      exact .ret (fin_gen0 none)
    · subst hj11
      refine .cond (fun hc15 => ?_) (fun hc15 => ?_)
      · replace h := (if_pos hc15).symm.trans h
        refine .seq ?_
        refine .region ?_
        refine .assign ?_
        refine .nil ?_
        cases h
        exact .ret (fin_gen0 none)
      · replace h := (if_neg (nt hc15)).symm.trans h
        refine .skip ?_
        obtain ⟨j48, hj48, h⟩ := joinE h
        refine .cutI (fun T => (T = St.of [(1, .ptr (.loc 0 0) 0)] [((.loc 0 0), [.int .i64 a0.Kinds, .sl 124 .ro (a0.Rates.map pv124), .sl 59 .ro (a0.Maps.map pv59), .sl 124 .ro (a0.Sizes.map pv124)])] ∧ j48 () = some r)) ?_ ?_
        · refine .seq ?_
          refine .region ?_
          refine .val ?_
          refine .val ?_
          refine .lenL (f := pv59) ?_
          refine .move ?_
          refine .nil ?_
          refine .block ?_
          refine .loopI (fun m T => ∃ (v59 : Int), T = St.of [(1, .ptr (.loc 0 0) 0), (27, .sl 59 .ro (a0.Maps.map pv59)), (28, .int .i64 (a0.Maps.length : Int)), (29, .int .i64 v59)] [((.loc 0 0), [.int .i64 a0.Kinds, .sl 124 .ro (a0.Rates.map pv124), .sl 59 .ro (a0.Maps.map pv59), .sl 124 .ro (a0.Sizes.map pv124)])] ∧ f106_l1 n a0 j48 m v59 = some r) _ _ ⟨_, rfl, h⟩ (imp_of (.cons rfl (.cons rfl (.cons rfl (.cons rfl (.nil))))) (.cons rfl (.nil))) ?_
          rintro m71 T ⟨v59, rfl, h⟩
          obtain _ | m71 := m71
          · rw [f106_l1] at h; cases h
          rw [f106_l1] at h
          refine .seq ?_
          refine .region ?_
          refine .val ?_
          refine .nil ?_
          refine .seq ?_
          refine .cond (fun hc73 => ?_) (fun hc73 => ?_)
          · replace h := (if_pos hc73).symm.trans h
            refine .skip ?_
            refine .seq ?_
            refine .block ?_
            refine .seq ?_
            refine .region ?_
            refine .move ?_
            obtain ⟨x83, hx83, h⟩ := bindE h
            refine .idxL (f := pv59) hx83 ?_
            refine .ldL hx83 (y := .sl 3 .ro (x83.map (PV.int .i64))) ?_
            refine .assign ?_
            refine .assign ?_
            refine .nil ?_
            obtain ⟨j88, hj88, h⟩ := joinE h
            obtain ⟨j90, hj90, h⟩ := joinE h
            refine .cutI (fun T => (T = St.of [(1, .ptr (.loc 0 0) 0), (27, .sl 59 .ro (a0.Maps.map pv59)), (28, .int .i64 (a0.Maps.length : Int)), (29, .int .i64 v59), (44, .bool true)] [((.loc 0 0), [.int .i64 a0.Kinds, .sl 124 .ro (a0.Rates.map pv124), .sl 59 .ro (a0.Maps.map pv59), .sl 124 .ro (a0.Sizes.map pv124)])] ∧ j88 () = some r) ∨ (∃ (v89 : Bool), T = St.of [(1, .ptr (.loc 0 0) 0), (27, .sl 59 .ro (a0.Maps.map pv59)), (28, .int .i64 (a0.Maps.length : Int)), (29, .int .i64 v59), (44, .bool v89)] [((.loc 0 0), [.int .i64 a0.Kinds, .sl 124 .ro (a0.Rates.map pv124), .sl 59 .ro (a0.Maps.map pv59), .sl 124 .ro (a0.Sizes.map pv124)])] ∧ j90 v89 = some r)) ?_ ?_
            · refine .region ?_
              refine .move ?_
              obtain ⟨y91, hy91, h⟩ := bindE h
              refine .cP (g114 hy91) ?_
              refine .val ?_
              refine .move ?_
              refine .caseG (fun hc92 => ?_) (fun hc92 => ?_)
              · replace h := (if_pos hc92).symm.trans h
                refine .skip ?_
                refine .skip ?_
                refine .skip ?_
                refine .skip ?_
                refine .skip ?_
                refine .skip ?_
                refine .brT ?_
                refine .nil ?_
                exact ⟨_, (.inl ⟨rfl, h⟩), (imp_of (.cons rfl (.cons rfl (.cons rfl (.cons rfl (.cons rfl (.nil)))))) (.cons rfl (.nil)))⟩
              · replace h := (if_neg (nt hc92)).symm.trans h
                refine .val ?_
                refine .val ?_
                refine .move ?_
                obtain ⟨x93, hx93, h⟩ := bindE h
                refine .partL (f := pv59) hx93 ?_
                refine .move ?_
                obtain ⟨y94, hy94, h⟩ := bindE h
                refine .cP (g115 hy94) ?_
                refine .brF ?_
                refine .nil ?_
                exact ⟨_, (.inr (⟨_, rfl, h⟩)), (imp_of (.cons rfl (.cons rfl (.cons rfl (.cons rfl (.cons rfl (.nil)))))) (.cons rfl (.nil)))⟩
            · rintro T (⟨rfl, h⟩ | ⟨v89, rfl, h⟩)
              · subst hj88
                refine .condT ?_
                refine .seq ?_
                refine .region ?_
                refine .assign ?_
                refine .nil ?_
                cases h
                exact .ret (fin_gen0 none)
              · subst hj90
                refine .cond (fun hc95 => ?_) (fun hc95 => ?_)
                · replace h := (if_pos hc95).symm.trans h
                  refine .seq ?_
                  refine .region ?_
                  refine .assign ?_
                  refine .nil ?_
                  cases h
                  exact .ret (fin_gen0 none)
                · replace h := (if_neg (nt hc95)).symm.trans h
                  refine .skip ?_
                  refine .region ?_
                  refine .val ?_
                  refine .move ?_
                  refine .nil ?_
                  exact ⟨m71, _, Nat.lt_succ_self m71, ⟨_, rfl, h⟩, (imp_of (.cons rfl (.cons rfl (.cons rfl (.cons rfl (.nil))))) (.cons rfl (.nil)))⟩
          · replace h := (if_neg (nt hc73)).symm.trans h
            refine .exit (.hit ?_)
            exact ⟨_, ⟨rfl, h⟩, (imp_of (.cons rfl (.nil)) (.cons rfl (.nil)))⟩
        · rintro T ⟨rfl, h⟩
          subst hj48
          refine .seq ?_
          refine .region ?_
          refine .val ?_
          refine .val (v := .agg [.sl 124 .ro (a0.Rates.map pv124)]) ?_
          obtain ⟨y99, hy99, h⟩ := bindE h
          refine .cP (g116 hy99) ?_
          refine .move ?_
          refine .caseG (fun hc100 => ?_) (fun hc100 => ?_)
          · replace h := (if_pos hc100).symm.trans h
            refine .val ?_
            refine .val (v := .agg [.sl 124 .ro (a0.Sizes.map pv124)]) ?_
            obtain ⟨y101, hy101, h⟩ := bindE h
            refine .cP (g116 hy101) ?_
            refine .brT ?_
            refine .assign ?_
            refine .nil ?_
            cases h
            exact .ret (fin_gen0 none)
          · replace h := (if_neg (nt hc100)).symm.trans h
            refine .skip ?_
            refine .skip ?_
            refine .skip ?_
            refine .brF ?_
            refine .assign ?_
            refine .nil ?_
            cases h
            exact .ret (fin_gen0 none)

/- soundservice/soundserviceref10.Valid -/
def f93_l1 (n : Nat) (a0 : (List Box)) (j15 : Unit → Option Bool) : Nat → Int → Option Bool
  | 0, _ => none
  | m26 + 1, v20 =>
    if decide (v20 < (a0.length : Int)) then (
    (lAt a0 v20).bind fun x32 =>
    (f106 n (⟨x32.Kinds, x32.Rates, x32.Maps, x32.Sizes⟩ : Box)).bind fun y33 =>
    if !y33 then (
    some false)
    else (
    f93_l1 n a0 j15 m26 (w64 (v20 + (1 : Int)))))
    else (
    j15 ())
def f93 (n : Nat) (a0 : (List Box)) : Option Bool :=
  joinK (fun (_ : Unit) =>
  some (decide ((a0.length : Int) ≤ (64 : Int)))) fun j15 =>
  f93_l1 n a0 j15 n 0
set_option maxHeartbeats 4000000 in
set_option maxRecDepth 100000 in
theorem g93 {n : Nat} {a0 : (List Box)} {r : Bool} (h : f93 n a0 = some r) :
    Ab.Can Try.prog 93 [.sl 94 .ro (a0.map pv94)] H0 (.bool r) H0 := by
  refine can_of tabOK mix Try.call93 Try.func93 rfl (by kernel_rfl) (by show _ ≤ 18; simp) fun _ => ?_
  rw [f93] at h
  refine .seq ?_
  refine .region ?_
  refine .assign ?_
  refine .nil ?_
  obtain ⟨j15, hj15, h⟩ := joinE h
  refine .cutI (fun T => (T = St.of [(0, .sl 94 .ro (a0.map pv94))] [] ∧ j15 () = some r)) ?_ ?_
  · refine .seq ?_
    refine .region ?_
    refine .move ?_
    refine .lenL (f := pv94) ?_
    refine .move ?_
    refine .nil ?_
    refine .block ?_
    refine .loopI (fun m T => ∃ (v20 : Int), T = St.of [(0, .sl 94 .ro (a0.map pv94)), (5, .sl 94 .ro (a0.map pv94)), (6, .int .i64 (a0.length : Int)), (7, .int .i64 v20)] [] ∧ f93_l1 n a0 j15 m v20 = some r) _ _ ⟨_, rfl, h⟩ (imp_of (.cons rfl (.cons rfl (.cons rfl (.cons rfl (.nil))))) (.nil)) ?_
    rintro m26 T ⟨v20, rfl, h⟩
    obtain _ | m26 := m26
    · rw [f93_l1] at h; cases h
    rw [f93_l1] at h
    refine .seq ?_
    refine .region ?_
    refine .val ?_
    refine .nil ?_
    refine .seq ?_
    refine .cond (fun hc28 => ?_) (fun hc28 => ?_)
    · replace h := (if_pos hc28).symm.trans h
      refine .skip ?_
      refine .seq ?_
      refine .block ?_
      refine .seq ?_
      refine .region ?_
      obtain ⟨x32, hx32, h⟩ := bindE h
      refine .idxL (f := pv94) hx32 ?_
      refine .ldL hx32 (y := .agg [.int .i64 x32.Kinds, .sl 124 .ro (x32.Rates.map pv124), .sl 59 .ro (x32.Maps.map pv59), .sl 124 .ro (x32.Sizes.map pv124)]) ?_
      refine .allocL (cs := [.int .i64 0, .sl 124 .full [], .sl 59 .full [], .sl 124 .full []]) ?_
      refine .wrL (cs := [.int .i64 x32.Kinds, .sl 124 .ro (x32.Rates.map pv124), .sl 59 .ro (x32.Maps.map pv59), .sl 124 .ro (x32.Sizes.map pv124)]) ?_
      refine .nil ?_
      refine .seq ?_
      refine .region ?_
      refine .val (v := .agg [.int .i64 x32.Kinds, .sl 124 .ro (x32.Rates.map pv124), .sl 59 .ro (x32.Maps.map pv59), .sl 124 .ro (x32.Sizes.map pv124)]) ?_
      obtain ⟨y33, hy33, h⟩ := bindE h
      refine .cP (g106 hy33) ?_
      refine .val ?_
      refine .nil ?_
      refine .cond (fun hc34 => ?_) (fun hc34 => ?_)
      · replace h := (if_pos hc34).symm.trans h
        refine .seq ?_
        refine .region ?_
        refine .assign ?_
        refine .nil ?_
        cases h
        exact .ret (fin_gen0 none)
      · replace h := (if_neg (nt hc34)).symm.trans h
        refine .skip ?_
        refine .region ?_
        refine .val ?_
        refine .move ?_
        refine .nil ?_
        exact ⟨m26, _, Nat.lt_succ_self m26, ⟨_, rfl, h⟩, (imp_of (.cons rfl (.cons rfl (.cons rfl (.cons rfl (.nil))))) (.nil))⟩
    · replace h := (if_neg (nt hc28)).symm.trans h
      refine .exit (.hit ?_)
      exact ⟨_, ⟨rfl, h⟩, (imp_of (.cons rfl (.nil)) (.nil))⟩
  · rintro T ⟨rfl, h⟩
    subst hj15
    refine .seq ?_
    refine .region ?_
    refine .move ?_
    refine .lenL (f := pv94) ?_
    refine .val ?_
    refine .assign ?_
    refine .nil ?_
    cases h
    exact .ret (fin_gen0 none)

/- soundservice/soundserviceref09.Same -/
def f117_l1 (n : Nat) (a0 : IntSet) (a1 : IntSet) (j17 : Unit → Option Bool) : Nat → Int → Option Bool
  | 0, _ => none
  | m28 + 1, v22 =>
    if decide (v22 < (a0.Spans.length : Int)) then (
    (lAt a0.Spans v22).bind fun x34 =>
    (lAt a1.Spans v22).bind fun x35 =>
    if !((x34.Lo == x35.Lo) && (x34.Hi == x35.Hi)) then (
    some false)
    else (
    f117_l1 n a0 a1 j17 m28 (w64 (v22 + (1 : Int)))))
    else (
    j17 ())
def f117 (n : Nat) (a0 : IntSet) (a1 : IntSet) : Option Bool :=
  if ((a0.Spans.length : Int) != (a1.Spans.length : Int)) then (
  some false)
  else (
  joinK (fun (_ : Unit) =>
  some true) fun j17 =>
  f117_l1 n a0 a1 j17 n 0)
set_option maxHeartbeats 4000000 in
set_option maxRecDepth 100000 in
theorem g117 {n : Nat} {a0 : IntSet} {a1 : IntSet} {r : Bool} (h : f117 n a0 a1 = some r) :
    Ab.Can Try.prog 117 [.agg [.sl 124 .ro (a0.Spans.map pv124)], .agg [.sl 124 .ro (a1.Spans.map pv124)]] H0 (.bool r) H0 := by
  refine can_of tabOK mix Try.call117 Try.func117 rfl (by kernel_rfl) (by show _ ≤ 31; simp) fun _ => ?_
  rw [f117] at h
  refine .seq ?_
  refine .region ?_
  refine .boxL (cs := [.sl 124 .ro (a0.Spans.map pv124)]) ?_
  refine .boxL (cs := [.sl 124 .ro (a1.Spans.map pv124)]) ?_
  refine .assign ?_
  refine .nil ?_
  refine .seq ?_
  refine .seq ?_
  refine .region ?_
  refine .val ?_
  refine .val ?_
  refine .lenL (f := pv124) ?_
  refine .val ?_
  refine .val ?_
  refine .lenL (f := pv124) ?_
  refine .val ?_
  refine .nil ?_
  refine .cond (fun hc2 => ?_) (fun hc2 => ?_)
  · replace h := (if_pos hc2).symm.trans h
    refine .seq ?_
    refine .region ?_
    refine .assign ?_
    refine .nil ?_
    cases h
    exact .ret (fin_gen0 none)
  · replace h := (if_neg (nt hc2)).symm.trans h
    refine .skip ?_
    obtain ⟨j17, hj17, h⟩ := joinE h
    refine .cutI (fun T => (T = St.of [] [] ∧ j17 () = some r)) ?_ ?_
    · refine .seq ?_
      refine .region ?_
      refine .val ?_
      refine .val ?_
      refine .lenL (f := pv124) ?_
      refine .move ?_
      refine .nil ?_
      refine .block ?_
      refine .loopI (fun m T => ∃ (v22 : Int), T = St.of [(2, .ptr (.loc 0 0) 0), (3, .ptr (.loc 0 1) 0), (15, .int .i64 (a0.Spans.length : Int)), (16, .int .i64 v22)] [((.loc 0 0), [.sl 124 .ro (a0.Spans.map pv124)]), ((.loc 0 1), [.sl 124 .ro (a1.Spans.map pv124)])] ∧ f117_l1 n a0 a1 j17 m v22 = some r) _ _ ⟨_, rfl, h⟩ (imp_of (.cons rfl (.cons rfl (.cons rfl (.cons rfl (.nil))))) (.cons rfl (.cons rfl (.nil)))) ?_
      rintro m28 T ⟨v22, rfl, h⟩
      obtain _ | m28 := m28
      · rw [f117_l1] at h; cases h
      rw [f117_l1] at h
      refine .seq ?_
      refine .region ?_
      refine .val ?_
      refine .nil ?_
      refine .seq ?_
      refine .cond (fun hc30 => ?_) (fun hc30 => ?_)
      · replace h := (if_pos hc30).symm.trans h
        refine .skip ?_
        refine .seq ?_
        refine .block ?_
        refine .seq ?_
        refine .region ?_
        refine .move ?_
        refine .assign ?_
        refine .nil ?_
        refine .seq ?_
        obtain ⟨x34, hx34, h⟩ := bindE h
        obtain ⟨x35, hx35, h⟩ := bindE h
        refine .draw [] [[], [], [], [], [], [], [], [], [], [], []] [[], [], [], [], [], [], [], [], [], [], []] [[]]
          [(0, 0), (1, 0), (2, 0), (3, 0), (4, 0), (5, 0), (6, 0), (7, 0), (8, 0), (9, 0), (10, 0)] [] 0
          [⟨[(19, .ptr (.loc 0 0) 0), (20, .sl 124 .ro (a0.Spans.map pv124)), (21, .int .i64 v22), (22, .ep 124 .ro (a0.Spans.map pv124) (v22 : Int).toNat 0), (23, .agg [.int .i64 x34.Lo, .int .i64 x34.Hi]), (24, .ptr (.loc 0 1) 0), (25, .sl 124 .ro (a1.Spans.map pv124)), (26, .int .i64 v22), (27, .ep 124 .ro (a1.Spans.map pv124) (v22 : Int).toNat 0), (28, .agg [.int .i64 x35.Lo, .int .i64 x35.Hi]), (29, .bool (!((x34.Lo == x35.Lo) && (x34.Hi == x35.Hi)))), (2, .ptr (.loc 0 0) 0), (3, .ptr (.loc 0 1) 0), (5, .int .i64 v22), (15, .int .i64 (a0.Spans.length : Int)), (16, .int .i64 v22)], [], [((.loc 0 0), [.sl 124 .ro (a0.Spans.map pv124)]), ((.loc 0 1), [.sl 124 .ro (a1.Spans.map pv124)])]⟩]
          [(2, .ptr (.loc 0 0) 0), (3, .ptr (.loc 0 1) 0), (5, .int .i64 v22), (15, .int .i64 (a0.Spans.length : Int)), (16, .int .i64 v22)]
          (.cons [2] [] (fun _ _ h => .val (h _)) rfl rfl <|
          .cons [19] [] (fun _ _ h => .val (h _)) rfl rfl <|
          .cons [5] [] (fun _ _ h => .move (h _)) rfl rfl <|
          .cons [20, 21] [] (fun _ _ h => .idxL (f := pv124) hx34 (h _)) rfl rfl <|
          .cons [22] [] (fun _ _ h => .ldL hx34 (h _)) rfl rfl <|
          .cons [3] [] (fun _ _ h => .val (h _)) rfl rfl <|
          .cons [24] [] (fun _ _ h => .val (h _)) rfl rfl <|
          .cons [5] [] (fun _ _ h => .move (h _)) rfl rfl <|
          .cons [25, 26] [] (fun _ _ h => .idxL (f := pv124) hx35 (h _)) rfl rfl <|
          .cons [27] [] (fun _ _ h => .ldL hx35 (h _)) rfl rfl <|
          .cons [23, 28] [] (fun _ _ h => .eqV (.int (.int .nil)) (.int (.int .nil)) (neq124 _ _ _ _ _ _ ) (h _)) rfl rfl <|
          .nil)
          (.nil)
          (by kernel_rfl) rfl (.cons rfl (.cons rfl (.cons rfl (.cons rfl (.cons rfl (.nil)))))) (.nil) (.cons rfl (.cons rfl (.nil))) ?_
        refine .imp (T := St.of [(2, .ptr (.loc 0 0) 0), (3, .ptr (.loc 0 1) 0), (15, .int .i64 (a0.Spans.length : Int)), (16, .int .i64 v22), (29, .bool (!((x34.Lo == x35.Lo) && (x34.Hi == x35.Hi))))] [((.loc 0 0), [.sl 124 .ro (a0.Spans.map pv124)]), ((.loc 0 1), [.sl 124 .ro (a1.Spans.map pv124)])]) (imp_of (.cons rfl (.cons rfl (.cons rfl (.cons rfl (.cons rfl (.nil)))))) (.cons rfl (.cons rfl (.nil)))) ?_
        refine .cond (fun hc36 => ?_) (fun hc36 => ?_)
        · replace h := (if_pos hc36).symm.trans h
          refine .seq ?_
          refine .region ?_
          refine .assign ?_
          refine .nil ?_
          cases h
          exact .ret (fin_gen0 none)
        · replace h := (if_neg (nt hc36)).symm.trans h
          refine .skip ?_
          refine .region ?_
          refine .val ?_
          refine .move ?_
          refine .nil ?_
          exact ⟨m28, _, Nat.lt_succ_self m28, ⟨_, rfl, h⟩, (imp_of (.cons rfl (.cons rfl (.cons rfl (.cons rfl (.nil))))) (.cons rfl (.cons rfl (.nil))))⟩
      · replace h := (if_neg (nt hc30)).symm.trans h
        refine .exit (.hit ?_)
        exact ⟨_, ⟨rfl, h⟩, (imp_of (.nil) (.nil))⟩
    · rintro T ⟨rfl, h⟩
      subst hj17
      refine .seq ?_
      refine .region ?_
      refine .assign ?_
      refine .nil ?_
      cases h
      exact .ret (fin_gen0 none)

/- soundservice/soundserviceref10.SameBox -/
def f108_l1 (n : Nat) (a0 : Box) (a1 : Box) (j41 : Unit → Option Bool) : Nat → Int → Option Bool
  | 0, _ => none
  | m54 + 1, v47 =>
    if decide (v47 < (a0.Maps.length : Int)) then (
    (lAt a0.Maps v47).bind fun x61 =>
    (lAt a1.Maps v47).bind fun x62 =>
    (f118 n x61 x62).bind fun y63 =>
    if !y63 then (
    some false)
    else (
    f108_l1 n a0 a1 j41 m54 (w64 (v47 + (1 : Int)))))
    else (
    j41 ())
def f108 (n : Nat) (a0 : Box) (a1 : Box) : Option Bool :=
  joinK (fun (_ : Unit) =>
  some false) fun j15 =>
  joinK (fun (v16 : Bool) =>
  if v16 then (
  some false)
  else (
  joinK (fun (_ : Unit) =>
  some true) fun j41 =>
  f108_l1 n a0 a1 j41 n 0)) fun j17 =>
  if (a0.Kinds != a1.Kinds) then (
  j15 ())
  else (
  if ((a0.Maps.length : Int) != (a1.Maps.length : Int)) then (
  j15 ())
  else (
  (f117 n (⟨a0.Rates⟩ : IntSet) (⟨a1.Rates⟩ : IntSet)).bind fun y20 =>
  if !y20 then (
  j15 ())
  else (
  (f117 n (⟨a0.Sizes⟩ : IntSet) (⟨a1.Sizes⟩ : IntSet)).bind fun y22 =>
  j17 (!y22))))
set_option maxHeartbeats 4000000 in
set_option maxRecDepth 100000 in
theorem g108 {n : Nat} {a0 : Box} {a1 : Box} {r : Bool} (h : f108 n a0 a1 = some r) :
    Ab.Can Try.prog 108 [.agg [.int .i64 a0.Kinds, .sl 124 .ro (a0.Rates.map pv124), .sl 59 .ro (a0.Maps.map pv59), .sl 124 .ro (a0.Sizes.map pv124)], .agg [.int .i64 a1.Kinds, .sl 124 .ro (a1.Rates.map pv124), .sl 59 .ro (a1.Maps.map pv59), .sl 124 .ro (a1.Sizes.map pv124)]] H0 (.bool r) H0 := by
  refine can_of tabOK mix Try.call108 Try.func108 rfl (by kernel_rfl) (by show _ ≤ 55; simp) fun _ => ?_
  rw [f108] at h
  refine .seq ?_
  refine .region ?_
  refine .boxL (cs := [.int .i64 a0.Kinds, .sl 124 .ro (a0.Rates.map pv124), .sl 59 .ro (a0.Maps.map pv59), .sl 124 .ro (a0.Sizes.map pv124)]) ?_
  refine .boxL (cs := [.int .i64 a1.Kinds, .sl 124 .ro (a1.Rates.map pv124), .sl 59 .ro (a1.Maps.map pv59), .sl 124 .ro (a1.Sizes.map pv124)]) ?_
  refine .assign ?_
  refine .nil ?_
  refine .seq ?_
  obtain ⟨j15, hj15, h⟩ := joinE h
  obtain ⟨j17, hj17, h⟩ := joinE h
  refine .cutI (fun T => (T = St.of [(2, .ptr (.loc 0 0) 0), (3, .ptr (.loc 0 1) 0), (35, .bool true)] [((.loc 0 0), [.int .i64 a0.Kinds, .sl 124 .ro (a0.Rates.map pv124), .sl 59 .ro (a0.Maps.map pv59), .sl 124 .ro (a0.Sizes.map pv124)]), ((.loc 0 1), [.int .i64 a1.Kinds, .sl 124 .ro (a1.Rates.map pv124), .sl 59 .ro (a1.Maps.map pv59), .sl 124 .ro (a1.Sizes.map pv124)])] ∧ j15 () = some r) ∨ (∃ (v16 : Bool), T = St.of [(2, .ptr (.loc 0 0) 0), (3, .ptr (.loc 0 1) 0), (35, .bool v16)] [((.loc 0 0), [.int .i64 a0.Kinds, .sl 124 .ro (a0.Rates.map pv124), .sl 59 .ro (a0.Maps.map pv59), .sl 124 .ro (a0.Sizes.map pv124)]), ((.loc 0 1), [.int .i64 a1.Kinds, .sl 124 .ro (a1.Rates.map pv124), .sl 59 .ro (a1.Maps.map pv59), .sl 124 .ro (a1.Sizes.map pv124)])] ∧ j17 v16 = some r)) ?_ ?_
  · refine .region ?_
    refine .val ?_
    refine .val ?_
    refine .val ?_
    refine .val ?_
    refine .val ?_
    refine .move ?_
    refine .caseG (fun hc18 => ?_) (fun hc18 => ?_)
    · replace h := (if_pos hc18).symm.trans h
      refine .skip ?_
      refine .skip ?_
      refine .skip ?_
      refine .skip ?_
      refine .skip ?_
      refine .skip ?_
      refine .skip ?_
      refine .brT ?_
      refine .move ?_
      refine .skip ?_
      refine .skip ?_
      refine .skip ?_
      refine .skip ?_
      refine .skip ?_
      refine .skip ?_
      refine .brT ?_
      refine .move ?_
      refine .skip ?_
      refine .skip ?_
      refine .skip ?_
      refine .skip ?_
      refine .skip ?_
      refine .skip ?_
      refine .brT ?_
      refine .nil ?_
      exact ⟨_, (.inl ⟨rfl, h⟩), (imp_of (.cons rfl (.cons rfl (.cons rfl (.nil)))) (.cons rfl (.cons rfl (.nil))))⟩
    · replace h := (if_neg (nt hc18)).symm.trans h
      refine .val ?_
      refine .val ?_
      refine .lenL (f := pv59) ?_
      refine .val ?_
      refine .val ?_
      refine .lenL (f := pv59) ?_
      refine .val ?_
      refine .brF ?_
      refine .move ?_
      refine .caseG (fun hc19 => ?_) (fun hc19 => ?_)
      · replace h := (if_pos hc19).symm.trans h
        refine .skip ?_
        refine .skip ?_
        refine .skip ?_
        refine .skip ?_
        refine .skip ?_
        refine .skip ?_
        refine .brT ?_
        refine .move ?_
        refine .skip ?_
        refine .skip ?_
        refine .skip ?_
        refine .skip ?_
        refine .skip ?_
        refine .skip ?_
        refine .brT ?_
        refine .nil ?_
        exact ⟨_, (.inl ⟨rfl, h⟩), (imp_of (.cons rfl (.cons rfl (.cons rfl (.nil)))) (.cons rfl (.cons rfl (.nil))))⟩
      · replace h := (if_neg (nt hc19)).symm.trans h
        refine .val ?_
        refine .val (v := .agg [.sl 124 .ro (a0.Rates.map pv124)]) ?_
        refine .val ?_
        refine .val (v := .agg [.sl 124 .ro (a1.Rates.map pv124)]) ?_
        obtain ⟨y20, hy20, h⟩ := bindE h
        refine .cP (g117 hy20) ?_
        refine .val ?_
        refine .brF ?_
        refine .move ?_
        refine .caseG (fun hc21 => ?_) (fun hc21 => ?_)
        · replace h := (if_pos hc21).symm.trans h
          refine .skip ?_
          refine .skip ?_
          refine .skip ?_
          refine .skip ?_
          refine .skip ?_
          refine .skip ?_
          refine .brT ?_
          refine .nil ?_
          exact ⟨_, (.inl ⟨rfl, h⟩), (imp_of (.cons rfl (.cons rfl (.cons rfl (.nil)))) (.cons rfl (.cons rfl (.nil))))⟩
        · replace h := (if_neg (nt hc21)).symm.trans h
          refine .val ?_
          refine .val (v := .agg [.sl 124 .ro (a0.Sizes.map pv124)]) ?_
          refine .val ?_
          refine .val (v := .agg [.sl 124 .ro (a1.Sizes.map pv124)]) ?_
          obtain ⟨y22, hy22, h⟩ := bindE h
          refine .cP (g117 hy22) ?_
          refine .val ?_
          refine .brF ?_
          refine .nil ?_
          exact ⟨_, (.inr (⟨_, rfl, h⟩)), (imp_of (.cons rfl (.cons rfl (.cons rfl (.nil)))) (.cons rfl (.cons rfl (.nil))))⟩
  · rintro T (⟨rfl, h⟩ | ⟨v16, rfl, h⟩)
    · subst hj15
      refine .condT ?_
      refine .seq ?_
      refine .region ?_
      refine .assign ?_
      refine .nil ?_
      cases h
      exact .ret (fin_gen0 none)
    · subst hj17
      refine .cond (fun hc23 => ?_) (fun hc23 => ?_)
      · replace h := (if_pos hc23).symm.trans h
        refine .seq ?_
        refine .region ?_
        refine .assign ?_
        refine .nil ?_
        cases h
        exact .ret (fin_gen0 none)
      · replace h := (if_neg (nt hc23)).symm.trans h
        refine .skip ?_
        obtain ⟨j41, hj41, h⟩ := joinE h
        refine .cutI (fun T => (T = St.of [] [] ∧ j41 () = some r)) ?_ ?_
        · refine .seq ?_
          refine .region ?_
          refine .val ?_
          refine .val ?_
          refine .lenL (f := pv59) ?_
          refine .move ?_
          refine .nil ?_
          refine .block ?_
          refine .loopI (fun m T => ∃ (v47 : Int), T = St.of [(2, .ptr (.loc 0 0) 0), (3, .ptr (.loc 0 1) 0), (38, .int .i64 (a0.Maps.length : Int)), (39, .int .i64 v47)] [((.loc 0 0), [.int .i64 a0.Kinds, .sl 124 .ro (a0.Rates.map pv124), .sl 59 .ro (a0.Maps.map pv59), .sl 124 .ro (a0.Sizes.map pv124)]), ((.loc 0 1), [.int .i64 a1.Kinds, .sl 124 .ro (a1.Rates.map pv124), .sl 59 .ro (a1.Maps.map pv59), .sl 124 .ro (a1.Sizes.map pv124)])] ∧ f108_l1 n a0 a1 j41 m v47 = some r) _ _ ⟨_, rfl, h⟩ (imp_of (.cons rfl (.cons rfl (.cons rfl (.cons rfl (.nil))))) (.cons rfl (.cons rfl (.nil)))) ?_
          rintro m54 T ⟨v47, rfl, h⟩
          obtain _ | m54 := m54
          · rw [f108_l1] at h; cases h
          rw [f108_l1] at h
          refine .seq ?_
          refine .region ?_
          refine .val ?_
          refine .nil ?_
          refine .seq ?_
          refine .cond (fun hc56 => ?_) (fun hc56 => ?_)
          · replace h := (if_pos hc56).symm.trans h
            refine .skip ?_
            refine .seq ?_
            refine .block ?_
            refine .seq ?_
            refine .region ?_
            refine .move ?_
            refine .assign ?_
            refine .nil ?_
            refine .seq ?_
            obtain ⟨x61, hx61, h⟩ := bindE h
            obtain ⟨x62, hx62, h⟩ := bindE h
            obtain ⟨y63, hy63, h⟩ := bindE h
            refine .draw [] [[], [], [], [], [], [], [], [], [], [], [], []] [[], [], [], [], [], [], [], [], [], [], [], []] [[]]
              [(0, 0), (1, 0), (2, 0), (3, 0), (4, 0), (5, 0), (6, 0), (7, 0), (8, 0), (9, 0), (10, 0), (11, 0)] [] 0
              [⟨[(42, .ptr (.loc 0 0) 2), (43, .sl 59 .ro (a0.Maps.map pv59)), (44, .int .i64 v47), (45, .ep 59 .ro (a0.Maps.map pv59) (v47 : Int).toNat 0), (46, .sl 3 .ro (x61.map (PV.int .i64))), (47, .ptr (.loc 0 1) 2), (48, .sl 59 .ro (a1.Maps.map pv59)), (49, .int .i64 v47), (50, .ep 59 .ro (a1.Maps.map pv59) (v47 : Int).toNat 0), (51, .sl 3 .ro (x62.map (PV.int .i64))), (52, .bool y63), (53, .bool (!y63)), (2, .ptr (.loc 0 0) 0), (3, .ptr (.loc 0 1) 0), (5, .int .i64 v47), (38, .int .i64 (a0.Maps.length : Int)), (39, .int .i64 v47)], [], [((.loc 0 0), [.int .i64 a0.Kinds, .sl 124 .ro (a0.Rates.map pv124), .sl 59 .ro (a0.Maps.map pv59), .sl 124 .ro (a0.Sizes.map pv124)]), ((.loc 0 1), [.int .i64 a1.Kinds, .sl 124 .ro (a1.Rates.map pv124), .sl 59 .ro (a1.Maps.map pv59), .sl 124 .ro (a1.Sizes.map pv124)])]⟩]
              [(2, .ptr (.loc 0 0) 0), (3, .ptr (.loc 0 1) 0), (5, .int .i64 v47), (38, .int .i64 (a0.Maps.length : Int)), (39, .int .i64 v47)]
              (.cons [2] [] (fun _ _ h => .val (h _)) rfl rfl <|
              .cons [42] [] (fun _ _ h => .val (h _)) rfl rfl <|
              .cons [5] [] (fun _ _ h => .move (h _)) rfl rfl <|
              .cons [43, 44] [] (fun _ _ h => .idxL (f := pv59) hx61 (h _)) rfl rfl <|
              .cons [45] [] (fun _ _ h => .ldL hx61 (h _)) rfl rfl <|
              .cons [3] [] (fun _ _ h => .val (h _)) rfl rfl <|
              .cons [47] [] (fun _ _ h => .val (h _)) rfl rfl <|
              .cons [5] [] (fun _ _ h => .move (h _)) rfl rfl <|
              .cons [48, 49] [] (fun _ _ h => .idxL (f := pv59) hx62 (h _)) rfl rfl <|
              .cons [50] [] (fun _ _ h => .ldL hx62 (h _)) rfl rfl <|
              .cons [46, 51] [] (fun _ _ h => .cP (g118 hy63) (h _)) rfl rfl <|
              .cons [52] [] (fun _ _ h => .val (h _)) rfl rfl <|
              .nil)
              (.nil)
              (by kernel_rfl) rfl (.cons rfl (.cons rfl (.cons rfl (.cons rfl (.cons rfl (.nil)))))) (.nil) (.cons rfl (.cons rfl (.nil))) ?_
            refine .imp (T := St.of [(2, .ptr (.loc 0 0) 0), (3, .ptr (.loc 0 1) 0), (38, .int .i64 (a0.Maps.length : Int)), (39, .int .i64 v47), (53, .bool (!y63))] [((.loc 0 0), [.int .i64 a0.Kinds, .sl 124 .ro (a0.Rates.map pv124), .sl 59 .ro (a0.Maps.map pv59), .sl 124 .ro (a0.Sizes.map pv124)]), ((.loc 0 1), [.int .i64 a1.Kinds, .sl 124 .ro (a1.Rates.map pv124), .sl 59 .ro (a1.Maps.map pv59), .sl 124 .ro (a1.Sizes.map pv124)])]) (imp_of (.cons rfl (.cons rfl (.cons rfl (.cons rfl (.cons rfl (.nil)))))) (.cons rfl (.cons rfl (.nil)))) ?_
            refine .cond (fun hc64 => ?_) (fun hc64 => ?_)
            · replace h := (if_pos hc64).symm.trans h
              refine .seq ?_
              refine .region ?_
              refine .assign ?_
              refine .nil ?_
              cases h
              exact .ret (fin_gen0 none)
            · replace h := (if_neg (nt hc64)).symm.trans h
              refine .skip ?_
              refine .region ?_
              refine .val ?_
              refine .move ?_
              refine .nil ?_
              exact ⟨m54, _, Nat.lt_succ_self m54, ⟨_, rfl, h⟩, (imp_of (.cons rfl (.cons rfl (.cons rfl (.cons rfl (.nil))))) (.cons rfl (.cons rfl (.nil))))⟩
          · replace h := (if_neg (nt hc56)).symm.trans h
            refine .exit (.hit ?_)
            exact ⟨_, ⟨rfl, h⟩, (imp_of (.nil) (.nil))⟩
        · rintro T ⟨rfl, h⟩
          subst hj41
          refine .seq ?_
          refine .region ?_
          refine .assign ?_
          refine .nil ?_
          cases h
          exact .ret (fin_gen0 none)

/- soundservice/soundserviceref10.Same -/
def f98_l1 (n : Nat) (a0 : (List Box)) (a1 : (List Box)) (j20 : Unit → Option Bool) : Nat → Int → Option Bool
  | 0, _ => none
  | m33 + 1, v26 =>
    if decide (v26 < (a0.length : Int)) then (
    (lAt a0 v26).bind fun x40 =>
    (lAt a1 v26).bind fun x41 =>
    (f108 n x40 x41).bind fun y42 =>
    if !y42 then (
    some false)
    else (
    f98_l1 n a0 a1 j20 m33 (w64 (v26 + (1 : Int)))))
    else (
    j20 ())
def f98 (n : Nat) (a0 : (List Box)) (a1 : (List Box)) : Option Bool :=
  if ((a0.length : Int) != (a1.length : Int)) then (
  some false)
  else (
  joinK (fun (_ : Unit) =>
  some true) fun j20 =>
  f98_l1 n a0 a1 j20 n 0)
set_option maxHeartbeats 4000000 in
set_option maxRecDepth 100000 in
theorem g98 {n : Nat} {a0 : (List Box)} {a1 : (List Box)} {r : Bool} (h : f98 n a0 a1 = some r) :
    Ab.Can Try.prog 98 [.sl 94 .ro (a0.map pv94), .sl 94 .ro (a1.map pv94)] H0 (.bool r) H0 := by
  refine can_of tabOK mix Try.call98 Try.func98 rfl (by kernel_rfl) (by show _ ≤ 27; simp) fun _ => ?_
  rw [f98] at h
  refine .seq ?_
  refine .region ?_
  refine .assign ?_
  refine .nil ?_
  refine .seq ?_
  refine .seq ?_
  refine .region ?_
  refine .move ?_
  refine .lenL (f := pv94) ?_
  refine .move ?_
  refine .lenL (f := pv94) ?_
  refine .val ?_
  refine .nil ?_
  refine .cond (fun hc2 => ?_) (fun hc2 => ?_)
  · replace h := (if_pos hc2).symm.trans h
    refine .seq ?_
    refine .region ?_
    refine .assign ?_
    refine .nil ?_
    cases h
    exact .ret (fin_gen0 none)
  · replace h := (if_neg (nt hc2)).symm.trans h
    refine .skip ?_
    obtain ⟨j20, hj20, h⟩ := joinE h
    refine .cutI (fun T => (T = St.of [] [] ∧ j20 () = some r)) ?_ ?_
    · refine .seq ?_
      refine .region ?_
      refine .move ?_
      refine .lenL (f := pv94) ?_
      refine .move ?_
      refine .nil ?_
      refine .block ?_
      refine .loopI (fun m T => ∃ (v26 : Int), T = St.of [(0, .sl 94 .ro (a0.map pv94)), (1, .sl 94 .ro (a1.map pv94)), (12, .int .i64 (a0.length : Int)), (13, .int .i64 v26)] [] ∧ f98_l1 n a0 a1 j20 m v26 = some r) _ _ ⟨_, rfl, h⟩ (imp_of (.cons rfl (.cons rfl (.cons rfl (.cons rfl (.nil))))) (.nil)) ?_
      rintro m33 T ⟨v26, rfl, h⟩
      obtain _ | m33 := m33
      · rw [f98_l1] at h; cases h
      rw [f98_l1] at h
      refine .seq ?_
      refine .region ?_
      refine .val ?_
      refine .nil ?_
      refine .seq ?_
      refine .cond (fun hc35 => ?_) (fun hc35 => ?_)
      · replace h := (if_pos hc35).symm.trans h
        refine .skip ?_
        refine .seq ?_
        refine .block ?_
        refine .seq ?_
        refine .region ?_
        refine .move ?_
        refine .assign ?_
        refine .nil ?_
        refine .seq ?_
        obtain ⟨x40, hx40, h⟩ := bindE h
        obtain ⟨x41, hx41, h⟩ := bindE h
        obtain ⟨y42, hy42, h⟩ := bindE h
        refine .draw [] [[], [], [], [], [], [], [], [], [], []] [[], [], [], [], [], [], [], [], [], []] [[]]
          [(0, 0), (1, 0), (2, 0), (3, 0), (4, 0), (5, 0), (6, 0), (7, 0), (8, 0), (9, 0)] [] 0
          [⟨[(16, .sl 94 .ro (a0.map pv94)), (17, .int .i64 v26), (18, .ep 94 .ro (a0.map pv94) (v26 : Int).toNat 0), (19, .agg [.int .i64 x40.Kinds, .sl 124 .ro (x40.Rates.map pv124), .sl 59 .ro (x40.Maps.map pv59), .sl 124 .ro (x40.Sizes.map pv124)]), (20, .sl 94 .ro (a1.map pv94)), (21, .int .i64 v26), (22, .ep 94 .ro (a1.map pv94) (v26 : Int).toNat 0), (23, .agg [.int .i64 x41.Kinds, .sl 124 .ro (x41.Rates.map pv124), .sl 59 .ro (x41.Maps.map pv59), .sl 124 .ro (x41.Sizes.map pv124)]), (24, .bool y42), (25, .bool (!y42)), (0, .sl 94 .ro (a0.map pv94)), (1, .sl 94 .ro (a1.map pv94)), (5, .int .i64 v26), (12, .int .i64 (a0.length : Int)), (13, .int .i64 v26)], [], []⟩]
          [(0, .sl 94 .ro (a0.map pv94)), (1, .sl 94 .ro (a1.map pv94)), (5, .int .i64 v26), (12, .int .i64 (a0.length : Int)), (13, .int .i64 v26)]
          (.cons [0] [] (fun _ _ h => .move (h _)) rfl rfl <|
          .cons [5] [] (fun _ _ h => .move (h _)) rfl rfl <|
          .cons [16, 17] [] (fun _ _ h => .idxL (f := pv94) hx40 (h _)) rfl rfl <|
          .cons [18] [] (fun _ _ h => .ldL hx40 (h _)) rfl rfl <|
          .cons [1] [] (fun _ _ h => .move (h _)) rfl rfl <|
          .cons [5] [] (fun _ _ h => .move (h _)) rfl rfl <|
          .cons [20, 21] [] (fun _ _ h => .idxL (f := pv94) hx41 (h _)) rfl rfl <|
          .cons [22] [] (fun _ _ h => .ldL hx41 (h _)) rfl rfl <|
          .cons [19, 23] [] (fun _ _ h => .cP (g108 hy42) (h _)) rfl rfl <|
          .cons [24] [] (fun _ _ h => .val (h _)) rfl rfl <|
          .nil)
          (.nil)
          (by kernel_rfl) rfl (.cons rfl (.cons rfl (.cons rfl (.cons rfl (.cons rfl (.nil)))))) (.nil) (.nil) ?_
        refine .imp (T := St.of [(0, .sl 94 .ro (a0.map pv94)), (1, .sl 94 .ro (a1.map pv94)), (12, .int .i64 (a0.length : Int)), (13, .int .i64 v26), (25, .bool (!y42))] []) (imp_of (.cons rfl (.cons rfl (.cons rfl (.cons rfl (.cons rfl (.nil)))))) (.nil)) ?_
        refine .cond (fun hc43 => ?_) (fun hc43 => ?_)
        · replace h := (if_pos hc43).symm.trans h
          refine .seq ?_
          refine .region ?_
          refine .assign ?_
          refine .nil ?_
          cases h
          exact .ret (fin_gen0 none)
        · replace h := (if_neg (nt hc43)).symm.trans h
          refine .skip ?_
          refine .region ?_
          refine .val ?_
          refine .move ?_
          refine .nil ?_
          exact ⟨m33, _, Nat.lt_succ_self m33, ⟨_, rfl, h⟩, (imp_of (.cons rfl (.cons rfl (.cons rfl (.cons rfl (.nil))))) (.nil))⟩
      · replace h := (if_neg (nt hc35)).symm.trans h
        refine .exit (.hit ?_)
        exact ⟨_, ⟨rfl, h⟩, (imp_of (.nil) (.nil))⟩
    · rintro T ⟨rfl, h⟩
      subst hj20
      refine .seq ?_
      refine .region ?_
      refine .assign ?_
      refine .nil ?_
      cases h
      exact .ret (fin_gen0 none)
end Go.Proofs.Ytcahjpkmldmjdaa
