/-
  Plain functions of descriptor, offer, slices, soundservicekeep, soundservicelaw11, soundserviceref11, and that the code does what they say.
-/
import Derived.Test.YtcahjpkmldmjdaaGf
import Derived.Test.YtcahjpkmldmjdaaGe
import Derived.Test.YtcahjpkmldmjdaaAb38
namespace Go.Proofs.Ytcahjpkmldmjdaa
open Go Ab
/- slices.IndexFunc[[]soundservice/api.Box,soundservice/api.Box] -/
def f110_l1 (n : Nat) (a0 : (List Box)) (p1 : Box → Option Bool) (j15 : Unit → Option Int) : Nat → Int → Option Int
  | 0, _ => none
  | m26 + 1, v20 =>
    if decide (v20 < (a0.length : Int)) then (
    (lAt a0 v20).bind fun x32 =>
    (p1 x32).bind fun y33 =>
    if y33 then (
    some v20)
    else (
    f110_l1 n a0 p1 j15 m26 (w64 (v20 + (1 : Int)))))
    else (
    j15 ())
def f110 (n : Nat) (a0 : (List Box)) (p1 : Box → Option Bool) : Option Int :=
  joinK (fun (_ : Unit) =>
  some (-1)) fun j15 =>
  f110_l1 n a0 p1 j15 n 0
set_option maxHeartbeats 4000000 in
set_option maxRecDepth 100000 in
theorem g110 {n : Nat} {a0 : (List Box)} {p1 : Box → Option Bool} {c1 : Nat} {q1 : List PV} {hp : List (Ab.Id × List PV)} (hp1 : ∀ (x0 : Box) (b : Bool), p1 x0 = some b → Ab.Can Try.prog c1 ([.agg [.int .i64 x0.Kinds, .sl 124 .ro (x0.Rates.map pv124), .sl 59 .ro (x0.Maps.map pv59), .sl 124 .ro (x0.Sizes.map pv124)]] ++ q1) (lookH hp) (.bool b) (lookH hp)) (hq : CapOK q1 hp = true) (ho1 : PV.roDs q1 = q1) {r : Int} (h : f110 n a0 p1 = some r) :
    Ab.Can Try.prog 110 [.sl 94 .ro (a0.map pv94), .fn c1 q1] (lookH hp) (.int .i64 r) (lookH hp) := by
  refine can_of tabOK mix Try.call110 Try.func110 rfl (by kernel_rfl) (by show _ ≤ 19; simp) fun _ => ?_
  rw [f110] at h
  refine .seq ?_
  refine .region ?_
  refine .assign ?_
  refine .nil ?_
  obtain ⟨j15, hj15, h⟩ := joinE h
  refine .cutI (fun T => (T = St.of [] hp ∧ j15 () = some r)) ?_ ?_
  · refine .seq ?_
    refine .region ?_
    refine .move ?_
    refine .lenL (f := pv94) ?_
    refine .move ?_
    refine .nil ?_
    refine .block ?_
    refine .loopI (fun m T => ∃ (v20 : Int), T = St.of [(0, .sl 94 .ro (a0.map pv94)), (1, .fn c1 q1), (7, .int .i64 (a0.length : Int)), (8, .int .i64 v20)] hp ∧ f110_l1 n a0 p1 j15 m v20 = some r) _ _ ⟨_, rfl, h⟩ (imp_opq (.cons rfl (.cons rfl (.cons rfl (.cons rfl (.nil))))) rfl) ?_
    rintro m26 T ⟨v20, rfl, h⟩
    obtain _ | m26 := m26
    · rw [f110_l1] at h; cases h
    rw [f110_l1] at h
    refine .seq ?_
    refine .region ?_
    refine .val ?_
    refine .nil ?_
    refine .seq ?_
    refine .cond (fun hc28 => ?_) (fun hc28 => ?_)
    · replace h := (if_pos hc28).symm.trans h
      refine .skip ?_
      refine .seq ?_
      refine .block ?_
      refine .seq ?_
      refine .region ?_
      refine .move ?_
      refine .assign ?_
      refine .nil ?_
      refine .seq ?_
      refine .region ?_
      refine .move ?_
      refine .move ?_
      refine .move ?_
      obtain ⟨x32, hx32, h⟩ := bindE h
      refine .idxL (f := pv94) hx32 ?_
      refine .ldL hx32 (y := .agg [.int .i64 x32.Kinds, .sl 124 .ro (x32.Rates.map pv124), .sl 59 .ro (x32.Maps.map pv59), .sl 124 .ro (x32.Sizes.map pv124)]) ?_
      obtain ⟨y33, hy33, h⟩ := bindE h
      refine .cF (hp1 _ _ hy33) hq ho1 ?_
      refine .nil ?_
      refine .cond (fun hc34 => ?_) (fun hc34 => ?_)
      · replace h := (if_pos hc34).symm.trans h
        refine .seq ?_
        refine .region ?_
        refine .move ?_
        refine .assign ?_
        refine .nil ?_
        cases h
        exact .ret (fin_opq hq rfl)
      · replace h := (if_neg (nt hc34)).symm.trans h
        refine .skip ?_
        refine .region ?_
        refine .val ?_
        refine .move ?_
        refine .nil ?_
        exact ⟨m26, _, Nat.lt_succ_self m26, ⟨_, rfl, h⟩, (imp_opq (.cons rfl (.cons rfl (.cons rfl (.cons rfl (.nil))))) rfl)⟩
    · replace h := (if_neg (nt hc28)).symm.trans h
      refine .exit (.hit ?_)
      exact ⟨_, ⟨rfl, h⟩, (imp_opq (.nil) rfl)⟩
  · rintro T ⟨rfl, h⟩
    subst hj15
    refine .seq ?_
    refine .region ?_
    refine .assign ?_
    refine .nil ?_
    cases h
    exact .ret (fin_opq hq rfl)

/- slices.ContainsFunc[[]soundservice/api.Box,soundservice/api.Box] -/
def f102 (n : Nat) (a0 : (List Box)) (p1 : Box → Option Bool) : Option Bool :=
  (f110 n a0 p1).bind fun y1 =>
  some (decide (y1 ≥ (0 : Int)))
set_option maxHeartbeats 4000000 in
set_option maxRecDepth 100000 in
theorem g102 {n : Nat} {a0 : (List Box)} {p1 : Box → Option Bool} {c1 : Nat} {q1 : List PV} {hp : List (Ab.Id × List PV)} (hp1 : ∀ (x0 : Box) (b : Bool), p1 x0 = some b → Ab.Can Try.prog c1 ([.agg [.int .i64 x0.Kinds, .sl 124 .ro (x0.Rates.map pv124), .sl 59 .ro (x0.Maps.map pv59), .sl 124 .ro (x0.Sizes.map pv124)]] ++ q1) (lookH hp) (.bool b) (lookH hp)) (hq : CapOK q1 hp = true) (ho1 : PV.roDs q1 = q1) {r : Bool} (h : f102 n a0 p1 = some r) :
    Ab.Can Try.prog 102 [.sl 94 .ro (a0.map pv94), .fn c1 q1] (lookH hp) (.bool r) (lookH hp) := by
  refine can_of tabOK mix Try.call102 Try.func102 rfl (by kernel_rfl) (by show _ ≤ 9; simp) fun _ => ?_
  rw [f102] at h
  refine .seq ?_
  refine .region ?_
  refine .assign ?_
  refine .nil ?_
  refine .seq ?_
  refine .region ?_
  refine .move ?_
  refine .move ?_
  obtain ⟨y1, hy1, h⟩ := bindE h
  refine .cQ (g110 hp1 hq ho1 hy1) hq (fun i hi => by simpa [PV.idss, PV.ids] using hi) ?_
  refine .val ?_
  refine .assign ?_
  refine .nil ?_
  cases h
  exact .ret (fin_opq hq rfl)

/- soundservice/offer.within -/
def f111 (n : Nat) (a0 : IntSet) (a1 : Int) (a2 : Int) : Option Bool :=
  if decide ((a0.Spans.length : Int) > (0 : Int)) then (
  (f121 n (⟨a0.Spans⟩ : IntSet)).bind fun y8 =>
  if y8 then (
  (lAt a0.Spans (0 : Int)).bind fun x10 =>
  if decide (x10.Lo ≥ a1) then (
  (lAt a0.Spans (w64 ((a0.Spans.length : Int) - (1 : Int)))).bind fun x12 =>
  some (decide (x12.Hi ≤ a2)))
  else (
  some false))
  else (
  some false))
  else (
  some false)
set_option maxHeartbeats 4000000 in
set_option maxRecDepth 100000 in
theorem g111 {n : Nat} {a0 : IntSet} {a1 : Int} {a2 : Int} {r : Bool} (h : f111 n a0 a1 a2 = some r) :
    Ab.Can Try.prog 111 [.agg [.sl 124 .ro (a0.Spans.map pv124)], .int .i64 a1, .int .i64 a2] H0 (.bool r) H0 := by
  refine can_of tabOK mix Try.call111 Try.func111 rfl (by kernel_rfl) (by show _ ≤ 37; simp) fun _ => ?_
  rw [f111] at h
  refine .seq ?_
  refine .region ?_
  refine .boxL (cs := [.sl 124 .ro (a0.Spans.map pv124)]) ?_
  refine .assign ?_
  refine .nil ?_
  refine .seq ?_
  refine .region ?_
  refine .val ?_
  refine .val ?_
  refine .lenL (f := pv124) ?_
  refine .assign ?_
  refine .nil ?_
  refine .seq ?_
  refine .region ?_
  refine .move ?_
  refine .val ?_
  refine .move ?_
  refine .caseG (fun hc7 => ?_) (fun hc7 => ?_)
  · replace h := (if_pos hc7).symm.trans h
    refine .val (v := .agg [.sl 124 .ro (a0.Spans.map pv124)]) ?_
    obtain ⟨y8, hy8, h⟩ := bindE h
    refine .cP (g121 hy8) ?_
    refine .brT ?_
    refine .move ?_
    refine .caseG (fun hc9 => ?_) (fun hc9 => ?_)
    · replace h := (if_pos hc9).symm.trans h
      refine .val ?_
      refine .val ?_
      obtain ⟨x10, hx10, h⟩ := bindE h
      refine .idxL (f := pv124) hx10 ?_
      refine .val ?_
      refine .ldL hx10 (y := .int .i64 x10.Lo) ?_
      refine .move ?_
      refine .val ?_
      refine .brT ?_
      refine .move ?_
      refine .caseG (fun hc11 => ?_) (fun hc11 => ?_)
      · replace h := (if_pos hc11).symm.trans h
        refine .val ?_
        refine .val ?_
        refine .move ?_
        refine .val ?_
        obtain ⟨x12, hx12, h⟩ := bindE h
        refine .idxL (f := pv124) hx12 ?_
        refine .val ?_
        refine .ldL hx12 (y := .int .i64 x12.Hi) ?_
        refine .move ?_
        refine .val ?_
        refine .brT ?_
        refine .assign ?_
        refine .nil ?_
        cases h
        exact .ret (fin_gen0 none)
      · replace h := (if_neg (nt hc11)).symm.trans h
        refine .skip ?_
        refine .skip ?_
        refine .skip ?_
        refine .skip ?_
        refine .skip ?_
        refine .skip ?_
        refine .skip ?_
        refine .skip ?_
        refine .skip ?_
        refine .brF ?_
        refine .assign ?_
        refine .nil ?_
        cases h
        exact .ret (fin_gen0 none)
    · replace h := (if_neg (nt hc9)).symm.trans h
      refine .skip ?_
      refine .skip ?_
      refine .skip ?_
      refine .skip ?_
      refine .skip ?_
      refine .skip ?_
      refine .skip ?_
      refine .brF ?_
      refine .move ?_
      refine .skip ?_
      refine .skip ?_
      refine .skip ?_
      refine .skip ?_
      refine .skip ?_
      refine .skip ?_
      refine .skip ?_
      refine .skip ?_
      refine .skip ?_
      refine .brF ?_
      refine .assign ?_
      refine .nil ?_
      cases h
      exact .ret (fin_gen0 none)
  · replace h := (if_neg (nt hc7)).symm.trans h
    refine .skip ?_
    refine .skip ?_
    refine .brF ?_
    refine .move ?_
    refine .skip ?_
    refine .skip ?_
    refine .skip ?_
    refine .skip ?_
    refine .skip ?_
    refine .skip ?_
    refine .skip ?_
    refine .brF ?_
    refine .move ?_
    refine .skip ?_
    refine .skip ?_
    refine .skip ?_
    refine .skip ?_
    refine .skip ?_
    refine .skip ?_
    refine .skip ?_
    refine .skip ?_
    refine .skip ?_
    refine .brF ?_
    refine .assign ?_
    refine .nil ?_
    cases h
    exact .ret (fin_gen0 none)

/- soundservice/offer.has$1 -/
def f124 (n : Nat) (a0 : (List Int)) (c0 : (List Int)) : Option Bool :=
  (f125 n a0 c0).bind fun y1 =>
  some y1
set_option maxHeartbeats 4000000 in
set_option maxRecDepth 100000 in
theorem g124 {n : Nat} {a0 : (List Int)} {c0 : (List Int)} {r : Bool} (h : f124 n a0 c0 = some r) :
    Ab.Can Try.prog 124 [.sl 3 .ro (a0.map (PV.int .i64)), .ptr (.par 0) 0] (lookH [(.par 0, [.sl 3 .ro (c0.map (PV.int .i64))])]) (.bool r) (lookH [(.par 0, [.sl 3 .ro (c0.map (PV.int .i64))])]) := by
  refine can_of tabOK mix Try.call124 Try.func124 rfl (by kernel_rfl) (by show _ ≤ 7; simp) fun _ => ?_
  rw [f124] at h
  refine .seq ?_
  refine .region ?_
  refine .assign ?_
  refine .nil ?_
  refine .seq ?_
  refine .region ?_
  refine .move ?_
  refine .val ?_
  obtain ⟨y1, hy1, h⟩ := bindE h
  refine .cP (g125 hy1) ?_
  refine .assign ?_
  refine .nil ?_
  cases h
  exact .ret (fin_gen none (.par .nil))

/- slices.IndexFunc[[][]int,[]int] -/
def f132_l1 (n : Nat) (a0 : (List (List Int))) (p1 : (List Int) → Option Bool) (j15 : Unit → Option Int) : Nat → Int → Option Int
  | 0, _ => none
  | m26 + 1, v20 =>
    if decide (v20 < (a0.length : Int)) then (
    (lAt a0 v20).bind fun x32 =>
    (p1 x32).bind fun y33 =>
    if y33 then (
    some v20)
    else (
    f132_l1 n a0 p1 j15 m26 (w64 (v20 + (1 : Int)))))
    else (
    j15 ())
def f132 (n : Nat) (a0 : (List (List Int))) (p1 : (List Int) → Option Bool) : Option Int :=
  joinK (fun (_ : Unit) =>
  some (-1)) fun j15 =>
  f132_l1 n a0 p1 j15 n 0
set_option maxHeartbeats 4000000 in
set_option maxRecDepth 100000 in
theorem g132 {n : Nat} {a0 : (List (List Int))} {p1 : (List Int) → Option Bool} {c1 : Nat} {q1 : List PV} {hp : List (Ab.Id × List PV)} (hp1 : ∀ (x0 : (List Int)) (b : Bool), p1 x0 = some b → Ab.Can Try.prog c1 ([.sl 3 .ro (x0.map (PV.int .i64))] ++ q1) (lookH hp) (.bool b) (lookH hp)) (hq : CapOK q1 hp = true) (ho1 : PV.roDs q1 = q1) {r : Int} (h : f132 n a0 p1 = some r) :
    Ab.Can Try.prog 132 [.sl 59 .ro (a0.map pv59), .fn c1 q1] (lookH hp) (.int .i64 r) (lookH hp) := by
  refine can_of tabOK mix Try.call132 Try.func132 rfl (by kernel_rfl) (by show _ ≤ 19; simp) fun _ => ?_
  rw [f132] at h
  refine .seq ?_
  refine .region ?_
  refine .assign ?_
  refine .nil ?_
  obtain ⟨j15, hj15, h⟩ := joinE h
  refine .cutI (fun T => (T = St.of [] hp ∧ j15 () = some r)) ?_ ?_
  · refine .seq ?_
    refine .region ?_
    refine .move ?_
    refine .lenL (f := pv59) ?_
    refine .move ?_
    refine .nil ?_
    refine .block ?_
    refine .loopI (fun m T => ∃ (v20 : Int), T = St.of [(0, .sl 59 .ro (a0.map pv59)), (1, .fn c1 q1), (7, .int .i64 (a0.length : Int)), (8, .int .i64 v20)] hp ∧ f132_l1 n a0 p1 j15 m v20 = some r) _ _ ⟨_, rfl, h⟩ (imp_opq (.cons rfl (.cons rfl (.cons rfl (.cons rfl (.nil))))) rfl) ?_
    rintro m26 T ⟨v20, rfl, h⟩
    obtain _ | m26 := m26
    · rw [f132_l1] at h; cases h
    rw [f132_l1] at h
    refine .seq ?_
    refine .region ?_
    refine .val ?_
    refine .nil ?_
    refine .seq ?_
    refine .cond (fun hc28 => ?_) (fun hc28 => ?_)
    · replace h := (if_pos hc28).symm.trans h
      refine .skip ?_
      refine .seq ?_
      refine .block ?_
      refine .seq ?_
      refine .region ?_
      refine .move ?_
      refine .assign ?_
      refine .nil ?_
      refine .seq ?_
      refine .region ?_
      refine .move ?_
      refine .move ?_
      refine .move ?_
      obtain ⟨x32, hx32, h⟩ := bindE h
      refine .idxL (f := pv59) hx32 ?_
      refine .ldL hx32 (y := .sl 3 .ro (x32.map (PV.int .i64))) ?_
      obtain ⟨y33, hy33, h⟩ := bindE h
      refine .cF (hp1 _ _ hy33) hq ho1 ?_
      refine .nil ?_
      refine .cond (fun hc34 => ?_) (fun hc34 => ?_)
      · replace h := (if_pos hc34).symm.trans h
        refine .seq ?_
        refine .region ?_
        refine .move ?_
        refine .assign ?_
        refine .nil ?_
        cases h
        exact .ret (fin_opq hq rfl)
      · replace h := (if_neg (nt hc34)).symm.trans h
        refine .skip ?_
        refine .region ?_
        refine .val ?_
        refine .move ?_
        refine .nil ?_
        exact ⟨m26, _, Nat.lt_succ_self m26, ⟨_, rfl, h⟩, (imp_opq (.cons rfl (.cons rfl (.cons rfl (.cons rfl (.nil))))) rfl)⟩
    · replace h := (if_neg (nt hc28)).symm.trans h
      refine .exit (.hit ?_)
      exact ⟨_, ⟨rfl, h⟩, (imp_opq (.nil) rfl)⟩
  · rintro T ⟨rfl, h⟩
    subst hj15
    refine .seq ?_
    refine .region ?_
    refine .assign ?_
    refine .nil ?_
    cases h
    exact .ret (fin_opq hq rfl)

/- slices.ContainsFunc[[][]int,[]int] -/
def f123 (n : Nat) (a0 : (List (List Int))) (p1 : (List Int) → Option Bool) : Option Bool :=
  (f132 n a0 p1).bind fun y1 =>
  some (decide (y1 ≥ (0 : Int)))
set_option maxHeartbeats 4000000 in
set_option maxRecDepth 100000 in
theorem g123 {n : Nat} {a0 : (List (List Int))} {p1 : (List Int) → Option Bool} {c1 : Nat} {q1 : List PV} {hp : List (Ab.Id × List PV)} (hp1 : ∀ (x0 : (List Int)) (b : Bool), p1 x0 = some b → Ab.Can Try.prog c1 ([.sl 3 .ro (x0.map (PV.int .i64))] ++ q1) (lookH hp) (.bool b) (lookH hp)) (hq : CapOK q1 hp = true) (ho1 : PV.roDs q1 = q1) {r : Bool} (h : f123 n a0 p1 = some r) :
    Ab.Can Try.prog 123 [.sl 59 .ro (a0.map pv59), .fn c1 q1] (lookH hp) (.bool r) (lookH hp) := by
  refine can_of tabOK mix Try.call123 Try.func123 rfl (by kernel_rfl) (by show _ ≤ 9; simp) fun _ => ?_
  rw [f123] at h
  refine .seq ?_
  refine .region ?_
  refine .assign ?_
  refine .nil ?_
  refine .seq ?_
  refine .region ?_
  refine .move ?_
  refine .move ?_
  obtain ⟨y1, hy1, h⟩ := bindE h
  refine .cQ (g132 hp1 hq ho1 hy1) hq (fun i hi => by simpa [PV.idss, PV.ids] using hi) ?_
  refine .val ?_
  refine .assign ?_
  refine .nil ?_
  cases h
  exact .ret (fin_opq hq rfl)

/- soundservice/offer.has -/
def f113 (n : Nat) (a0 : (List (List Int))) (a1 : (List Int)) : Option Bool :=
  (f123 n a0 (fun z0 => f124 n z0 a1)).bind fun y1 =>
  some y1
set_option maxHeartbeats 4000000 in
set_option maxRecDepth 100000 in
theorem g113 {n : Nat} {a0 : (List (List Int))} {a1 : (List Int)} {r : Bool} (h : f113 n a0 a1 = some r) :
    Ab.Can Try.prog 113 [.sl 59 .ro (a0.map pv59), .sl 3 .ro (a1.map (PV.int .i64))] H0 (.bool r) H0 := by
  refine can_of tabOK mix Try.call113 Try.func113 rfl (by kernel_rfl) (by show _ ≤ 8; simp) fun _ => ?_
  rw [f113] at h
  refine .seq ?_
  refine .region ?_
  refine .boxL (cs := [.sl 3 .ro (a1.map (PV.int .i64))]) ?_
  refine .assign ?_
  refine .nil ?_
  refine .seq ?_
  refine .region ?_
  refine .move ?_
  refine .val (v := .fn 124 [.ptr (.loc 0 0) 0]) ?_
  obtain ⟨y1, hy1, h⟩ := bindE h
  refine .cH (.loc 0 0) (g123 (q1 := [.ptr (.par 0) 0]) (hp := [(.par 0, [.sl 3 .ro (a1.map (PV.int .i64))])]) (fun _ _ hz => g124 hz) rfl rfl hy1) ?_
  refine .assign ?_
  refine .nil ?_
  cases h
  exact .ret (fin_gen0 none)

/- soundservice/offer.fine -/
def f104_l1 (n : Nat) (a0 : Box) (j56 : Unit → Option Bool) : Nat → Int → Option Bool
  | 0, _ => none
  | m79 + 1, v67 =>
    if decide (v67 < (a0.Maps.length : Int)) then (
    (lAt a0.Maps v67).bind fun x91 =>
    joinK (fun (_ : Unit) =>
    some false) fun j96 =>
    joinK (fun (v97 : Bool) =>
    if v97 then (
    some false)
    else (
    f104_l1 n a0 j56 m79 (w64 (v67 + (1 : Int))))) fun j98 =>
    (f112 n x91).bind fun y99 =>
    if !y99 then (
    j96 ())
    else (
    (lPart a0.Maps (0 : Int) v67).bind fun x101 =>
    (f113 n x101 x91).bind fun y102 =>
    j98 y102))
    else (
    j56 ())
def f104 (n : Nat) (a0 : Box) : Option Bool :=
  joinK (fun (_ : Unit) =>
  some false) fun j15 =>
  joinK (fun (v16 : Bool) =>
  if v16 then (
  some false)
  else (
  joinK (fun (_ : Unit) =>
  if decide ((a0.Maps.length : Int) ≥ (1 : Int)) then (
  some (decide ((a0.Maps.length : Int) ≤ (16 : Int))))
  else (
  some false)) fun j56 =>
  f104_l1 n a0 j56 n 0)) fun j17 =>
  if (a0.Kinds == (0 : Int)) then (
  j15 ())
  else (
  if ((bitsI .andNot .i64 a0.Kinds (254 : Int)) != (0 : Int)) then (
  j15 ())
  else (
  (f111 n (⟨a0.Rates⟩ : IntSet) (1000 : Int) (768000 : Int)).bind fun y20 =>
  if !y20 then (
  j15 ())
  else (
  (f111 n (⟨a0.Sizes⟩ : IntSet) (1 : Int) (65536 : Int)).bind fun y22 =>
  j17 (!y22))))
set_option maxHeartbeats 4000000 in
set_option maxRecDepth 100000 in
theorem g104 {n : Nat} {a0 : Box} {r : Bool} (h : f104 n a0 = some r) :
    Ab.Can Try.prog 104 [.agg [.int .i64 a0.Kinds, .sl 124 .ro (a0.Rates.map pv124), .sl 59 .ro (a0.Maps.map pv59), .sl 124 .ro (a0.Sizes.map pv124)]] H0 (.bool r) H0 := by
  refine can_of tabOK mix Try.call104 Try.func104 rfl (by kernel_rfl) (by show _ ≤ 56; simp) fun _ => ?_
  rw [f104] at h
  refine .seq ?_
  refine .region ?_
  refine .boxL (cs := [.int .i64 a0.Kinds, .sl 124 .ro (a0.Rates.map pv124), .sl 59 .ro (a0.Maps.map pv59), .sl 124 .ro (a0.Sizes.map pv124)]) ?_
  refine .assign ?_
  refine .nil ?_
  refine .seq ?_
  obtain ⟨j15, hj15, h⟩ := joinE h
  obtain ⟨j17, hj17, h⟩ := joinE h
  refine .cutI (fun T => (T = St.of [(1, .ptr (.loc 0 0) 0), (25, .bool true)] [((.loc 0 0), [.int .i64 a0.Kinds, .sl 124 .ro (a0.Rates.map pv124), .sl 59 .ro (a0.Maps.map pv59), .sl 124 .ro (a0.Sizes.map pv124)])] ∧ j15 () = some r) ∨ (∃ (v16 : Bool), T = St.of [(1, .ptr (.loc 0 0) 0), (25, .bool v16)] [((.loc 0 0), [.int .i64 a0.Kinds, .sl 124 .ro (a0.Rates.map pv124), .sl 59 .ro (a0.Maps.map pv59), .sl 124 .ro (a0.Sizes.map pv124)])] ∧ j17 v16 = some r)) ?_ ?_
  · refine .region ?_
    refine .val ?_
    refine .val ?_
    refine .val ?_
    refine .move ?_
    refine .caseG (fun hc18 => ?_) (fun hc18 => ?_)
    · replace h := (if_pos hc18).symm.trans h
      refine .skip ?_
      refine .skip ?_
      refine .skip ?_
      refine .skip ?_
      refine .brT ?_
      refine .move ?_
      refine .skip ?_
      refine .skip ?_
      refine .skip ?_
      refine .skip ?_
      refine .brT ?_
      refine .move ?_
      refine .skip ?_
      refine .skip ?_
      refine .skip ?_
      refine .skip ?_
      refine .brT ?_
      refine .nil ?_
      exact ⟨_, (.inl ⟨rfl, h⟩), (imp_of (.cons rfl (.cons rfl (.nil))) (.cons rfl (.nil)))⟩
    · replace h := (if_neg (nt hc18)).symm.trans h
      refine .val ?_
      refine .val ?_
      refine .val ?_
      refine .val ?_
      refine .brF ?_
      refine .move ?_
      refine .caseG (fun hc19 => ?_) (fun hc19 => ?_)
      · replace h := (if_pos hc19).symm.trans h
        refine .skip ?_
        refine .skip ?_
        refine .skip ?_
        refine .skip ?_
        refine .brT ?_
        refine .move ?_
        refine .skip ?_
        refine .skip ?_
        refine .skip ?_
        refine .skip ?_
        refine .brT ?_
        refine .nil ?_
        exact ⟨_, (.inl ⟨rfl, h⟩), (imp_of (.cons rfl (.cons rfl (.nil))) (.cons rfl (.nil)))⟩
      · replace h := (if_neg (nt hc19)).symm.trans h
        refine .val ?_
        refine .val (v := .agg [.sl 124 .ro (a0.Rates.map pv124)]) ?_
        obtain ⟨y20, hy20, h⟩ := bindE h
        refine .cP (g111 hy20) ?_
        refine .val ?_
        refine .brF ?_
        refine .move ?_
        refine .caseG (fun hc21 => ?_) (fun hc21 => ?_)
        · replace h := (if_pos hc21).symm.trans h
          refine .skip ?_
          refine .skip ?_
          refine .skip ?_
          refine .skip ?_
          refine .brT ?_
          refine .nil ?_
          exact ⟨_, (.inl ⟨rfl, h⟩), (imp_of (.cons rfl (.cons rfl (.nil))) (.cons rfl (.nil)))⟩
        · replace h := (if_neg (nt hc21)).symm.trans h
          refine .val ?_
          refine .val (v := .agg [.sl 124 .ro (a0.Sizes.map pv124)]) ?_
          obtain ⟨y22, hy22, h⟩ := bindE h
          refine .cP (g111 hy22) ?_
          refine .val ?_
          refine .brF ?_
          refine .nil ?_
          exact ⟨_, (.inr (⟨_, rfl, h⟩)), (imp_of (.cons rfl (.cons rfl (.nil))) (.cons rfl (.nil)))⟩
  · rintro T (⟨rfl, h⟩ | ⟨v16, rfl, h⟩)
    · subst hj15
      refine .condT ?_
      refine .seq ?_
      refine .region ?_
      refine .assign ?_
      refine .nil ?_
      cases h
      exact .ret (fin_gen0 none)
    · subst hj17
      refine .cond (fun hc23 => ?_) (fun hc23 => ?_)
      · replace h := (if_pos hc23).symm.trans h
        refine .seq ?_
        refine .region ?_
        refine .assign ?_
        refine .nil ?_
        cases h
        exact .ret (fin_gen0 none)
      · replace h := (if_neg (nt hc23)).symm.trans h
        refine .skip ?_
        obtain ⟨j56, hj56, h⟩ := joinE h
        refine .cutI (fun T => (T = St.of [(1, .ptr (.loc 0 0) 0)] [((.loc 0 0), [.int .i64 a0.Kinds, .sl 124 .ro (a0.Rates.map pv124), .sl 59 .ro (a0.Maps.map pv59), .sl 124 .ro (a0.Sizes.map pv124)])] ∧ j56 () = some r)) ?_ ?_
        · refine .seq ?_
          refine .region ?_
          refine .val ?_
          refine .val ?_
          refine .lenL (f := pv59) ?_
          refine .move ?_
          refine .nil ?_
          refine .block ?_
          refine .loopI (fun m T => ∃ (v67 : Int), T = St.of [(1, .ptr (.loc 0 0) 0), (27, .sl 59 .ro (a0.Maps.map pv59)), (28, .int .i64 (a0.Maps.length : Int)), (29, .int .i64 v67)] [((.loc 0 0), [.int .i64 a0.Kinds, .sl 124 .ro (a0.Rates.map pv124), .sl 59 .ro (a0.Maps.map pv59), .sl 124 .ro (a0.Sizes.map pv124)])] ∧ f104_l1 n a0 j56 m v67 = some r) _ _ ⟨_, rfl, h⟩ (imp_of (.cons rfl (.cons rfl (.cons rfl (.cons rfl (.nil))))) (.cons rfl (.nil))) ?_
          rintro m79 T ⟨v67, rfl, h⟩
          obtain _ | m79 := m79
          · rw [f104_l1] at h; cases h
          rw [f104_l1] at h
          refine .seq ?_
          refine .region ?_
          refine .val ?_
          refine .nil ?_
          refine .seq ?_
          refine .cond (fun hc81 => ?_) (fun hc81 => ?_)
          · replace h := (if_pos hc81).symm.trans h
            refine .skip ?_
            refine .seq ?_
            refine .block ?_
            refine .seq ?_
            refine .region ?_
            refine .move ?_
            obtain ⟨x91, hx91, h⟩ := bindE h
            refine .idxL (f := pv59) hx91 ?_
            refine .ldL hx91 (y := .sl 3 .ro (x91.map (PV.int .i64))) ?_
            refine .assign ?_
            refine .assign ?_
            refine .nil ?_
            obtain ⟨j96, hj96, h⟩ := joinE h
            obtain ⟨j98, hj98, h⟩ := joinE h
            refine .cutI (fun T => (T = St.of [(1, .ptr (.loc 0 0) 0), (27, .sl 59 .ro (a0.Maps.map pv59)), (28, .int .i64 (a0.Maps.length : Int)), (29, .int .i64 v67), (44, .bool true)] [((.loc 0 0), [.int .i64 a0.Kinds, .sl 124 .ro (a0.Rates.map pv124), .sl 59 .ro (a0.Maps.map pv59), .sl 124 .ro (a0.Sizes.map pv124)])] ∧ j96 () = some r) ∨ (∃ (v97 : Bool), T = St.of [(1, .ptr (.loc 0 0) 0), (27, .sl 59 .ro (a0.Maps.map pv59)), (28, .int .i64 (a0.Maps.length : Int)), (29, .int .i64 v67), (44, .bool v97)] [((.loc 0 0), [.int .i64 a0.Kinds, .sl 124 .ro (a0.Rates.map pv124), .sl 59 .ro (a0.Maps.map pv59), .sl 124 .ro (a0.Sizes.map pv124)])] ∧ j98 v97 = some r)) ?_ ?_
            · refine .region ?_
              refine .move ?_
              obtain ⟨y99, hy99, h⟩ := bindE h
              refine .cP (g112 hy99) ?_
              refine .val ?_
              refine .move ?_
              refine .caseG (fun hc100 => ?_) (fun hc100 => ?_)
              · replace h := (if_pos hc100).symm.trans h
                refine .skip ?_
                refine .skip ?_
                refine .skip ?_
                refine .skip ?_
                refine .skip ?_
                refine .skip ?_
                refine .brT ?_
                refine .nil ?_
                exact ⟨_, (.inl ⟨rfl, h⟩), (imp_of (.cons rfl (.cons rfl (.cons rfl (.cons rfl (.cons rfl (.nil)))))) (.cons rfl (.nil)))⟩
              · replace h := (if_neg (nt hc100)).symm.trans h
                refine .val ?_
                refine .val ?_
                refine .move ?_
                obtain ⟨x101, hx101, h⟩ := bindE h
                refine .partL (f := pv59) hx101 ?_
                refine .move ?_
                obtain ⟨y102, hy102, h⟩ := bindE h
                refine .cP (g113 hy102) ?_
                refine .brF ?_
                refine .nil ?_
                exact ⟨_, (.inr (⟨_, rfl, h⟩)), (imp_of (.cons rfl (.cons rfl (.cons rfl (.cons rfl (.cons rfl (.nil)))))) (.cons rfl (.nil)))⟩
            · rintro T (⟨rfl, h⟩ | ⟨v97, rfl, h⟩)
              · subst hj96
                refine .condT ?_
                refine .seq ?_
                refine .region ?_
                refine .assign ?_
                refine .nil ?_
                cases h
                exact .ret (fin_gen0 none)
              · subst hj98
                refine .cond (fun hc103 => ?_) (fun hc103 => ?_)
                · replace h := (if_pos hc103).symm.trans h
                  refine .seq ?_
                  refine .region ?_
                  refine .assign ?_
                  refine .nil ?_
                  cases h
                  exact .ret (fin_gen0 none)
                · replace h := (if_neg (nt hc103)).symm.trans h
                  refine .skip ?_
                  refine .region ?_
                  refine .val ?_
                  refine .move ?_
                  refine .nil ?_
                  exact ⟨m79, _, Nat.lt_succ_self m79, ⟨_, rfl, h⟩, (imp_of (.cons rfl (.cons rfl (.cons rfl (.cons rfl (.nil))))) (.cons rfl (.nil)))⟩
          · replace h := (if_neg (nt hc81)).symm.trans h
            refine .exit (.hit ?_)
            exact ⟨_, ⟨rfl, h⟩, (imp_of (.cons rfl (.nil)) (.cons rfl (.nil)))⟩
        · rintro T ⟨rfl, h⟩
          subst hj56
          refine .seq ?_
          refine .region ?_
          refine .val ?_
          refine .val ?_
          refine .lenL (f := pv59) ?_
          refine .val ?_
          refine .move ?_
          refine .caseG (fun hc105 => ?_) (fun hc105 => ?_)
          · replace h := (if_pos hc105).symm.trans h
            refine .val ?_
            refine .val ?_
            refine .lenL (f := pv59) ?_
            refine .val ?_
            refine .brT ?_
            refine .assign ?_
            refine .nil ?_
            cases h
            exact .ret (fin_gen0 none)
          · replace h := (if_neg (nt hc105)).symm.trans h
            refine .skip ?_
            refine .skip ?_
            refine .skip ?_
            refine .skip ?_
            refine .brF ?_
            refine .assign ?_
            refine .nil ?_
            cases h
            exact .ret (fin_gen0 none)

/- soundservice/offer.Valid$1 -/
def f103 (n : Nat) (a0 : Box) : Option Bool :=
  (f104 n (⟨a0.Kinds, a0.Rates, a0.Maps, a0.Sizes⟩ : Box)).bind fun y1 =>
  some (!y1)
set_option maxHeartbeats 4000000 in
set_option maxRecDepth 100000 in
theorem g103 {n : Nat} {a0 : Box} {r : Bool} (h : f103 n a0 = some r) :
    Ab.Can Try.prog 103 [.agg [.int .i64 a0.Kinds, .sl 124 .ro (a0.Rates.map pv124), .sl 59 .ro (a0.Maps.map pv59), .sl 124 .ro (a0.Sizes.map pv124)]] H0 (.bool r) H0 := by
  refine can_of tabOK mix Try.call103 Try.func103 rfl (by kernel_rfl) (by show _ ≤ 6; simp) fun _ => ?_
  rw [f103] at h
  refine .seq ?_
  refine .region ?_
  refine .boxL (cs := [.int .i64 a0.Kinds, .sl 124 .ro (a0.Rates.map pv124), .sl 59 .ro (a0.Maps.map pv59), .sl 124 .ro (a0.Sizes.map pv124)]) ?_
  refine .assign ?_
  refine .nil ?_
  refine .seq ?_
  refine .region ?_
  refine .val (v := .agg [.int .i64 a0.Kinds, .sl 124 .ro (a0.Rates.map pv124), .sl 59 .ro (a0.Maps.map pv59), .sl 124 .ro (a0.Sizes.map pv124)]) ?_
  obtain ⟨y1, hy1, h⟩ := bindE h
  refine .cP (g104 hy1) ?_
  refine .val ?_
  refine .assign ?_
  refine .nil ?_
  cases h
  exact .ret (fin_gen0 none)

/- soundservice/offer.Valid -/
def f91 (n : Nat) (a0 : (List Box)) : Option Bool :=
  if decide ((a0.length : Int) ≤ (64 : Int)) then (
  (f102 n a0 (fun z0 => f103 n z0)).bind fun y4 =>
  some (!y4))
  else (
  some false)
set_option maxHeartbeats 4000000 in
set_option maxRecDepth 100000 in
theorem g91 {n : Nat} {a0 : (List Box)} {r : Bool} (h : f91 n a0 = some r) :
    Ab.Can Try.prog 91 [.sl 94 .ro (a0.map pv94)] H0 (.bool r) H0 := by
  refine can_of tabOK mix Try.call91 Try.func91 rfl (by kernel_rfl) (by show _ ≤ 11; simp) fun _ => ?_
  rw [f91] at h
  refine .seq ?_
  refine .region ?_
  refine .assign ?_
  refine .nil ?_
  refine .seq ?_
  refine .region ?_
  refine .move ?_
  refine .lenL (f := pv94) ?_
  refine .val ?_
  refine .move ?_
  refine .caseG (fun hc3 => ?_) (fun hc3 => ?_)
  · replace h := (if_pos hc3).symm.trans h
    refine .move ?_
    obtain ⟨y4, hy4, h⟩ := bindE h
    refine .cP (g102 (q1 := []) (hp := []) (fun _ _ hz => g103 hz) rfl rfl hy4) ?_
    refine .val ?_
    refine .brT ?_
    refine .assign ?_
    refine .nil ?_
    cases h
    exact .ret (fin_gen0 none)
  · replace h := (if_neg (nt hc3)).symm.trans h
    refine .skip ?_
    refine .skip ?_
    refine .skip ?_
    refine .brF ?_
    refine .assign ?_
    refine .nil ?_
    cases h
    exact .ret (fin_gen0 none)

/- soundservice/descriptor.Valid -/
def f56 (n : Nat) (a0 : Descriptor) : Option Bool :=
  joinK (fun (v44 : Bool) =>
  if v44 then (
  some false)
  else (
  if decide ((a0.Boxes.length : Int) ≥ (1 : Int)) then (
  if decide ((a0.Boxes.length : Int) ≤ (8 : Int)) then (
  (f91 n a0.Boxes).bind fun y73 =>
  some y73)
  else (
  some false))
  else (
  some false))) fun j45 =>
  (f90 n a0.Name).bind fun y46 =>
  if !y46 then (
  j45 (!y46))
  else (
  joinK (fun (_ : Unit) =>
  if (a0.Direction != (2 : Int)) then (
  j45 (a0.Direction != (2 : Int)))
  else (
  if decide (a0.Domain < (0 : Int)) then (
  j45 (decide (a0.Domain < (0 : Int))))
  else (
  if decide (a0.Domain > (65535 : Int)) then (
  j45 (decide (a0.Domain > (65535 : Int))))
  else (
  if decide (a0.Latency < (0 : Int)) then (
  j45 (decide (a0.Latency < (0 : Int))))
  else (
  if decide (a0.Latency > (1048576 : Int)) then (
  j45 (decide (a0.Latency > (1048576 : Int))))
  else (
  if decide (a0.Drift < (0 : Int)) then (
  j45 (decide (a0.Drift < (0 : Int))))
  else (
  if decide (a0.Drift > (2048 : Int)) then (
  j45 (decide (a0.Drift > (2048 : Int))))
  else (
  if decide (a0.Jitter < (0 : Int)) then (
  j45 (decide (a0.Jitter < (0 : Int))))
  else (
  j45 (decide (a0.Jitter > (4096 : Int)))))))))))) fun j49 =>
  joinK (fun (_ : Unit) =>
  if decide (a0.Domain < (0 : Int)) then (
  j45 (decide (a0.Domain < (0 : Int))))
  else (
  if decide (a0.Domain > (65535 : Int)) then (
  j45 (decide (a0.Domain > (65535 : Int))))
  else (
  if decide (a0.Latency < (0 : Int)) then (
  j45 (decide (a0.Latency < (0 : Int))))
  else (
  if decide (a0.Latency > (1048576 : Int)) then (
  j45 (decide (a0.Latency > (1048576 : Int))))
  else (
  if decide (a0.Drift < (0 : Int)) then (
  j45 (decide (a0.Drift < (0 : Int))))
  else (
  if decide (a0.Drift > (2048 : Int)) then (
  j45 (decide (a0.Drift > (2048 : Int))))
  else (
  if decide (a0.Jitter < (0 : Int)) then (
  j45 (decide (a0.Jitter < (0 : Int))))
  else (
  j45 (decide (a0.Jitter > (4096 : Int))))))))))) fun j50 =>
  if (a0.Direction != (1 : Int)) then (
  j49 ())
  else (
  j50 ()))
set_option maxHeartbeats 4000000 in
set_option maxRecDepth 100000 in
theorem g56 {n : Nat} {a0 : Descriptor} {r : Bool} (h : f56 n a0 = some r) :
    Ab.Can Try.prog 56 [.agg [.int .u64 a0.ID, .str a0.Name, .int .i64 a0.Direction, .int .i64 a0.Domain, .int .i64 a0.Latency, .int .i64 a0.Drift, .int .i64 a0.Jitter, .sl 94 .ro (a0.Boxes.map pv94)]] H0 (.bool r) H0 := by
  refine can_of tabOK mix Try.call56 Try.func56 rfl (by kernel_rfl) (by show _ ≤ 55; simp) fun _ => ?_
  rw [f56] at h
  refine .seq ?_
  refine .region ?_
  refine .boxL (cs := [.int .u64 a0.ID, .str a0.Name, .int .i64 a0.Direction, .int .i64 a0.Domain, .int .i64 a0.Latency, .int .i64 a0.Drift, .int .i64 a0.Jitter, .sl 94 .ro (a0.Boxes.map pv94)]) ?_
  refine .assign ?_
  refine .nil ?_
  refine .seq ?_
  refine .block ?_
  obtain ⟨j45, hj45, h⟩ := joinE h
  refine .cutI (fun T => (∃ (v44 : Bool), T = St.of [(1, .ptr (.loc 0 0) 0), (3, .bool v44)] [((.loc 0 0), [.int .u64 a0.ID, .str a0.Name, .int .i64 a0.Direction, .int .i64 a0.Domain, .int .i64 a0.Latency, .int .i64 a0.Drift, .int .i64 a0.Jitter, .sl 94 .ro (a0.Boxes.map pv94)])] ∧ j45 v44 = some r)) ?_ ?_
  · refine .seq ?_
    refine .region ?_
    refine .val ?_
    refine .val ?_
    obtain ⟨y46, hy46, h⟩ := bindE h
    refine .cP (g90 hy46) ?_
    refine .val ?_
    refine .assign ?_
    refine .nil ?_
    refine .cond (fun hc47 => ?_) (fun hc47 => ?_)
    · replace h := (if_pos hc47).symm.trans h
      refine .skip ?_
      exact ⟨_, ⟨_, rfl, h⟩, (imp_of (.cons rfl (.cons rfl (.nil))) (.cons rfl (.nil)))⟩
    · replace h := (if_neg (nt hc47)).symm.trans h
      obtain ⟨j49, hj49, h⟩ := joinE h
      obtain ⟨j50, hj50, h⟩ := joinE h
      refine .cutI (fun T => (T = St.of [(1, .ptr (.loc 0 0) 0), (3, .bool (a0.Direction != (2 : Int)))] [((.loc 0 0), [.int .u64 a0.ID, .str a0.Name, .int .i64 a0.Direction, .int .i64 a0.Domain, .int .i64 a0.Latency, .int .i64 a0.Drift, .int .i64 a0.Jitter, .sl 94 .ro (a0.Boxes.map pv94)])] ∧ j49 () = some r) ∨ (T = St.of [(1, .ptr (.loc 0 0) 0), (3, .bool false)] [((.loc 0 0), [.int .u64 a0.ID, .str a0.Name, .int .i64 a0.Direction, .int .i64 a0.Domain, .int .i64 a0.Latency, .int .i64 a0.Drift, .int .i64 a0.Jitter, .sl 94 .ro (a0.Boxes.map pv94)])] ∧ j50 () = some r)) ?_ ?_
      · refine .region ?_
        refine .val ?_
        refine .val ?_
        refine .val ?_
        refine .move ?_
        refine .caseG (fun hc51 => ?_) (fun hc51 => ?_)
        · replace h := (if_pos hc51).symm.trans h
          refine .val ?_
          refine .val ?_
          refine .val ?_
          refine .brT ?_
          refine .assign ?_
          refine .nil ?_
          exact ⟨_, (.inl ⟨rfl, h⟩), (imp_of (.cons rfl (.cons rfl (.nil))) (.cons rfl (.nil)))⟩
        · replace h := (if_neg (nt hc51)).symm.trans h
          refine .skip ?_
          refine .skip ?_
          refine .skip ?_
          refine .brF ?_
          refine .assign ?_
          refine .nil ?_
          exact ⟨_, (.inr (⟨rfl, h⟩)), (imp_of (.cons rfl (.cons rfl (.nil))) (.cons rfl (.nil)))⟩
      · rintro T (⟨rfl, h⟩ | ⟨rfl, h⟩)
        · subst hj49
          refine .cond (fun hc52 => ?_) (fun hc52 => ?_)
          · replace h := (if_pos hc52).symm.trans h
            refine .skip ?_
            exact ⟨_, ⟨_, rfl, h⟩, (imp_of (.cons rfl (.cons rfl (.nil))) (.cons rfl (.nil)))⟩
          · replace h := (if_neg (nt hc52)).symm.trans h
            refine .seq ?_
            refine .region ?_
            refine .val ?_
            refine .val ?_
            refine .val ?_
            refine .assign ?_
            refine .nil ?_
            refine .cond (fun hc53 => ?_) (fun hc53 => ?_)
            · replace h := (if_pos hc53).symm.trans h
              refine .skip ?_
              exact ⟨_, ⟨_, rfl, h⟩, (imp_of (.cons rfl (.cons rfl (.nil))) (.cons rfl (.nil)))⟩
            · replace h := (if_neg (nt hc53)).symm.trans h
              refine .seq ?_
              refine .region ?_
              refine .val ?_
              refine .val ?_
              refine .val ?_
              refine .assign ?_
              refine .nil ?_
              refine .cond (fun hc54 => ?_) (fun hc54 => ?_)
              · replace h := (if_pos hc54).symm.trans h
                refine .skip ?_
                exact ⟨_, ⟨_, rfl, h⟩, (imp_of (.cons rfl (.cons rfl (.nil))) (.cons rfl (.nil)))⟩
              · replace h := (if_neg (nt hc54)).symm.trans h
                refine .seq ?_
                refine .region ?_
                refine .val ?_
                refine .val ?_
                refine .val ?_
                refine .assign ?_
                refine .nil ?_
                refine .cond (fun hc55 => ?_) (fun hc55 => ?_)
                · replace h := (if_pos hc55).symm.trans h
                  refine .skip ?_
                  exact ⟨_, ⟨_, rfl, h⟩, (imp_of (.cons rfl (.cons rfl (.nil))) (.cons rfl (.nil)))⟩
                · replace h := (if_neg (nt hc55)).symm.trans h
                  refine .seq ?_
                  refine .region ?_
                  refine .val ?_
                  refine .val ?_
                  refine .val ?_
                  refine .assign ?_
                  refine .nil ?_
                  refine .cond (fun hc56 => ?_) (fun hc56 => ?_)
                  · replace h := (if_pos hc56).symm.trans h
                    refine .skip ?_
                    exact ⟨_, ⟨_, rfl, h⟩, (imp_of (.cons rfl (.cons rfl (.nil))) (.cons rfl (.nil)))⟩
                  · replace h := (if_neg (nt hc56)).symm.trans h
                    refine .seq ?_
                    refine .region ?_
                    refine .val ?_
                    refine .val ?_
                    refine .val ?_
                    refine .assign ?_
                    refine .nil ?_
                    refine .cond (fun hc57 => ?_) (fun hc57 => ?_)
                    · replace h := (if_pos hc57).symm.trans h
                      refine .skip ?_
                      exact ⟨_, ⟨_, rfl, h⟩, (imp_of (.cons rfl (.cons rfl (.nil))) (.cons rfl (.nil)))⟩
                    · replace h := (if_neg (nt hc57)).symm.trans h
                      refine .seq ?_
                      refine .region ?_
                      refine .val ?_
                      refine .val ?_
                      refine .val ?_
                      refine .assign ?_
                      refine .nil ?_
                      refine .cond (fun hc58 => ?_) (fun hc58 => ?_)
                      · replace h := (if_pos hc58).symm.trans h
                        refine .skip ?_
                        exact ⟨_, ⟨_, rfl, h⟩, (imp_of (.cons rfl (.cons rfl (.nil))) (.cons rfl (.nil)))⟩
                      · replace h := (if_neg (nt hc58)).symm.trans h
                        refine .seq ?_
                        refine .region ?_
                        refine .val ?_
                        refine .val ?_
                        refine .val ?_
                        refine .assign ?_
                        refine .nil ?_
                        refine .cond (fun hc59 => ?_) (fun hc59 => ?_)
                        · replace h := (if_pos hc59).symm.trans h
                          refine .skip ?_
                          exact ⟨_, ⟨_, rfl, h⟩, (imp_of (.cons rfl (.cons rfl (.nil))) (.cons rfl (.nil)))⟩
                        · replace h := (if_neg (nt hc59)).symm.trans h
                          refine .region ?_
                          refine .val ?_
                          refine .val ?_
                          refine .val ?_
                          refine .assign ?_
                          refine .nil ?_
                          exact ⟨_, ⟨_, rfl, h⟩, (imp_of (.cons rfl (.cons rfl (.nil))) (.cons rfl (.nil)))⟩
        · subst hj50
          refine .condF ?_
          refine .seq ?_
          refine .region ?_
          refine .val ?_
          refine .val ?_
          refine .val ?_
          refine .assign ?_
          refine .nil ?_
          refine .cond (fun hc60 => ?_) (fun hc60 => ?_)
          · replace h := (if_pos hc60).symm.trans h
            refine .skip ?_
            exact ⟨_, ⟨_, rfl, h⟩, (imp_of (.cons rfl (.cons rfl (.nil))) (.cons rfl (.nil)))⟩
          · replace h := (if_neg (nt hc60)).symm.trans h
            refine .seq ?_
            refine .region ?_
            refine .val ?_
            refine .val ?_
            refine .val ?_
            refine .assign ?_
            refine .nil ?_
            refine .cond (fun hc61 => ?_) (fun hc61 => ?_)
            · replace h := (if_pos hc61).symm.trans h
              refine .skip ?_
              exact ⟨_, ⟨_, rfl, h⟩, (imp_of (.cons rfl (.cons rfl (.nil))) (.cons rfl (.nil)))⟩
            · replace h := (if_neg (nt hc61)).symm.trans h
              refine .seq ?_
              refine .region ?_
              refine .val ?_
              refine .val ?_
              refine .val ?_
              refine .assign ?_
              refine .nil ?_
              refine .cond (fun hc62 => ?_) (fun hc62 => ?_)
              · replace h := (if_pos hc62).symm.trans h
                refine .skip ?_
                exact ⟨_, ⟨_, rfl, h⟩, (imp_of (.cons rfl (.cons rfl (.nil))) (.cons rfl (.nil)))⟩
              · replace h := (if_neg (nt hc62)).symm.trans h
                refine .seq ?_
                refine .region ?_
                refine .val ?_
                refine .val ?_
                refine .val ?_
                refine .assign ?_
                refine .nil ?_
                refine .cond (fun hc63 => ?_) (fun hc63 => ?_)
                · replace h := (if_pos hc63).symm.trans h
                  refine .skip ?_
                  exact ⟨_, ⟨_, rfl, h⟩, (imp_of (.cons rfl (.cons rfl (.nil))) (.cons rfl (.nil)))⟩
                · replace h := (if_neg (nt hc63)).symm.trans h
                  refine .seq ?_
                  refine .region ?_
                  refine .val ?_
                  refine .val ?_
                  refine .val ?_
                  refine .assign ?_
                  refine .nil ?_
                  refine .cond (fun hc64 => ?_) (fun hc64 => ?_)
                  · replace h := (if_pos hc64).symm.trans h
                    refine .skip ?_
                    exact ⟨_, ⟨_, rfl, h⟩, (imp_of (.cons rfl (.cons rfl (.nil))) (.cons rfl (.nil)))⟩
                  · replace h := (if_neg (nt hc64)).symm.trans h
                    refine .seq ?_
                    refine .region ?_
                    refine .val ?_
                    refine .val ?_
                    refine .val ?_
                    refine .assign ?_
                    refine .nil ?_
                    refine .cond (fun hc65 => ?_) (fun hc65 => ?_)
                    · replace h := (if_pos hc65).symm.trans h
                      refine .skip ?_
                      exact ⟨_, ⟨_, rfl, h⟩, (imp_of (.cons rfl (.cons rfl (.nil))) (.cons rfl (.nil)))⟩
                    · replace h := (if_neg (nt hc65)).symm.trans h
                      refine .seq ?_
                      refine .region ?_
                      refine .val ?_
                      refine .val ?_
                      refine .val ?_
                      refine .assign ?_
                      refine .nil ?_
                      refine .cond (fun hc66 => ?_) (fun hc66 => ?_)
                      · replace h := (if_pos hc66).symm.trans h
                        refine .skip ?_
                        exact ⟨_, ⟨_, rfl, h⟩, (imp_of (.cons rfl (.cons rfl (.nil))) (.cons rfl (.nil)))⟩
                      · replace h := (if_neg (nt hc66)).symm.trans h
                        refine .region ?_
                        refine .val ?_
                        refine .val ?_
                        refine .val ?_
                        refine .assign ?_
                        refine .nil ?_
                        exact ⟨_, ⟨_, rfl, h⟩, (imp_of (.cons rfl (.cons rfl (.nil))) (.cons rfl (.nil)))⟩
  · rintro T ⟨v44, rfl, h⟩
    subst hj45
    refine .cond (fun hc67 => ?_) (fun hc67 => ?_)
    · replace h := (if_pos hc67).symm.trans h
      refine .seq ?_
      refine .region ?_
      refine .assign ?_
      refine .nil ?_
      cases h
      exact .ret (fin_gen0 none)
    · replace h := (if_neg (nt hc67)).symm.trans h
      refine .skip ?_
      refine .seq ?_
      refine .region ?_
      refine .val ?_
      refine .val ?_
      refine .lenL (f := pv94) ?_
      refine .val ?_
      refine .move ?_
      refine .caseG (fun hc71 => ?_) (fun hc71 => ?_)
      · replace h := (if_pos hc71).symm.trans h
        refine .val ?_
        refine .val ?_
        refine .lenL (f := pv94) ?_
        refine .val ?_
        refine .brT ?_
        refine .move ?_
        refine .caseG (fun hc72 => ?_) (fun hc72 => ?_)
        · replace h := (if_pos hc72).symm.trans h
          refine .val ?_
          refine .val ?_
          obtain ⟨y73, hy73, h⟩ := bindE h
          refine .cP (g91 hy73) ?_
          refine .brT ?_
          refine .assign ?_
          refine .nil ?_
          cases h
          exact .ret (fin_gen0 none)
        · replace h := (if_neg (nt hc72)).symm.trans h
          refine .skip ?_
          refine .skip ?_
          refine .skip ?_
          refine .brF ?_
          refine .assign ?_
          refine .nil ?_
          cases h
          exact .ret (fin_gen0 none)
      · replace h := (if_neg (nt hc71)).symm.trans h
        refine .skip ?_
        refine .skip ?_
        refine .skip ?_
        refine .skip ?_
        refine .brF ?_
        refine .move ?_
        refine .skip ?_
        refine .skip ?_
        refine .skip ?_
        refine .brF ?_
        refine .assign ?_
        refine .nil ?_
        cases h
        exact .ret (fin_gen0 none)

/- soundservice/descriptor.Decode -/
def f41_l1 (n : Nat) (j71 : (List Int) → Int → Bool → (List Box) → Option (Descriptor × Int)) : Nat → (List Int) → Int → Bool → (List Box) → Int → Option (Descriptor × Int)
  | 0, _, _, _, _, _ => none
  | m105 + 1, v84, v85, v86, v87, v89 =>
    joinK (fun (_ : Unit) =>
    if !v86 then (
    (f75 n (⟨v84, v85, v86⟩ : Reader)).bind fun y120 =>
    (f77 n (⟨y120.2.b, y120.2.at_, y120.2.bad⟩ : Reader)).bind fun y121 =>
    (f78 n (⟨y121.2.b, y121.2.at_, y121.2.bad⟩ : Reader)).bind fun y122 =>
    (f77 n (⟨y122.2.b, y122.2.at_, y122.2.bad⟩ : Reader)).bind fun y123 =>
    (lApp v87 ([(⟨y120.1, y121.1.Spans, y122.1, y123.1.Spans⟩ : Box)] : List Box)).bind fun x124 =>
    f41_l1 n j71 m105 y123.2.b y123.2.at_ y123.2.bad x124 (w64 (v89 - (1 : Int))))
    else (
    j71 v84 v85 v86 v87)) fun j111 =>
    joinK (fun (_ : Unit) =>
    j71 v84 v85 v86 v87) fun j112 =>
    if decide (v89 > (0 : Int)) then (
    j111 ())
    else (
    j112 ())
def f41 (n : Nat) (a0 : (List Int)) : Option (Descriptor × Int) :=
  if decide ((a0.length : Int) < (8 : Int)) then (
  some ((⟨0, (⟨#[]⟩ : ByteArray), 0, 0, 0, 0, 0, ([] : List Box)⟩ : Descriptor), 4))
  else (
  (f30 n a0 (w64 ((a0.length : Int) - (4 : Int)))).bind fun y7 =>
  (lPart a0 (0 : Int) (w64 ((a0.length : Int) - (4 : Int)))).bind fun x8 =>
  (f18 n x8).bind fun y9 =>
  if (y7.1 != y9) then (
  some ((⟨0, (⟨#[]⟩ : ByteArray), 0, 0, 0, 0, 0, ([] : List Box)⟩ : Descriptor), 6))
  else (
  (lPart a0 (0 : Int) (4 : Int)).bind fun x13 =>
  if !(sEq (mkStr x13) (⟨#[83, 78, 68, 49]⟩ : ByteArray)) then (
  some ((⟨0, (⟨#[]⟩ : ByteArray), 0, 0, 0, 0, 0, ([] : List Box)⟩ : Descriptor), 5))
  else (
  (lPart a0 (0 : Int) (w64 ((a0.length : Int) - (4 : Int)))).bind fun x15 =>
  (f35 n x15 (4 : Int)).bind fun y16 =>
  (f73 n (⟨x15, 4, false⟩ : Reader) y16.2.1 y16.2.2).bind fun y17 =>
  (f74 n (⟨y17.b, y17.at_, y17.bad⟩ : Reader)).bind fun y18 =>
  (f75 n (⟨y18.2.b, y18.2.at_, y18.2.bad⟩ : Reader)).bind fun y19 =>
  (f75 n (⟨y19.2.b, y19.2.at_, y19.2.bad⟩ : Reader)).bind fun y20 =>
  (f76 n (⟨y20.2.b, y20.2.at_, y20.2.bad⟩ : Reader)).bind fun y21 =>
  (f75 n (⟨y21.2.b, y21.2.at_, y21.2.bad⟩ : Reader)).bind fun y22 =>
  (f75 n (⟨y22.2.b, y22.2.at_, y22.2.bad⟩ : Reader)).bind fun y23 =>
  joinK (fun (v66 : (List Int)) (v67 : Int) (v68 : Bool) (v69 : (List Box)) =>
  joinK (fun (_ : Unit) =>
  some ((⟨0, (⟨#[]⟩ : ByteArray), 0, 0, 0, 0, 0, ([] : List Box)⟩ : Descriptor), 5)) fun j130 =>
  joinK (fun (_ : Unit) =>
  if (v67 != (w64 ((a0.length : Int) - (4 : Int)))) then (
  some ((⟨0, (⟨#[]⟩ : ByteArray), 0, 0, 0, 0, 0, ([] : List Box)⟩ : Descriptor), 5))
  else (
  (f56 n (⟨y16.1, y18.1, y19.1, y20.1, y21.1, y22.1, y23.1, v69⟩ : Descriptor)).bind fun y136 =>
  if !y136 then (
  some ((⟨0, (⟨#[]⟩ : ByteArray), 0, 0, 0, 0, 0, ([] : List Box)⟩ : Descriptor), 1))
  else (
  some ((⟨y16.1, y18.1, y19.1, y20.1, y21.1, y22.1, y23.1, v69⟩ : Descriptor), 0)))) fun j131 =>
  if v68 then (
  j130 ())
  else (
  j131 ())) fun j71 =>
  (f75 n (⟨y23.2.b, y23.2.at_, y23.2.bad⟩ : Reader)).bind fun y72 =>
  f41_l1 n j71 n y72.2.b y72.2.at_ y72.2.bad ([] : List Box) y72.1)))
set_option maxHeartbeats 4000000 in
set_option maxRecDepth 100000 in
theorem g41 {n : Nat} {a0 : (List Int)} {r : (Descriptor × Int)} (h : f41 n a0 = some r) :
    Ab.Can Try.prog 41 [.sl 5 .ro (a0.map (PV.int .u8))] H0 (.tup [.agg [.int .u64 r.1.ID, .str r.1.Name, .int .i64 r.1.Direction, .int .i64 r.1.Domain, .int .i64 r.1.Latency, .int .i64 r.1.Drift, .int .i64 r.1.Jitter, .sl 94 .ro (r.1.Boxes.map pv94)], .int .i64 r.2]) H0 := by
  refine can_of tabOK mix Try.call41 Try.func41 rfl (by kernel_rfl) (by show _ ≤ 132; simp) fun _ => ?_
  rw [f41] at h
  refine .seq ?_
  refine .region ?_
  refine .allocL (cs := [.int .u64 0, .str (⟨#[]⟩ : ByteArray), .int .i64 0, .int .i64 0, .int .i64 0, .int .i64 0, .int .i64 0, .sl 94 .full []]) ?_
  refine .assign ?_
  refine .nil ?_
  refine .seq ?_
  refine .region ?_
  refine .move ?_
  refine .lenL (f := (PV.int .u8)) ?_
  refine .val ?_
  refine .assign ?_
  refine .nil ?_
  refine .seq ?_
  refine .seq ?_
  refine .region ?_
  refine .move ?_
  refine .lenL (f := (PV.int .u8)) ?_
  refine .val ?_
  refine .nil ?_
  refine .cond (fun hc2 => ?_) (fun hc2 => ?_)
  · replace h := (if_pos hc2).symm.trans h
    refine .seq ?_
    refine .region ?_
    refine .buildL (cs := [.int .u64 0, .str (⟨#[]⟩ : ByteArray), .int .i64 0, .int .i64 0, .int .i64 0, .int .i64 0, .int .i64 0, .sl 94 .full []]) ?_
    refine .wrL (cs := [.int .u64 0, .str (⟨#[]⟩ : ByteArray), .int .i64 0, .int .i64 0, .int .i64 0, .int .i64 0, .int .i64 0, .sl 94 .full []]) ?_
    refine .assign ?_
    refine .nil ?_
    cases h
    refine .imp (Imp.cell (.loc 0 0) (ds := [.int .u64 0, .str (⟨#[]⟩ : ByteArray), .int .i64 0, .int .i64 0, .int .i64 0, .int .i64 0, .int .i64 0, .sl 94 .ro (([] : List Box).map pv94)]) (.cons (.refl _) rfl (.cons (.refl _) rfl (.cons (.refl _) rfl (.cons (.refl _) rfl (.cons (.refl _) rfl (.cons (.refl _) rfl (.cons (.refl _) rfl (.cons (.ro _ _) rfl (.nil))))))))) rfl) ?_
    exact .ret (fin_gen0 none)
  · replace h := (if_neg (nt hc2)).symm.trans h
    refine .skip ?_
    refine .seq ?_
    refine .seq ?_
    refine .region ?_
    refine .move ?_
    refine .move ?_
    obtain ⟨y7, hy7, h⟩ := bindE h
    refine .cP (g30 hy7) ?_
    refine .move ?_
    refine .val ?_
    refine .val ?_
    refine .val ?_
    refine .assign ?_
    refine .assign ?_
    refine .assign ?_
    refine .nil ?_
    refine .seq ?_
    refine .region ?_
    refine .move ?_
    refine .move ?_
    refine .move ?_
    obtain ⟨x8, hx8, h⟩ := bindE h
    refine .partL (f := (PV.int .u8)) hx8 ?_
    obtain ⟨y9, hy9, h⟩ := bindE h
    refine .cP (g18 hy9) ?_
    refine .val ?_
    refine .nil ?_
    refine .cond (fun hc10 => ?_) (fun hc10 => ?_)
    · replace h := (if_pos hc10).symm.trans h
      refine .seq ?_
      refine .region ?_
      refine .buildL (cs := [.int .u64 0, .str (⟨#[]⟩ : ByteArray), .int .i64 0, .int .i64 0, .int .i64 0, .int .i64 0, .int .i64 0, .sl 94 .full []]) ?_
      refine .wrL (cs := [.int .u64 0, .str (⟨#[]⟩ : ByteArray), .int .i64 0, .int .i64 0, .int .i64 0, .int .i64 0, .int .i64 0, .sl 94 .full []]) ?_
      refine .assign ?_
      refine .nil ?_
      cases h
      refine .imp (Imp.cell (.loc 0 0) (ds := [.int .u64 0, .str (⟨#[]⟩ : ByteArray), .int .i64 0, .int .i64 0, .int .i64 0, .int .i64 0, .int .i64 0, .sl 94 .ro (([] : List Box).map pv94)]) (.cons (.refl _) rfl (.cons (.refl _) rfl (.cons (.refl _) rfl (.cons (.refl _) rfl (.cons (.refl _) rfl (.cons (.refl _) rfl (.cons (.refl _) rfl (.cons (.ro _ _) rfl (.nil))))))))) rfl) ?_
      exact .ret (fin_gen0 none)
    · replace h := (if_neg (nt hc10)).symm.trans h
      refine .skip ?_
      refine .seq ?_
      refine .seq ?_
      refine .region ?_
      refine .move ?_
      obtain ⟨x13, hx13, h⟩ := bindE h
      refine .partL (f := (PV.int .u8)) hx13 ?_
      refine .toStr ?_
      refine .val ?_
      refine .nil ?_
      refine .cond (fun hc14 => ?_) (fun hc14 => ?_)
      · replace h := (if_pos hc14).symm.trans h
        refine .seq ?_
        refine .region ?_
        refine .buildL (cs := [.int .u64 0, .str (⟨#[]⟩ : ByteArray), .int .i64 0, .int .i64 0, .int .i64 0, .int .i64 0, .int .i64 0, .sl 94 .full []]) ?_
        refine .wrL (cs := [.int .u64 0, .str (⟨#[]⟩ : ByteArray), .int .i64 0, .int .i64 0, .int .i64 0, .int .i64 0, .int .i64 0, .sl 94 .full []]) ?_
        refine .assign ?_
        refine .nil ?_
        cases h
        refine .imp (Imp.cell (.loc 0 0) (ds := [.int .u64 0, .str (⟨#[]⟩ : ByteArray), .int .i64 0, .int .i64 0, .int .i64 0, .int .i64 0, .int .i64 0, .sl 94 .ro (([] : List Box).map pv94)]) (.cons (.refl _) rfl (.cons (.refl _) rfl (.cons (.refl _) rfl (.cons (.refl _) rfl (.cons (.refl _) rfl (.cons (.refl _) rfl (.cons (.refl _) rfl (.cons (.ro _ _) rfl (.nil))))))))) rfl) ?_
        exact .ret (fin_gen0 none)
      · replace h := (if_neg (nt hc14)).symm.trans h
        refine .skip ?_
        refine .seq ?_
        refine .region ?_
        refine .move ?_
        refine .move ?_
        obtain ⟨x15, hx15, h⟩ := bindE h
        refine .partL (f := (PV.int .u8)) hx15 ?_
        refine .buildL (cs := [.sl 5 .ro (x15.map (PV.int .u8)), .int .i64 4, .bool false]) ?_
        refine .boxL (cs := [.sl 5 .ro (x15.map (PV.int .u8)), .int .i64 4, .bool false]) ?_
        refine .assign ?_
        refine .nil ?_
        refine .imp (T := St.of [(2, .ptr (.loc 0 0) 0), (4, .int .i64 (w64 ((a0.length : Int) - (4 : Int)))), (8, .ptr (.loc 9 4) 0)] [((.loc 0 0), [.int .u64 0, .str (⟨#[]⟩ : ByteArray), .int .i64 0, .int .i64 0, .int .i64 0, .int .i64 0, .int .i64 0, .sl 94 .full []]), ((.loc 9 4), [.sl 5 .ro (x15.map (PV.int .u8)), .int .i64 4, .bool false])]) (imp_of (.cons rfl (.cons rfl (.cons rfl (.nil)))) (.cons rfl (.cons rfl (.nil)))) ?_
        refine .seq ?_
        refine .region ?_
        refine .allocL (cs := [.int .u64 0, .str (⟨#[]⟩ : ByteArray), .int .i64 0, .int .i64 0, .int .i64 0, .int .i64 0, .int .i64 0, .sl 94 .full []]) ?_
        refine .nil ?_
        refine .seq ?_
        obtain ⟨y16, hy16, h⟩ := bindE h
        refine .draw [] [[], [], [], [], [], [], [], [], [], [], [], [], [], [], [], []] [[], [], [], [], [], [], [], [], [], [], [], [], [], [], [], []] [[]]
          [(0, 0), (1, 0), (2, 0), (3, 0), (4, 0), (5, 0), (6, 0), (7, 0), (8, 0), (9, 0), (10, 0), (11, 0), (12, 0), (13, 0), (14, 0), (15, 0)] [] 0
          [⟨[(47, .ptr (.loc 9 4) 0), (48, .ptr (.loc 9 4) 0), (49, .ptr (.loc 9 4) 0), (50, .sl 5 .ro (x15.map (PV.int .u8))), (51, .ptr (.loc 9 4) 0), (52, .ptr (.loc 9 4) 0), (53, .ptr (.loc 9 4) 1), (54, .int .i64 4), (55, .tup [.int .u64 y16.1, .int .i64 y16.2.1, .int .i64 y16.2.2]), (46, .tup [.int .u64 y16.1, .int .i64 y16.2.1, .int .i64 y16.2.2]), (56, .int .u64 y16.1), (57, .int .i64 y16.2.1), (58, .int .i64 y16.2.2), (10, .int .u64 y16.1), (11, .int .i64 y16.2.1), (12, .int .i64 y16.2.2), (2, .ptr (.loc 0 0) 0), (4, .int .i64 (w64 ((a0.length : Int) - (4 : Int)))), (8, .ptr (.loc 9 4) 0), (9, .ptr (.loc 10 0) 0)], [], [((.loc 0 0), [.int .u64 0, .str (⟨#[]⟩ : ByteArray), .int .i64 0, .int .i64 0, .int .i64 0, .int .i64 0, .int .i64 0, .sl 94 .full []]), ((.loc 9 4), [.sl 5 .ro (x15.map (PV.int .u8)), .int .i64 4, .bool false]), ((.loc 10 0), [.int .u64 0, .str (⟨#[]⟩ : ByteArray), .int .i64 0, .int .i64 0, .int .i64 0, .int .i64 0, .int .i64 0, .sl 94 .full []])]⟩]
          [(2, .ptr (.loc 0 0) 0), (4, .int .i64 (w64 ((a0.length : Int) - (4 : Int)))), (8, .ptr (.loc 9 4) 0), (9, .ptr (.loc 10 0) 0)]
          (.cons [8] [] (fun _ _ h => .move (h _)) rfl rfl <|
          .cons [47] [] (fun _ _ h => .val (h _)) rfl rfl <|
          .cons [48] [] (fun _ _ h => .val (h _)) rfl rfl <|
          .cons [49] [] (fun _ _ h => .val (h _)) rfl rfl <|
          .cons [8] [] (fun _ _ h => .move (h _)) rfl rfl <|
          .cons [51] [] (fun _ _ h => .val (h _)) rfl rfl <|
          .cons [52] [] (fun _ _ h => .val (h _)) rfl rfl <|
          .cons [53] [] (fun _ _ h => .val (h _)) rfl rfl <|
          .cons [50, 54] [] (fun _ _ h => .cP (g35 hy16) (h _)) rfl rfl <|
          .cons [55] [] (fun _ _ h => .move (h _)) rfl rfl <|
          .cons [46] [] (fun _ _ h => .val (h _)) rfl rfl <|
          .cons [46] [] (fun _ _ h => .val (h _)) rfl rfl <|
          .cons [46] [] (fun _ _ h => .val (h _)) rfl rfl <|
          .cons [56] [] (fun _ _ h => .assign (h _)) rfl rfl <|
          .cons [57] [] (fun _ _ h => .assign (h _)) rfl rfl <|
          .cons [58] [] (fun _ _ h => .assign (h _)) rfl rfl <|
          .nil)
          (.nil)
          (by kernel_rfl) rfl (.cons rfl (.cons rfl (.cons rfl (.cons rfl (.nil))))) (.nil) (.cons rfl (.cons rfl (.cons rfl (.nil)))) ?_
        refine .imp (T := St.of [(2, .ptr (.loc 0 0) 0), (4, .int .i64 (w64 ((a0.length : Int) - (4 : Int)))), (8, .ptr (.loc 9 4) 0), (9, .ptr (.loc 10 0) 0), (10, .int .u64 y16.1), (11, .int .i64 y16.2.1), (12, .int .i64 y16.2.2)] [((.loc 0 0), [.int .u64 0, .str (⟨#[]⟩ : ByteArray), .int .i64 0, .int .i64 0, .int .i64 0, .int .i64 0, .int .i64 0, .sl 94 .full []]), ((.loc 9 4), [.sl 5 .ro (x15.map (PV.int .u8)), .int .i64 4, .bool false]), ((.loc 10 0), [.int .u64 0, .str (⟨#[]⟩ : ByteArray), .int .i64 0, .int .i64 0, .int .i64 0, .int .i64 0, .int .i64 0, .sl 94 .full []])]) (imp_of (.cons rfl (.cons rfl (.cons rfl (.cons rfl (.cons rfl (.cons rfl (.cons rfl (.nil)))))))) (.cons rfl (.cons rfl (.cons rfl (.nil))))) ?_
        refine .seq ?_
        refine .region ?_
        refine .move ?_
        refine .move ?_
        refine .move ?_
        obtain ⟨y17, hy17, h⟩ := bindE h
        refine .cH (.loc 9 4) (g73 hy17) ?_
        refine .nil ?_
        refine .seq ?_
        refine .region ?_
        refine .move ?_
        refine .val ?_
        refine .wrL (cs := [.int .u64 y16.1, .str (⟨#[]⟩ : ByteArray), .int .i64 0, .int .i64 0, .int .i64 0, .int .i64 0, .int .i64 0, .sl 94 .full []]) ?_
        refine .nil ?_
        refine .seq ?_
        refine .region ?_
        refine .move ?_
        obtain ⟨y18, hy18, h⟩ := bindE h
        refine .cH (.loc 9 4) (g74 hy18) ?_
        refine .val ?_
        refine .wrL (cs := [.int .u64 y16.1, .str y18.1, .int .i64 0, .int .i64 0, .int .i64 0, .int .i64 0, .int .i64 0, .sl 94 .full []]) ?_
        refine .nil ?_
        refine .seq ?_
        refine .region ?_
        refine .move ?_
        obtain ⟨y19, hy19, h⟩ := bindE h
        refine .cH (.loc 9 4) (g75 hy19) ?_
        refine .val ?_
        refine .wrL (cs := [.int .u64 y16.1, .str y18.1, .int .i64 y19.1, .int .i64 0, .int .i64 0, .int .i64 0, .int .i64 0, .sl 94 .full []]) ?_
        refine .nil ?_
        refine .seq ?_
        refine .region ?_
        refine .move ?_
        obtain ⟨y20, hy20, h⟩ := bindE h
        refine .cH (.loc 9 4) (g75 hy20) ?_
        refine .val ?_
        refine .wrL (cs := [.int .u64 y16.1, .str y18.1, .int .i64 y19.1, .int .i64 y20.1, .int .i64 0, .int .i64 0, .int .i64 0, .sl 94 .full []]) ?_
        refine .nil ?_
        refine .seq ?_
        refine .region ?_
        refine .move ?_
        obtain ⟨y21, hy21, h⟩ := bindE h
        refine .cH (.loc 9 4) (g76 hy21) ?_
        refine .val ?_
        refine .wrL (cs := [.int .u64 y16.1, .str y18.1, .int .i64 y19.1, .int .i64 y20.1, .int .i64 y21.1, .int .i64 0, .int .i64 0, .sl 94 .full []]) ?_
        refine .nil ?_
        refine .seq ?_
        refine .region ?_
        refine .move ?_
        obtain ⟨y22, hy22, h⟩ := bindE h
        refine .cH (.loc 9 4) (g75 hy22) ?_
        refine .val ?_
        refine .wrL (cs := [.int .u64 y16.1, .str y18.1, .int .i64 y19.1, .int .i64 y20.1, .int .i64 y21.1, .int .i64 y22.1, .int .i64 0, .sl 94 .full []]) ?_
        refine .nil ?_
        refine .seq ?_
        refine .region ?_
        refine .move ?_
        obtain ⟨y23, hy23, h⟩ := bindE h
        refine .cH (.loc 9 4) (g75 hy23) ?_
        refine .val ?_
        refine .wrL (cs := [.int .u64 y16.1, .str y18.1, .int .i64 y19.1, .int .i64 y20.1, .int .i64 y21.1, .int .i64 y22.1, .int .i64 y23.1, .sl 94 .full []]) ?_
        refine .nil ?_
        obtain ⟨j71, hj71, h⟩ := joinE h
        refine .cutI (fun T => (∃ (v66 : (List Int)) (v67 : Int) (v68 : Bool) (v69 : (List Box)), T = St.of [(2, .ptr (.loc 0 0) 0), (4, .int .i64 (w64 ((a0.length : Int) - (4 : Int)))), (8, .ptr (.loc 9 4) 0), (9, .ptr (.loc 10 0) 0)] [((.loc 0 0), [.int .u64 0, .str (⟨#[]⟩ : ByteArray), .int .i64 0, .int .i64 0, .int .i64 0, .int .i64 0, .int .i64 0, .sl 94 .full []]), ((.loc 9 4), [.sl 5 .ro (v66.map (PV.int .u8)), .int .i64 v67, .bool v68]), ((.loc 10 0), [.int .u64 y16.1, .str y18.1, .int .i64 y19.1, .int .i64 y20.1, .int .i64 y21.1, .int .i64 y22.1, .int .i64 y23.1, .sl 94 (.own (.row 9070 0)) (v69.map pv94)])] ∧ j71 v66 v67 v68 v69 = some r)) ?_ ?_
        · refine .seq ?_
          refine .region ?_
          refine .move ?_
          obtain ⟨y72, hy72, h⟩ := bindE h
          refine .cH (.loc 9 4) (g75 hy72) ?_
          refine .assign ?_
          refine .nil ?_
          refine .block ?_
          refine .loopI (fun m T => ∃ (v84 : (List Int)) (v85 : Int) (v86 : Bool) (v87 : (List Box)) (v89 : Int), T = St.of [(2, .ptr (.loc 0 0) 0), (4, .int .i64 (w64 ((a0.length : Int) - (4 : Int)))), (8, .ptr (.loc 9 4) 0), (9, .ptr (.loc 10 0) 0), (13, .int .i64 v89)] [((.loc 0 0), [.int .u64 0, .str (⟨#[]⟩ : ByteArray), .int .i64 0, .int .i64 0, .int .i64 0, .int .i64 0, .int .i64 0, .sl 94 .full []]), ((.loc 9 4), [.sl 5 .ro (v84.map (PV.int .u8)), .int .i64 v85, .bool v86]), ((.loc 10 0), [.int .u64 y16.1, .str y18.1, .int .i64 y19.1, .int .i64 y20.1, .int .i64 y21.1, .int .i64 y22.1, .int .i64 y23.1, .sl 94 (.own (.row 9088 0)) (v87.map pv94)])] ∧ f41_l1 n j71 m v84 v85 v86 v87 v89 = some r) _ _ ⟨_, _, _, _, _, rfl, h⟩ (imp_of (.cons rfl (.cons rfl (.cons rfl (.cons rfl (.cons rfl (.nil)))))) (.cons rfl (.cons rfl (.wk (.cons (.refl _) rfl (.cons (.refl _) rfl (.cons (.refl _) rfl (.cons (.refl _) rfl (.cons (.refl _) rfl (.cons (.refl _) rfl (.cons (.refl _) rfl (.cons (.own _ _) rfl (.nil))))))))) rfl (.nil))))) ?_
          rintro m105 T ⟨v84, v85, v86, v87, v89, rfl, h⟩
          obtain _ | m105 := m105
          · rw [f41_l1] at h; cases h
          rw [f41_l1] at h
          refine .seq ?_
          obtain ⟨j111, hj111, h⟩ := joinE h
          obtain ⟨j112, hj112, h⟩ := joinE h
          refine .cutI (fun T => (T = St.of [(2, .ptr (.loc 0 0) 0), (4, .int .i64 (w64 ((a0.length : Int) - (4 : Int)))), (8, .ptr (.loc 9 4) 0), (9, .ptr (.loc 10 0) 0), (13, .int .i64 v89), (93, .bool (!v86))] [((.loc 0 0), [.int .u64 0, .str (⟨#[]⟩ : ByteArray), .int .i64 0, .int .i64 0, .int .i64 0, .int .i64 0, .int .i64 0, .sl 94 .full []]), ((.loc 9 4), [.sl 5 .ro (v84.map (PV.int .u8)), .int .i64 v85, .bool v86]), ((.loc 10 0), [.int .u64 y16.1, .str y18.1, .int .i64 y19.1, .int .i64 y20.1, .int .i64 y21.1, .int .i64 y22.1, .int .i64 y23.1, .sl 94 (.own (.row 9088 0)) (v87.map pv94)])] ∧ j111 () = some r) ∨ (T = St.of [(2, .ptr (.loc 0 0) 0), (4, .int .i64 (w64 ((a0.length : Int) - (4 : Int)))), (8, .ptr (.loc 9 4) 0), (9, .ptr (.loc 10 0) 0), (13, .int .i64 v89), (93, .bool false)] [((.loc 0 0), [.int .u64 0, .str (⟨#[]⟩ : ByteArray), .int .i64 0, .int .i64 0, .int .i64 0, .int .i64 0, .int .i64 0, .sl 94 .full []]), ((.loc 9 4), [.sl 5 .ro (v84.map (PV.int .u8)), .int .i64 v85, .bool v86]), ((.loc 10 0), [.int .u64 y16.1, .str y18.1, .int .i64 y19.1, .int .i64 y20.1, .int .i64 y21.1, .int .i64 y22.1, .int .i64 y23.1, .sl 94 (.own (.row 9088 0)) (v87.map pv94)])] ∧ j112 () = some r)) ?_ ?_
          · refine .region ?_
            refine .move ?_
            refine .val ?_
            refine .move ?_
            refine .caseG (fun hc113 => ?_) (fun hc113 => ?_)
            · replace h := (if_pos hc113).symm.trans h
              refine .move ?_
              refine .val ?_
              refine .val ?_
              refine .val ?_
              refine .val ?_
              refine .brT ?_
              refine .nil ?_
              exact ⟨_, (.inl ⟨rfl, h⟩), (imp_of (.cons rfl (.cons rfl (.cons rfl (.cons rfl (.cons rfl (.cons rfl (.nil))))))) (.cons rfl (.cons rfl (.cons rfl (.nil)))))⟩
            · replace h := (if_neg (nt hc113)).symm.trans h
              refine .skip ?_
              refine .skip ?_
              refine .skip ?_
              refine .skip ?_
              refine .skip ?_
              refine .brF ?_
              refine .nil ?_
              exact ⟨_, (.inr (⟨rfl, h⟩)), (imp_of (.cons rfl (.cons rfl (.cons rfl (.cons rfl (.cons rfl (.cons rfl (.nil))))))) (.cons rfl (.cons rfl (.cons rfl (.nil)))))⟩
          · rintro T (⟨rfl, h⟩ | ⟨rfl, h⟩)
            · subst hj111
              refine .cond (fun hc114 => ?_) (fun hc114 => ?_)
              · replace h := (if_pos hc114).symm.trans h
                refine .skip ?_
                refine .seq ?_
                refine .block ?_
                refine .seq ?_
                refine .region ?_
                refine .allocL (cs := [.int .i64 0, .sl 124 .full [], .sl 59 .full [], .sl 124 .full []]) ?_
                refine .nil ?_
                refine .seq ?_
                refine .region ?_
                refine .move ?_
                obtain ⟨y120, hy120, h⟩ := bindE h
                refine .cH (.loc 9 4) (g75 hy120) ?_
                refine .val ?_
                refine .wrL (cs := [.int .i64 y120.1, .sl 124 .full [], .sl 59 .full [], .sl 124 .full []]) ?_
                refine .nil ?_
                refine .seq ?_
                refine .region ?_
                refine .move ?_
                obtain ⟨y121, hy121, h⟩ := bindE h
                refine .cH (.loc 9 4) (g77 hy121) ?_
                refine .val ?_
                refine .wrL (cs := [.int .i64 y120.1, .sl 124 .ro (y121.1.Spans.map pv124), .sl 59 .full [], .sl 124 .full []]) ?_
                refine .nil ?_
                refine .seq ?_
                refine .region ?_
                refine .move ?_
                obtain ⟨y122, hy122, h⟩ := bindE h
                refine .cH (.loc 9 4) (g78r hy122) ?_
                refine .val ?_
                refine .wrL (cs := [.int .i64 y120.1, .sl 124 .ro (y121.1.Spans.map pv124), .sl 59 .ro (y122.1.map pv59), .sl 124 .full []]) ?_
                refine .nil ?_
                refine .seq ?_
                refine .region ?_
                refine .move ?_
                obtain ⟨y123, hy123, h⟩ := bindE h
                refine .cH (.loc 9 4) (g77 hy123) ?_
                refine .val ?_
                refine .wrL (cs := [.int .i64 y120.1, .sl 124 .ro (y121.1.Spans.map pv124), .sl 59 .ro (y122.1.map pv59), .sl 124 .ro (y123.1.Spans.map pv124)]) ?_
                refine .nil ?_
                refine .region ?_
                refine .val ?_
                refine .val ?_
                refine .val (v := .agg [.int .i64 y120.1, .sl 124 .ro (y121.1.Spans.map pv124), .sl 59 .ro (y122.1.map pv59), .sl 124 .ro (y123.1.Spans.map pv124)]) ?_
                refine .litR (f := pv94) ([(⟨y120.1, y121.1.Spans, y122.1, y123.1.Spans⟩ : Box)] : List Box) ?_
                obtain ⟨x124, hx124, h⟩ := bindE h
                refine .appL (f := pv94) hx124 ?_
                refine .val ?_
                refine .wrL (cs := [.int .u64 y16.1, .str y18.1, .int .i64 y19.1, .int .i64 y20.1, .int .i64 y21.1, .int .i64 y22.1, .int .i64 y23.1, .sl 94 (.own (.row 28 4)) (x124.map pv94)]) ?_
                refine .nil ?_
                refine .imp (T := St.of [(2, .ptr (.loc 0 0) 0), (4, .int .i64 (w64 ((a0.length : Int) - (4 : Int)))), (8, .ptr (.loc 9 4) 0), (9, .ptr (.loc 10 0) 0), (13, .int .i64 v89)] [((.loc 0 0), [.int .u64 0, .str (⟨#[]⟩ : ByteArray), .int .i64 0, .int .i64 0, .int .i64 0, .int .i64 0, .int .i64 0, .sl 94 .full []]), ((.loc 9 4), [.sl 5 .ro (y123.2.b.map (PV.int .u8)), .int .i64 y123.2.at_, .bool y123.2.bad]), ((.loc 10 0), [.int .u64 y16.1, .str y18.1, .int .i64 y19.1, .int .i64 y20.1, .int .i64 y21.1, .int .i64 y22.1, .int .i64 y23.1, .sl 94 (.own (.row 28 4)) (x124.map pv94)])]) (imp_of (.cons rfl (.cons rfl (.cons rfl (.cons rfl (.cons rfl (.nil)))))) (.cons rfl (.cons rfl (.cons rfl (.nil))))) ?_
                refine .region ?_
                refine .move ?_
                refine .val ?_
                refine .assign ?_
                refine .nil ?_
                exact ⟨m105, _, Nat.lt_succ_self m105, ⟨_, _, _, _, _, rfl, h⟩, (Imp.trans (Imp.swap (.row 28 4) (.row 9088 0) rfl rfl rfl) (imp_of (.cons rfl (.cons rfl (.cons rfl (.cons rfl (.cons rfl (.nil)))))) (.cons rfl (.cons rfl (.cons rfl (.nil))))))⟩
              · replace h := (if_neg (nt hc114)).symm.trans h
                refine .exit (.hit ?_)
                exact ⟨_, ⟨_, _, _, _, rfl, h⟩, (Imp.trans (Imp.swap (.row 9088 0) (.row 9070 0) rfl rfl rfl) (imp_of (.cons rfl (.cons rfl (.cons rfl (.cons rfl (.nil))))) (.cons rfl (.cons rfl (.cons rfl (.nil))))))⟩
            · subst hj112
              refine .condF ?_
              refine .exit (.hit ?_)
              exact ⟨_, ⟨_, _, _, _, rfl, h⟩, (Imp.trans (Imp.swap (.row 9088 0) (.row 9070 0) rfl rfl rfl) (imp_of (.cons rfl (.cons rfl (.cons rfl (.cons rfl (.nil))))) (.cons rfl (.cons rfl (.cons rfl (.nil))))))⟩
        · rintro T ⟨v66, v67, v68, v69, rfl, h⟩
          subst hj71
          refine .seq ?_
          obtain ⟨j130, hj130, h⟩ := joinE h
          obtain ⟨j131, hj131, h⟩ := joinE h
          refine .cutI (fun T => (T = St.of [(2, .ptr (.loc 0 0) 0), (9, .ptr (.loc 10 0) 0), (125, .bool true)] [((.loc 0 0), [.int .u64 0, .str (⟨#[]⟩ : ByteArray), .int .i64 0, .int .i64 0, .int .i64 0, .int .i64 0, .int .i64 0, .sl 94 .full []]), ((.loc 10 0), [.int .u64 y16.1, .str y18.1, .int .i64 y19.1, .int .i64 y20.1, .int .i64 y21.1, .int .i64 y22.1, .int .i64 y23.1, .sl 94 (.own (.row 9070 0)) (v69.map pv94)])] ∧ j130 () = some r) ∨ (T = St.of [(2, .ptr (.loc 0 0) 0), (9, .ptr (.loc 10 0) 0), (125, .bool (v67 != (w64 ((a0.length : Int) - (4 : Int)))))] [((.loc 0 0), [.int .u64 0, .str (⟨#[]⟩ : ByteArray), .int .i64 0, .int .i64 0, .int .i64 0, .int .i64 0, .int .i64 0, .sl 94 .full []]), ((.loc 10 0), [.int .u64 y16.1, .str y18.1, .int .i64 y19.1, .int .i64 y20.1, .int .i64 y21.1, .int .i64 y22.1, .int .i64 y23.1, .sl 94 (.own (.row 9070 0)) (v69.map pv94)])] ∧ j131 () = some r)) ?_ ?_
          · refine .region ?_
            refine .move ?_
            refine .val ?_
            refine .val ?_
            refine .val ?_
            refine .move ?_
            refine .caseG (fun hc132 => ?_) (fun hc132 => ?_)
            · replace h := (if_pos hc132).symm.trans h
              refine .skip ?_
              refine .skip ?_
              refine .skip ?_
              refine .skip ?_
              refine .skip ?_
              refine .skip ?_
              refine .brT ?_
              refine .nil ?_
              exact ⟨_, (.inl ⟨rfl, h⟩), (imp_of (.cons rfl (.cons rfl (.cons rfl (.nil)))) (.cons rfl (.cons rfl (.nil))))⟩
            · replace h := (if_neg (nt hc132)).symm.trans h
              refine .move ?_
              refine .val ?_
              refine .val ?_
              refine .val ?_
              refine .move ?_
              refine .val ?_
              refine .brF ?_
              refine .nil ?_
              exact ⟨_, (.inr (⟨rfl, h⟩)), (imp_of (.cons rfl (.cons rfl (.cons rfl (.nil)))) (.cons rfl (.cons rfl (.nil))))⟩
          · rintro T (⟨rfl, h⟩ | ⟨rfl, h⟩)
            · subst hj130
              refine .condT ?_
              refine .seq ?_
              refine .region ?_
              refine .buildL (cs := [.int .u64 0, .str (⟨#[]⟩ : ByteArray), .int .i64 0, .int .i64 0, .int .i64 0, .int .i64 0, .int .i64 0, .sl 94 .full []]) ?_
              refine .wrL (cs := [.int .u64 0, .str (⟨#[]⟩ : ByteArray), .int .i64 0, .int .i64 0, .int .i64 0, .int .i64 0, .int .i64 0, .sl 94 .full []]) ?_
              refine .assign ?_
              refine .nil ?_
              cases h
              refine .imp (Imp.cell (.loc 0 0) (ds := [.int .u64 0, .str (⟨#[]⟩ : ByteArray), .int .i64 0, .int .i64 0, .int .i64 0, .int .i64 0, .int .i64 0, .sl 94 .ro (([] : List Box).map pv94)]) (.cons (.refl _) rfl (.cons (.refl _) rfl (.cons (.refl _) rfl (.cons (.refl _) rfl (.cons (.refl _) rfl (.cons (.refl _) rfl (.cons (.refl _) rfl (.cons (.ro _ _) rfl (.nil))))))))) rfl) ?_
              exact .ret (fin_gen0 none)
            · subst hj131
              refine .cond (fun hc133 => ?_) (fun hc133 => ?_)
              · replace h := (if_pos hc133).symm.trans h
                refine .seq ?_
                refine .region ?_
                refine .buildL (cs := [.int .u64 0, .str (⟨#[]⟩ : ByteArray), .int .i64 0, .int .i64 0, .int .i64 0, .int .i64 0, .int .i64 0, .sl 94 .full []]) ?_
                refine .wrL (cs := [.int .u64 0, .str (⟨#[]⟩ : ByteArray), .int .i64 0, .int .i64 0, .int .i64 0, .int .i64 0, .int .i64 0, .sl 94 .full []]) ?_
                refine .assign ?_
                refine .nil ?_
                cases h
                refine .imp (Imp.cell (.loc 0 0) (ds := [.int .u64 0, .str (⟨#[]⟩ : ByteArray), .int .i64 0, .int .i64 0, .int .i64 0, .int .i64 0, .int .i64 0, .sl 94 .ro (([] : List Box).map pv94)]) (.cons (.refl _) rfl (.cons (.refl _) rfl (.cons (.refl _) rfl (.cons (.refl _) rfl (.cons (.refl _) rfl (.cons (.refl _) rfl (.cons (.refl _) rfl (.cons (.ro _ _) rfl (.nil))))))))) rfl) ?_
                exact .ret (fin_gen0 none)
              · replace h := (if_neg (nt hc133)).symm.trans h
                refine .skip ?_
                refine .seq ?_
                refine .seq ?_
                refine .region ?_
                refine .val (v := .agg [.int .u64 y16.1, .str y18.1, .int .i64 y19.1, .int .i64 y20.1, .int .i64 y21.1, .int .i64 y22.1, .int .i64 y23.1, .sl 94 (.own (.row 9070 0)) (v69.map pv94)]) ?_
                obtain ⟨y136, hy136, h⟩ := bindE h
                refine .freeze (.row 9070 0) ?_
                refine .cP (g56 hy136) ?_
                refine .val ?_
                refine .nil ?_
                refine .cond (fun hc137 => ?_) (fun hc137 => ?_)
                · replace h := (if_pos hc137).symm.trans h
                  refine .seq ?_
                  refine .region ?_
                  refine .buildL (cs := [.int .u64 0, .str (⟨#[]⟩ : ByteArray), .int .i64 0, .int .i64 0, .int .i64 0, .int .i64 0, .int .i64 0, .sl 94 .full []]) ?_
                  refine .wrL (cs := [.int .u64 0, .str (⟨#[]⟩ : ByteArray), .int .i64 0, .int .i64 0, .int .i64 0, .int .i64 0, .int .i64 0, .sl 94 .full []]) ?_
                  refine .assign ?_
                  refine .nil ?_
                  cases h
                  refine .imp (Imp.cell (.loc 0 0) (ds := [.int .u64 0, .str (⟨#[]⟩ : ByteArray), .int .i64 0, .int .i64 0, .int .i64 0, .int .i64 0, .int .i64 0, .sl 94 .ro (([] : List Box).map pv94)]) (.cons (.refl _) rfl (.cons (.refl _) rfl (.cons (.refl _) rfl (.cons (.refl _) rfl (.cons (.refl _) rfl (.cons (.refl _) rfl (.cons (.refl _) rfl (.cons (.ro _ _) rfl (.nil))))))))) rfl) ?_
                  exact .ret (fin_gen0 none)
                · replace h := (if_neg (nt hc137)).symm.trans h
                  refine .skip ?_
                  refine .seq ?_
                  refine .region ?_
                  refine .val (v := .agg [.int .u64 y16.1, .str y18.1, .int .i64 y19.1, .int .i64 y20.1, .int .i64 y21.1, .int .i64 y22.1, .int .i64 y23.1, .sl 94 .ro (v69.map pv94)]) ?_
                  refine .wrL (cs := [.int .u64 y16.1, .str y18.1, .int .i64 y19.1, .int .i64 y20.1, .int .i64 y21.1, .int .i64 y22.1, .int .i64 y23.1, .sl 94 .ro (v69.map pv94)]) ?_
                  refine .assign ?_
                  refine .nil ?_
                  cases h
                  exact .ret (fin_gen0 none)

/- soundservice/descriptor.Encode -/
def f39_l3 (n : Nat) (j556 : (List Int) → Option ((List Int) × Int)) (x557 : (List Int)) : Nat → (List Int) → Int → Option ((List Int) × Int)
  | 0, _, _ => none
  | m569 + 1, v562, v563 =>
    if decide (v563 < (x557.length : Int)) then (
    (lAt x557 v563).bind fun x574 =>
    (f70 n v562 x574).bind fun y575 =>
    f39_l3 n j556 x557 m569 y575 (w64 (v563 + (1 : Int))))
    else (
    j556 v562)
def f39_l2 (n : Nat) (x433 : Box) (j496 : (List Int) → Option ((List Int) × Int)) : Nat → (List Int) → Int → Option ((List Int) × Int)
  | 0, _, _ => none
  | m537 + 1, v515, v516 =>
    if decide (v516 < (x433.Maps.length : Int)) then (
    joinK (fun (v555 : (List Int)) =>
    f39_l2 n x433 j496 m537 v555 (w64 (v516 + (1 : Int)))) fun j556 =>
    (lAt x433.Maps v516).bind fun x557 =>
    (f70 n v515 (x557.length : Int)).bind fun y558 =>
    f39_l3 n j556 x557 n y558 0)
    else (
    j496 v515)
def f39_l1 (n : Nat) (a0 : Descriptor) (j222 : (List Int) → Option ((List Int) × Int)) : Nat → (List Int) → Int → Option ((List Int) × Int)
  | 0, _, _ => none
  | m363 + 1, v291, v292 =>
    if decide (v292 < (a0.Boxes.length : Int)) then (
    joinK (fun (v431 : (List Int)) =>
    f39_l1 n a0 j222 m363 v431 (w64 (v292 + (1 : Int)))) fun j432 =>
    (lAt a0.Boxes v292).bind fun x433 =>
    (f70 n v291 x433.Kinds).bind fun y434 =>
    (f71 n y434 (⟨x433.Rates⟩ : IntSet)).bind fun y435 =>
    (f70 n y435 (x433.Maps.length : Int)).bind fun y436 =>
    joinK (fun (v495 : (List Int)) =>
    (f71 n v495 (⟨x433.Sizes⟩ : IntSet)).bind fun y576 =>
    j432 y576) fun j496 =>
    f39_l2 n x433 j496 n y436 0)
    else (
    j222 v291)
def f39 (n : Nat) (a0 : Descriptor) : Option ((List Int) × Int) :=
  (f56 n (⟨a0.ID, a0.Name, a0.Direction, a0.Domain, a0.Latency, a0.Drift, a0.Jitter, a0.Boxes⟩ : Descriptor)).bind fun y3 =>
  if !y3 then (
  some (([] : List Int), 1))
  else (
  (f28 n ([83, 78, 68, 49] : List Int) a0.ID).bind fun y5 =>
  (f22 n y5 a0.Name).bind fun y6 =>
  (f70 n y6.1 a0.Direction).bind fun y7 =>
  (f70 n y7 a0.Domain).bind fun y8 =>
  (f26 n y8 (IntKind.wrap .u32 (a0.Latency))).bind fun y9 =>
  (f70 n y9 a0.Drift).bind fun y10 =>
  (f70 n y10 a0.Jitter).bind fun y11 =>
  (f70 n y11 (a0.Boxes.length : Int)).bind fun y12 =>
  joinK (fun (v221 : (List Int)) =>
  (f18 n v221).bind fun y577 =>
  (f26 n v221 y577).bind fun y578 =>
  some (y578, 0)) fun j222 =>
  f39_l1 n a0 j222 n y12 0)
set_option maxHeartbeats 4000000 in
set_option maxRecDepth 100000 in
theorem g39 {n : Nat} {a0 : Descriptor} {r : ((List Int) × Int)} (h : f39 n a0 = some r) :
    Ab.Can Try.prog 39 [.agg [.int .u64 a0.ID, .str a0.Name, .int .i64 a0.Direction, .int .i64 a0.Domain, .int .i64 a0.Latency, .int .i64 a0.Drift, .int .i64 a0.Jitter, .sl 94 .ro (a0.Boxes.map pv94)]] H0 (.tup [.sl 5 (.own (.rrow 0)) (r.1.map (PV.int .u8)), .int .i64 r.2]) H0 := by
  refine can_of tabOK mix Try.call39 Try.func39 rfl (by kernel_rfl) (by show _ ≤ 97; simp) fun _ => ?_
  rw [f39] at h
  refine .seq ?_
  refine .region ?_
  refine .boxL (cs := [.int .u64 a0.ID, .str a0.Name, .int .i64 a0.Direction, .int .i64 a0.Domain, .int .i64 a0.Latency, .int .i64 a0.Drift, .int .i64 a0.Jitter, .sl 94 .ro (a0.Boxes.map pv94)]) ?_
  refine .assign ?_
  refine .assign ?_
  refine .nil ?_
  refine .seq ?_
  refine .seq ?_
  refine .region ?_
  refine .val (v := .agg [.int .u64 a0.ID, .str a0.Name, .int .i64 a0.Direction, .int .i64 a0.Domain, .int .i64 a0.Latency, .int .i64 a0.Drift, .int .i64 a0.Jitter, .sl 94 .ro (a0.Boxes.map pv94)]) ?_
  obtain ⟨y3, hy3, h⟩ := bindE h
  refine .cP (g56 hy3) ?_
  refine .val ?_
  refine .nil ?_
  refine .cond (fun hc4 => ?_) (fun hc4 => ?_)
  · replace h := (if_pos hc4).symm.trans h
    refine .seq ?_
    refine .region ?_
    refine .assign ?_
    refine .assign ?_
    refine .nil ?_
    cases h
    refine .imp (Imp.slot 2 (v := .sl 5 (.own (.row 0 0)) (([] : List Int).map (PV.int .u8))) (.own _ (.row 0 0)) rfl) ?_
    exact .ret (fin_gen0 (some (.row 0 0)))
  · replace h := (if_neg (nt hc4)).symm.trans h
    refine .skip ?_
    refine .seq ?_
    obtain ⟨y5, hy5, h⟩ := bindE h
    obtain ⟨y6, hy6, h⟩ := bindE h
    refine .draw [0, 1] [[], [0], [], [], [0, 1], [], [], [0, 1], [0, 1], [0, 1], [0, 1], [0, 1], [0, 1]] [[1], [], [], [], [], [], [], [], [], [], [], [], []] [[], [0], [0, 1]]
      [(2, 0), (2, 1), (2, 2), (3, 0), (3, 1), (3, 2), (4, 2), (5, 0), (5, 1), (5, 2), (6, 0), (6, 1), (6, 2), (7, 2), (8, 2), (9, 2), (10, 2), (11, 2), (12, 2)] [(0, 0, 1), (1, 1, 2)] 2
      [⟨[(18, .ptr (.loc 0 0) 0), (19, .int .u64 a0.ID), (21, .ptr (.loc 0 0) 1), (22, .str a0.Name), (1, .ptr (.loc 0 0) 0)], [], [((.loc 0 0), [.int .u64 a0.ID, .str a0.Name, .int .i64 a0.Direction, .int .i64 a0.Domain, .int .i64 a0.Latency, .int .i64 a0.Drift, .int .i64 a0.Jitter, .sl 94 .ro (a0.Boxes.map pv94)])]⟩,
      ⟨[(16, .sl 5 (.own (.row 3 0)) (([83, 78, 68, 49] : List Int).map (PV.int .u8))), (18, .ptr (.loc 0 0) 0), (19, .int .u64 a0.ID), (21, .ptr (.loc 0 0) 1), (22, .str a0.Name), (1, .ptr (.loc 0 0) 0)], [], [((.loc 0 0), [.int .u64 a0.ID, .str a0.Name, .int .i64 a0.Direction, .int .i64 a0.Domain, .int .i64 a0.Latency, .int .i64 a0.Drift, .int .i64 a0.Jitter, .sl 94 .ro (a0.Boxes.map pv94)])]⟩,
      ⟨[(16, .dead), (17, .sl 5 .ro (([83, 78, 68, 49] : List Int).map (PV.int .u8))), (18, .ptr (.loc 0 0) 0), (19, .int .u64 a0.ID), (20, .sl 5 .ro (y5.map (PV.int .u8))), (21, .ptr (.loc 0 0) 1), (22, .str a0.Name), (23, .tup [.sl 5 .ro (y6.1.map (PV.int .u8)), .int .i64 y6.2]), (15, .tup [.sl 5 .ro (y6.1.map (PV.int .u8)), .int .i64 y6.2]), (24, .sl 5 .ro (y6.1.map (PV.int .u8))), (25, .int .i64 y6.2), (4, .sl 5 .ro (y6.1.map (PV.int .u8))), (5, .int .i64 y6.2), (1, .ptr (.loc 0 0) 0)], [], [((.loc 0 0), [.int .u64 a0.ID, .str a0.Name, .int .i64 a0.Direction, .int .i64 a0.Domain, .int .i64 a0.Latency, .int .i64 a0.Drift, .int .i64 a0.Jitter, .sl 94 .ro (a0.Boxes.map pv94)])]⟩]
      [(1, .ptr (.loc 0 0) 0)]
      (.cons [1] [] (fun _ _ h => .val (h _)) rfl rfl <|
      .cons [1] [] (fun _ _ h => .val (h _)) rfl rfl <|
      .cons [1] [] (fun _ _ h => .val (h _)) rfl rfl <|
      .cons [18] [] (fun _ _ h => .val (h _)) rfl rfl <|
      .cons [18] [] (fun _ _ h => .val (h _)) rfl rfl <|
      .cons [18] [] (fun _ _ h => .val (h _)) rfl rfl <|
      .cons [17, 19] [] (fun _ _ h => .cP (g28r hy5) (h _)) rfl rfl <|
      .cons [1] [] (fun _ _ h => .val (h _)) rfl rfl <|
      .cons [1] [] (fun _ _ h => .val (h _)) rfl rfl <|
      .cons [1] [] (fun _ _ h => .val (h _)) rfl rfl <|
      .cons [21] [] (fun _ _ h => .val (h _)) rfl rfl <|
      .cons [21] [] (fun _ _ h => .val (h _)) rfl rfl <|
      .cons [21] [] (fun _ _ h => .val (h _)) rfl rfl <|
      .cons [20, 22] [] (fun _ _ h => .cP (g22r hy6) (h _)) rfl rfl <|
      .cons [23] [] (fun _ _ h => .move (h _)) rfl rfl <|
      .cons [15] [] (fun _ _ h => .val (h _)) rfl rfl <|
      .cons [15] [] (fun _ _ h => .val (h _)) rfl rfl <|
      .cons [24] [] (fun _ _ h => .assign (h _)) rfl rfl <|
      .cons [25] [] (fun _ _ h => .assign (h _)) rfl rfl <|
      .nil)
      (.cons (PV.sub (oneSub (.row 3 0) .frz)) [] [] (fun _ _ h => .litL (f := (PV.int .u8)) ([83, 78, 68, 49] : List Int) (h _ _ (.cons rfl (.nil)))) rfl (.new rfl (.old rfl (.old rfl (.old rfl (.old rfl (.old rfl (.nil))))))) rfl rfl <|
      .cons (PV.sub (oneSub (.row 3 0) .kill)) [16] [] (fun _ _ h => .sameL (f := (PV.int .u8)) (xs := ([83, 78, 68, 49] : List Int)) (h _ _ (.cons rfl (.nil)))) rfl (.old rfl (.new rfl (.old rfl (.old rfl (.new rfl (.old rfl (.old rfl (.new rfl (.new rfl (.new rfl (.new rfl (.new rfl (.new rfl (.old rfl (.nil))))))))))))))) rfl rfl <|
      .nil)
      (by kernel_rfl) rfl (.cons rfl (.nil)) (.nil) (.cons rfl (.nil)) ?_
    refine .imp (T := St.of [(1, .ptr (.loc 0 0) 0), (4, .sl 5 .ro (y6.1.map (PV.int .u8)))] [((.loc 0 0), [.int .u64 a0.ID, .str a0.Name, .int .i64 a0.Direction, .int .i64 a0.Domain, .int .i64 a0.Latency, .int .i64 a0.Drift, .int .i64 a0.Jitter, .sl 94 .ro (a0.Boxes.map pv94)])]) (imp_of (.cons rfl (.cons rfl (.nil))) (.cons rfl (.nil))) ?_
    refine .seq ?_
    obtain ⟨y7, hy7, h⟩ := bindE h
    obtain ⟨y8, hy8, h⟩ := bindE h
    obtain ⟨y9, hy9, h⟩ := bindE h
    refine .draw [] [[], [], [], [], [], [], [], [], [], [], [], []] [[], [], [], [], [], [], [], [], [], [], [], []] [[]]
      [(0, 0), (1, 0), (2, 0), (3, 0), (4, 0), (5, 0), (6, 0), (7, 0), (8, 0), (9, 0), (10, 0), (11, 0)] [] 0
      [⟨[(26, .sl 5 .ro (y6.1.map (PV.int .u8))), (27, .ptr (.loc 0 0) 2), (28, .int .i64 a0.Direction), (29, .sl 5 .ro (y7.map (PV.int .u8))), (30, .ptr (.loc 0 0) 3), (31, .int .i64 a0.Domain), (32, .sl 5 .ro (y8.map (PV.int .u8))), (33, .ptr (.loc 0 0) 4), (34, .int .i64 a0.Latency), (35, .int .u32 (IntKind.wrap .u32 (a0.Latency))), (36, .sl 5 .ro (y9.map (PV.int .u8))), (4, .sl 5 .ro (y9.map (PV.int .u8))), (1, .ptr (.loc 0 0) 0)], [(4, .sl 5 .ro (y6.1.map (PV.int .u8)))], [((.loc 0 0), [.int .u64 a0.ID, .str a0.Name, .int .i64 a0.Direction, .int .i64 a0.Domain, .int .i64 a0.Latency, .int .i64 a0.Drift, .int .i64 a0.Jitter, .sl 94 .ro (a0.Boxes.map pv94)])]⟩]
      [(1, .ptr (.loc 0 0) 0)]
      (.cons [] [4] (fun _ _ h => .move (h _)) rfl rfl <|
      .cons [1] [] (fun _ _ h => .val (h _)) rfl rfl <|
      .cons [27] [] (fun _ _ h => .val (h _)) rfl rfl <|
      .cons [26, 28] [] (fun _ _ h => .cP (g70r hy7) (h _)) rfl rfl <|
      .cons [1] [] (fun _ _ h => .val (h _)) rfl rfl <|
      .cons [30] [] (fun _ _ h => .val (h _)) rfl rfl <|
      .cons [29, 31] [] (fun _ _ h => .cP (g70r hy8) (h _)) rfl rfl <|
      .cons [1] [] (fun _ _ h => .val (h _)) rfl rfl <|
      .cons [33] [] (fun _ _ h => .val (h _)) rfl rfl <|
      .cons [34] [] (fun _ _ h => .val (h _)) rfl rfl <|
      .cons [32, 35] [] (fun _ _ h => .cP (g26r hy9) (h _)) rfl rfl <|
      .cons [36] [] (fun _ _ h => .assign (h _)) rfl rfl <|
      .nil)
      (.nil)
      (by kernel_rfl) rfl (.cons rfl (.nil)) (.cons rfl (.nil)) (.cons rfl (.nil)) ?_
    refine .imp (T := St.of [(1, .ptr (.loc 0 0) 0), (4, .sl 5 .ro (y9.map (PV.int .u8)))] [((.loc 0 0), [.int .u64 a0.ID, .str a0.Name, .int .i64 a0.Direction, .int .i64 a0.Domain, .int .i64 a0.Latency, .int .i64 a0.Drift, .int .i64 a0.Jitter, .sl 94 .ro (a0.Boxes.map pv94)])]) (imp_of (.cons rfl (.cons rfl (.nil))) (.cons rfl (.nil))) ?_
    refine .seq ?_
    obtain ⟨y10, hy10, h⟩ := bindE h
    obtain ⟨y11, hy11, h⟩ := bindE h
    obtain ⟨y12, hy12, h⟩ := bindE h
    refine .draw [] [[], [], [], [], [], [], [], [], [], [], [], []] [[], [], [], [], [], [], [], [], [], [], [], []] [[]]
      [(0, 0), (1, 0), (2, 0), (3, 0), (4, 0), (5, 0), (6, 0), (7, 0), (8, 0), (9, 0), (10, 0), (11, 0)] [] 0
      [⟨[(37, .sl 5 .ro (y9.map (PV.int .u8))), (38, .ptr (.loc 0 0) 5), (39, .int .i64 a0.Drift), (40, .sl 5 .ro (y10.map (PV.int .u8))), (41, .ptr (.loc 0 0) 6), (42, .int .i64 a0.Jitter), (43, .sl 5 .ro (y11.map (PV.int .u8))), (44, .ptr (.loc 0 0) 7), (45, .sl 94 .ro (a0.Boxes.map pv94)), (46, .int .i64 (a0.Boxes.length : Int)), (47, .sl 5 .ro (y12.map (PV.int .u8))), (4, .sl 5 .ro (y12.map (PV.int .u8))), (1, .ptr (.loc 0 0) 0)], [(4, .sl 5 .ro (y9.map (PV.int .u8)))], [((.loc 0 0), [.int .u64 a0.ID, .str a0.Name, .int .i64 a0.Direction, .int .i64 a0.Domain, .int .i64 a0.Latency, .int .i64 a0.Drift, .int .i64 a0.Jitter, .sl 94 .ro (a0.Boxes.map pv94)])]⟩]
      [(1, .ptr (.loc 0 0) 0)]
      (.cons [] [4] (fun _ _ h => .move (h _)) rfl rfl <|
      .cons [1] [] (fun _ _ h => .val (h _)) rfl rfl <|
      .cons [38] [] (fun _ _ h => .val (h _)) rfl rfl <|
      .cons [37, 39] [] (fun _ _ h => .cP (g70r hy10) (h _)) rfl rfl <|
      .cons [1] [] (fun _ _ h => .val (h _)) rfl rfl <|
      .cons [41] [] (fun _ _ h => .val (h _)) rfl rfl <|
      .cons [40, 42] [] (fun _ _ h => .cP (g70r hy11) (h _)) rfl rfl <|
      .cons [1] [] (fun _ _ h => .val (h _)) rfl rfl <|
      .cons [44] [] (fun _ _ h => .val (h _)) rfl rfl <|
      .cons [45] [] (fun _ _ h => .lenL (f := pv94) (h _)) rfl rfl <|
      .cons [43, 46] [] (fun _ _ h => .cP (g70r hy12) (h _)) rfl rfl <|
      .cons [47] [] (fun _ _ h => .assign (h _)) rfl rfl <|
      .nil)
      (.nil)
      (by kernel_rfl) rfl (.cons rfl (.nil)) (.cons rfl (.nil)) (.cons rfl (.nil)) ?_
    refine .imp (T := St.of [(1, .ptr (.loc 0 0) 0), (4, .sl 5 .ro (y12.map (PV.int .u8)))] [((.loc 0 0), [.int .u64 a0.ID, .str a0.Name, .int .i64 a0.Direction, .int .i64 a0.Domain, .int .i64 a0.Latency, .int .i64 a0.Drift, .int .i64 a0.Jitter, .sl 94 .ro (a0.Boxes.map pv94)])]) (imp_of (.cons rfl (.cons rfl (.nil))) (.cons rfl (.nil))) ?_
    obtain ⟨j222, hj222, h⟩ := joinE h
    refine .cutI (fun T => (∃ (v221 : (List Int)), T = St.of [(4, .sl 5 .ro (v221.map (PV.int .u8)))] [] ∧ j222 v221 = some r)) ?_ ?_
    · refine .seq ?_
      refine .region ?_
      refine .val ?_
      refine .val ?_
      refine .lenL (f := pv94) ?_
      refine .move ?_
      refine .nil ?_
      refine .block ?_
      refine .loopI (fun m T => ∃ (v291 : (List Int)) (v292 : Int), T = St.of [(4, .sl 5 .ro (v291.map (PV.int .u8))), (49, .sl 94 .ro (a0.Boxes.map pv94)), (50, .int .i64 (a0.Boxes.length : Int)), (51, .int .i64 v292)] [] ∧ f39_l1 n a0 j222 m v291 v292 = some r) _ _ ⟨_, _, rfl, h⟩ (imp_of (.cons rfl (.cons rfl (.cons rfl (.cons rfl (.nil))))) (.nil)) ?_
      rintro m363 T ⟨v291, v292, rfl, h⟩
      obtain _ | m363 := m363
      · rw [f39_l1] at h; cases h
      rw [f39_l1] at h
      refine .seq ?_
      refine .region ?_
      refine .val ?_
      refine .nil ?_
      refine .seq ?_
      refine .cond (fun hc365 => ?_) (fun hc365 => ?_)
      · replace h := (if_pos hc365).symm.trans h
        refine .skip ?_
        obtain ⟨j432, hj432, h⟩ := joinE h
        refine .cutI (fun T => (∃ (v431 : (List Int)), T = St.of [(4, .sl 5 .ro (v431.map (PV.int .u8))), (49, .sl 94 .ro (a0.Boxes.map pv94)), (50, .int .i64 (a0.Boxes.length : Int)), (51, .int .i64 v292)] [] ∧ j432 v431 = some r)) ?_ ?_
        · refine .block ?_
          refine .seq ?_
          refine .region ?_
          obtain ⟨x433, hx433, h⟩ := bindE h
          refine .idxL (f := pv94) hx433 ?_
          refine .ldL hx433 (y := .agg [.int .i64 x433.Kinds, .sl 124 .ro (x433.Rates.map pv124), .sl 59 .ro (x433.Maps.map pv59), .sl 124 .ro (x433.Sizes.map pv124)]) ?_
          refine .allocL (cs := [.int .i64 0, .sl 124 .full [], .sl 59 .full [], .sl 124 .full []]) ?_
          refine .wrL (cs := [.int .i64 x433.Kinds, .sl 124 .ro (x433.Rates.map pv124), .sl 59 .ro (x433.Maps.map pv59), .sl 124 .ro (x433.Sizes.map pv124)]) ?_
          refine .nil ?_
          refine .seq ?_
          obtain ⟨y434, hy434, h⟩ := bindE h
          obtain ⟨y435, hy435, h⟩ := bindE h
          obtain ⟨y436, hy436, h⟩ := bindE h
          refine .draw [] [[], [], [], [], [], [], [], [], [], [], [], []] [[], [], [], [], [], [], [], [], [], [], [], []] [[]]
            [(0, 0), (1, 0), (2, 0), (3, 0), (4, 0), (5, 0), (6, 0), (7, 0), (8, 0), (9, 0), (10, 0), (11, 0)] [] 0
            [⟨[(55, .sl 5 .ro (v291.map (PV.int .u8))), (56, .ptr (.loc 8 2) 0), (57, .int .i64 x433.Kinds), (58, .sl 5 .ro (y434.map (PV.int .u8))), (59, .ptr (.loc 8 2) 1), (60, .agg [.sl 124 .ro (x433.Rates.map pv124)]), (61, .sl 5 .ro (y435.map (PV.int .u8))), (62, .ptr (.loc 8 2) 2), (63, .sl 59 .ro (x433.Maps.map pv59)), (64, .int .i64 (x433.Maps.length : Int)), (65, .sl 5 .ro (y436.map (PV.int .u8))), (4, .sl 5 .ro (y436.map (PV.int .u8))), (7, .ptr (.loc 8 2) 0), (49, .sl 94 .ro (a0.Boxes.map pv94)), (50, .int .i64 (a0.Boxes.length : Int)), (51, .int .i64 v292)], [(4, .sl 5 .ro (v291.map (PV.int .u8)))], [((.loc 8 2), [.int .i64 x433.Kinds, .sl 124 .ro (x433.Rates.map pv124), .sl 59 .ro (x433.Maps.map pv59), .sl 124 .ro (x433.Sizes.map pv124)])]⟩]
            [(7, .ptr (.loc 8 2) 0), (49, .sl 94 .ro (a0.Boxes.map pv94)), (50, .int .i64 (a0.Boxes.length : Int)), (51, .int .i64 v292)]
            (.cons [] [4] (fun _ _ h => .move (h _)) rfl rfl <|
            .cons [7] [] (fun _ _ h => .val (h _)) rfl rfl <|
            .cons [56] [] (fun _ _ h => .val (h _)) rfl rfl <|
            .cons [55, 57] [] (fun _ _ h => .cP (g70r hy434) (h _)) rfl rfl <|
            .cons [7] [] (fun _ _ h => .val (h _)) rfl rfl <|
            .cons [59] [] (fun _ _ h => .val (h _)) rfl rfl <|
            .cons [58, 60] [] (fun _ _ h => .cP (g71r hy435) (h _)) rfl rfl <|
            .cons [7] [] (fun _ _ h => .val (h _)) rfl rfl <|
            .cons [62] [] (fun _ _ h => .val (h _)) rfl rfl <|
            .cons [63] [] (fun _ _ h => .lenL (f := pv59) (h _)) rfl rfl <|
            .cons [61, 64] [] (fun _ _ h => .cP (g70r hy436) (h _)) rfl rfl <|
            .cons [65] [] (fun _ _ h => .assign (h _)) rfl rfl <|
            .nil)
            (.nil)
            (by kernel_rfl) rfl (.cons rfl (.cons rfl (.cons rfl (.cons rfl (.nil))))) (.cons rfl (.nil)) (.cons rfl (.nil)) ?_
          refine .imp (T := St.of [(4, .sl 5 .ro (y436.map (PV.int .u8))), (7, .ptr (.loc 8 2) 0), (49, .sl 94 .ro (a0.Boxes.map pv94)), (50, .int .i64 (a0.Boxes.length : Int)), (51, .int .i64 v292)] [((.loc 8 2), [.int .i64 x433.Kinds, .sl 124 .ro (x433.Rates.map pv124), .sl 59 .ro (x433.Maps.map pv59), .sl 124 .ro (x433.Sizes.map pv124)])]) (imp_of (.cons rfl (.cons rfl (.cons rfl (.cons rfl (.cons rfl (.nil)))))) (.cons rfl (.nil))) ?_
          obtain ⟨j496, hj496, h⟩ := joinE h
          refine .cutI (fun T => (∃ (v495 : (List Int)), T = St.of [(4, .sl 5 .ro (v495.map (PV.int .u8))), (7, .ptr (.loc 8 2) 0), (49, .sl 94 .ro (a0.Boxes.map pv94)), (50, .int .i64 (a0.Boxes.length : Int)), (51, .int .i64 v292)] [((.loc 8 2), [.int .i64 x433.Kinds, .sl 124 .ro (x433.Rates.map pv124), .sl 59 .ro (x433.Maps.map pv59), .sl 124 .ro (x433.Sizes.map pv124)])] ∧ j496 v495 = some r)) ?_ ?_
          · refine .seq ?_
            refine .region ?_
            refine .val ?_
            refine .val ?_
            refine .lenL (f := pv59) ?_
            refine .move ?_
            refine .nil ?_
            refine .block ?_
            refine .loopI (fun m T => ∃ (v515 : (List Int)) (v516 : Int), T = St.of [(4, .sl 5 .ro (v515.map (PV.int .u8))), (7, .ptr (.loc 8 2) 0), (49, .sl 94 .ro (a0.Boxes.map pv94)), (50, .int .i64 (a0.Boxes.length : Int)), (51, .int .i64 v292), (67, .sl 59 .ro (x433.Maps.map pv59)), (68, .int .i64 (x433.Maps.length : Int)), (69, .int .i64 v516)] [((.loc 8 2), [.int .i64 x433.Kinds, .sl 124 .ro (x433.Rates.map pv124), .sl 59 .ro (x433.Maps.map pv59), .sl 124 .ro (x433.Sizes.map pv124)])] ∧ f39_l2 n x433 j496 m v515 v516 = some r) _ _ ⟨_, _, rfl, h⟩ (imp_of (.cons rfl (.cons rfl (.cons rfl (.cons rfl (.cons rfl (.cons rfl (.cons rfl (.cons rfl (.nil))))))))) (.cons rfl (.nil))) ?_
            rintro m537 T ⟨v515, v516, rfl, h⟩
            obtain _ | m537 := m537
            · rw [f39_l2] at h; cases h
            rw [f39_l2] at h
            refine .seq ?_
            refine .region ?_
            refine .val ?_
            refine .nil ?_
            refine .seq ?_
            refine .cond (fun hc539 => ?_) (fun hc539 => ?_)
            · replace h := (if_pos hc539).symm.trans h
              refine .skip ?_
              obtain ⟨j556, hj556, h⟩ := joinE h
              refine .cutI (fun T => (∃ (v555 : (List Int)), T = St.of [(4, .sl 5 .ro (v555.map (PV.int .u8))), (7, .ptr (.loc 8 2) 0), (49, .sl 94 .ro (a0.Boxes.map pv94)), (50, .int .i64 (a0.Boxes.length : Int)), (51, .int .i64 v292), (67, .sl 59 .ro (x433.Maps.map pv59)), (68, .int .i64 (x433.Maps.length : Int)), (69, .int .i64 v516)] [((.loc 8 2), [.int .i64 x433.Kinds, .sl 124 .ro (x433.Rates.map pv124), .sl 59 .ro (x433.Maps.map pv59), .sl 124 .ro (x433.Sizes.map pv124)])] ∧ j556 v555 = some r)) ?_ ?_
              · refine .block ?_
                refine .seq ?_
                refine .region ?_
                obtain ⟨x557, hx557, h⟩ := bindE h
                refine .idxL (f := pv59) hx557 ?_
                refine .ldL hx557 (y := .sl 3 .ro (x557.map (PV.int .i64))) ?_
                refine .assign ?_
                refine .nil ?_
                refine .seq ?_
                refine .region ?_
                refine .move ?_
                refine .move ?_
                refine .lenL (f := (PV.int .i64)) ?_
                obtain ⟨y558, hy558, h⟩ := bindE h
                refine .cP (g70r hy558) ?_
                refine .assign ?_
                refine .nil ?_
                refine .seq ?_
                refine .region ?_
                refine .move ?_
                refine .lenL (f := (PV.int .i64)) ?_
                refine .move ?_
                refine .nil ?_
                refine .block ?_
                refine .loopI (fun m T => ∃ (v562 : (List Int)) (v563 : Int), T = St.of [(4, .sl 5 .ro (v562.map (PV.int .u8))), (7, .ptr (.loc 8 2) 0), (49, .sl 94 .ro (a0.Boxes.map pv94)), (50, .int .i64 (a0.Boxes.length : Int)), (51, .int .i64 v292), (67, .sl 59 .ro (x433.Maps.map pv59)), (68, .int .i64 (x433.Maps.length : Int)), (69, .int .i64 v516), (77, .sl 3 .ro (x557.map (PV.int .i64))), (78, .int .i64 (x557.length : Int)), (79, .int .i64 v563)] [((.loc 8 2), [.int .i64 x433.Kinds, .sl 124 .ro (x433.Rates.map pv124), .sl 59 .ro (x433.Maps.map pv59), .sl 124 .ro (x433.Sizes.map pv124)])] ∧ f39_l3 n j556 x557 m v562 v563 = some r) _ _ ⟨_, _, rfl, h⟩ (imp_of (.cons rfl (.cons rfl (.cons rfl (.cons rfl (.cons rfl (.cons rfl (.cons rfl (.cons rfl (.cons rfl (.cons rfl (.cons rfl (.nil)))))))))))) (.cons rfl (.nil))) ?_
                rintro m569 T ⟨v562, v563, rfl, h⟩
                obtain _ | m569 := m569
                · rw [f39_l3] at h; cases h
                rw [f39_l3] at h
                refine .seq ?_
                refine .region ?_
                refine .val ?_
                refine .nil ?_
                refine .seq ?_
                refine .cond (fun hc571 => ?_) (fun hc571 => ?_)
                · replace h := (if_pos hc571).symm.trans h
                  refine .skip ?_
                  refine .seq ?_
                  refine .block ?_
                  refine .seq ?_
                  refine .region ?_
                  obtain ⟨x574, hx574, h⟩ := bindE h
                  refine .idxL (f := (PV.int .i64)) hx574 ?_
                  refine .ldL hx574 (y := .int .i64 x574) ?_
                  refine .assign ?_
                  refine .nil ?_
                  refine .region ?_
                  refine .move ?_
                  refine .move ?_
                  obtain ⟨y575, hy575, h⟩ := bindE h
                  refine .cP (g70r hy575) ?_
                  refine .assign ?_
                  refine .nil ?_
                  refine .region ?_
                  refine .val ?_
                  refine .move ?_
                  refine .nil ?_
                  exact ⟨m569, _, Nat.lt_succ_self m569, ⟨_, _, rfl, h⟩, (imp_of (.cons rfl (.cons rfl (.cons rfl (.cons rfl (.cons rfl (.cons rfl (.cons rfl (.cons rfl (.cons rfl (.cons rfl (.cons rfl (.nil)))))))))))) (.cons rfl (.nil)))⟩
                · replace h := (if_neg (nt hc571)).symm.trans h
                  refine .exit (.hit ?_)
                  exact ⟨_, ⟨_, rfl, h⟩, (imp_of (.cons rfl (.cons rfl (.cons rfl (.cons rfl (.cons rfl (.cons rfl (.cons rfl (.cons rfl (.nil))))))))) (.cons rfl (.nil)))⟩
              · rintro T ⟨v555, rfl, h⟩
                subst hj556
                refine .region ?_
                refine .val ?_
                refine .move ?_
                refine .nil ?_
                exact ⟨m537, _, Nat.lt_succ_self m537, ⟨_, _, rfl, h⟩, (imp_of (.cons rfl (.cons rfl (.cons rfl (.cons rfl (.cons rfl (.cons rfl (.cons rfl (.cons rfl (.nil))))))))) (.cons rfl (.nil)))⟩
            · replace h := (if_neg (nt hc539)).symm.trans h
              refine .exit (.hit ?_)
              exact ⟨_, ⟨_, rfl, h⟩, (imp_of (.cons rfl (.cons rfl (.cons rfl (.cons rfl (.cons rfl (.nil)))))) (.cons rfl (.nil)))⟩
          · rintro T ⟨v495, rfl, h⟩
            subst hj496
            refine .region ?_
            refine .move ?_
            refine .val ?_
            refine .val (v := .agg [.sl 124 .ro (x433.Sizes.map pv124)]) ?_
            obtain ⟨y576, hy576, h⟩ := bindE h
            refine .cP (g71r hy576) ?_
            refine .assign ?_
            refine .nil ?_
            exact ⟨_, ⟨_, rfl, h⟩, (imp_of (.cons rfl (.cons rfl (.cons rfl (.cons rfl (.nil))))) (.nil))⟩
        · rintro T ⟨v431, rfl, h⟩
          subst hj432
          refine .region ?_
          refine .val ?_
          refine .move ?_
          refine .nil ?_
          exact ⟨m363, _, Nat.lt_succ_self m363, ⟨_, _, rfl, h⟩, (imp_of (.cons rfl (.cons rfl (.cons rfl (.cons rfl (.nil))))) (.nil))⟩
      · replace h := (if_neg (nt hc365)).symm.trans h
        refine .exit (.hit ?_)
        exact ⟨_, ⟨_, rfl, h⟩, (imp_of (.cons rfl (.nil)) (.nil))⟩
    · rintro T ⟨v221, rfl, h⟩
      subst hj222
      refine .seq ?_
      refine .region ?_
      refine .move ?_
      refine .move ?_
      obtain ⟨y577, hy577, h⟩ := bindE h
      refine .cP (g18 hy577) ?_
      obtain ⟨y578, hy578, h⟩ := bindE h
      refine .cO (.row 22 3) (g26 hy578) (u := .sl 5 (.own (.row 22 3)) (y578.map (PV.int .u8))) ?_
      refine .assign ?_
      refine .assign ?_
      refine .nil ?_
      cases h
      exact .ret (fin_gen0 (some (.row 22 3)))
theorem g39r {n : Nat} {a0 : Descriptor} {r : ((List Int) × Int)} (h : f39 n a0 = some r) :
    Ab.Can Try.prog 39 [.agg [.int .u64 a0.ID, .str a0.Name, .int .i64 a0.Direction, .int .i64 a0.Domain, .int .i64 a0.Latency, .int .i64 a0.Drift, .int .i64 a0.Jitter, .sl 94 .ro (a0.Boxes.map pv94)]] H0 (.tup [.sl 5 .ro (r.1.map (PV.int .u8)), .int .i64 r.2]) H0 := Can.frzR (hq := []) (g39 h)

/- soundservice/soundservicelaw11.sane -/
def f38 (n : Nat)  : Option Bool :=
  (f41 n ([] : List Int)).bind fun y1 =>
  (lMake (8 : Int) (8 : Int) (0 : Int)).bind fun x2 =>
  (f41 n x2).bind fun y3 =>
  (f69 n ([] : List Int)).bind fun y4 =>
  (f68 n (⟨y4.l⟩ : Dice) (1 : Int)).bind fun y5 =>
  (f39 n (⟨y5.1.ID, y5.1.Name, y5.1.Direction, y5.1.Domain, y5.1.Latency, y5.1.Drift, y5.1.Jitter, y5.1.Boxes⟩ : Descriptor)).bind fun y6 =>
  if (y1.2 == (4 : Int)) then (
  if (y3.2 == (6 : Int)) then (
  if (y6.2 == (0 : Int)) then (
  if decide ((y6.1.length : Int) > (20 : Int)) then (
  (f56 n (⟨y5.1.ID, y5.1.Name, y5.1.Direction, y5.1.Domain, y5.1.Latency, y5.1.Drift, y5.1.Jitter, y5.1.Boxes⟩ : Descriptor)).bind fun y16 =>
  some y16)
  else (
  some false))
  else (
  some false))
  else (
  some false))
  else (
  some false)
set_option maxHeartbeats 4000000 in
set_option maxRecDepth 100000 in
theorem g38 {n : Nat}  {r : Bool} (h : f38 n  = some r) :
    Ab.Can Try.prog 38 [] H0 (.bool r) H0 := by
  refine can_of tabOK mix Try.call38 Try.func38 rfl (by kernel_rfl) (by show _ ≤ 43; simp) fun _ => ?_
  rw [f38] at h
  refine .seq ?_
  refine .region ?_
  refine .assign ?_
  refine .nil ?_
  refine .seq ?_
  refine .region ?_
  obtain ⟨y1, hy1, h⟩ := bindE h
  refine .cP (g41 hy1) ?_
  refine .move ?_
  refine .val ?_
  refine .val ?_
  refine .allocL (cs := [.int .u64 0, .str (⟨#[]⟩ : ByteArray), .int .i64 0, .int .i64 0, .int .i64 0, .int .i64 0, .int .i64 0, .sl 94 .full []]) ?_
  refine .wrL (cs := [.int .u64 y1.1.ID, .str y1.1.Name, .int .i64 y1.1.Direction, .int .i64 y1.1.Domain, .int .i64 y1.1.Latency, .int .i64 y1.1.Drift, .int .i64 y1.1.Jitter, .sl 94 .ro (y1.1.Boxes.map pv94)]) ?_
  refine .assign ?_
  refine .nil ?_
  refine .seq ?_
  refine .region ?_
  obtain ⟨x2, hx2, h⟩ := bindE h
  refine .makeL (f := (PV.int .u8)) hx2 ?_
  obtain ⟨y3, hy3, h⟩ := bindE h
  refine .freeze (.row 2 0) ?_
  refine .cP (g41 hy3) ?_
  refine .move ?_
  refine .val ?_
  refine .val ?_
  refine .allocL (cs := [.int .u64 0, .str (⟨#[]⟩ : ByteArray), .int .i64 0, .int .i64 0, .int .i64 0, .int .i64 0, .int .i64 0, .sl 94 .full []]) ?_
  refine .wrL (cs := [.int .u64 y3.1.ID, .str y3.1.Name, .int .i64 y3.1.Direction, .int .i64 y3.1.Domain, .int .i64 y3.1.Latency, .int .i64 y3.1.Drift, .int .i64 y3.1.Jitter, .sl 94 .ro (y3.1.Boxes.map pv94)]) ?_
  refine .assign ?_
  refine .nil ?_
  refine .imp (T := St.of [(2, .int .i64 y1.2), (4, .int .i64 y3.2)] []) (imp_of (.cons rfl (.cons rfl (.nil))) (.nil)) ?_
  refine .seq ?_
  refine .region ?_
  obtain ⟨y4, hy4, h⟩ := bindE h
  refine .cB (.loc 3 0) (g69 hy4) ?_
  obtain ⟨y5, hy5, h⟩ := bindE h
  refine .cH (.loc 3 0) (g68r hy5) ?_
  refine .allocL (cs := [.int .u64 0, .str (⟨#[]⟩ : ByteArray), .int .i64 0, .int .i64 0, .int .i64 0, .int .i64 0, .int .i64 0, .sl 94 .full []]) ?_
  refine .wrL (cs := [.int .u64 y5.1.ID, .str y5.1.Name, .int .i64 y5.1.Direction, .int .i64 y5.1.Domain, .int .i64 y5.1.Latency, .int .i64 y5.1.Drift, .int .i64 y5.1.Jitter, .sl 94 .ro (y5.1.Boxes.map pv94)]) ?_
  refine .nil ?_
  refine .seq ?_
  refine .region ?_
  refine .val (v := .agg [.int .u64 y5.1.ID, .str y5.1.Name, .int .i64 y5.1.Direction, .int .i64 y5.1.Domain, .int .i64 y5.1.Latency, .int .i64 y5.1.Drift, .int .i64 y5.1.Jitter, .sl 94 .ro (y5.1.Boxes.map pv94)]) ?_
  obtain ⟨y6, hy6, h⟩ := bindE h
  refine .cP (g39r hy6) ?_
  refine .move ?_
  refine .val ?_
  refine .val ?_
  refine .assign ?_
  refine .assign ?_
  refine .nil ?_
  refine .seq ?_
  refine .region ?_
  refine .move ?_
  refine .val ?_
  refine .move ?_
  refine .caseG (fun hc12 => ?_) (fun hc12 => ?_)
  · replace h := (if_pos hc12).symm.trans h
    refine .move ?_
    refine .val ?_
    refine .brT ?_
    refine .move ?_
    refine .caseG (fun hc13 => ?_) (fun hc13 => ?_)
    · replace h := (if_pos hc13).symm.trans h
      refine .move ?_
      refine .val ?_
      refine .brT ?_
      refine .move ?_
      refine .caseG (fun hc14 => ?_) (fun hc14 => ?_)
      · replace h := (if_pos hc14).symm.trans h
        refine .move ?_
        refine .lenL (f := (PV.int .u8)) ?_
        refine .val ?_
        refine .brT ?_
        refine .move ?_
        refine .caseG (fun hc15 => ?_) (fun hc15 => ?_)
        · replace h := (if_pos hc15).symm.trans h
          refine .val (v := .agg [.int .u64 y5.1.ID, .str y5.1.Name, .int .i64 y5.1.Direction, .int .i64 y5.1.Domain, .int .i64 y5.1.Latency, .int .i64 y5.1.Drift, .int .i64 y5.1.Jitter, .sl 94 .ro (y5.1.Boxes.map pv94)]) ?_
          obtain ⟨y16, hy16, h⟩ := bindE h
          refine .cP (g56 hy16) ?_
          refine .brT ?_
          refine .assign ?_
          refine .nil ?_
          cases h
          exact .ret (fin_gen0 none)
        · replace h := (if_neg (nt hc15)).symm.trans h
          refine .skip ?_
          refine .skip ?_
          refine .brF ?_
          refine .assign ?_
          refine .nil ?_
          cases h
          exact .ret (fin_gen0 none)
      · replace h := (if_neg (nt hc14)).symm.trans h
        refine .skip ?_
        refine .skip ?_
        refine .skip ?_
        refine .brF ?_
        refine .move ?_
        refine .skip ?_
        refine .skip ?_
        refine .brF ?_
        refine .assign ?_
        refine .nil ?_
        cases h
        exact .ret (fin_gen0 none)
    · replace h := (if_neg (nt hc13)).symm.trans h
      refine .skip ?_
      refine .skip ?_
      refine .brF ?_
      refine .move ?_
      refine .skip ?_
      refine .skip ?_
      refine .skip ?_
      refine .brF ?_
      refine .move ?_
      refine .skip ?_
      refine .skip ?_
      refine .brF ?_
      refine .assign ?_
      refine .nil ?_
      cases h
      exact .ret (fin_gen0 none)
  · replace h := (if_neg (nt hc12)).symm.trans h
    refine .skip ?_
    refine .skip ?_
    refine .brF ?_
    refine .move ?_
    refine .skip ?_
    refine .skip ?_
    refine .brF ?_
    refine .move ?_
    refine .skip ?_
    refine .skip ?_
    refine .skip ?_
    refine .brF ?_
    refine .move ?_
    refine .skip ?_
    refine .skip ?_
    refine .brF ?_
    refine .assign ?_
    refine .nil ?_
    cases h
    exact .ret (fin_gen0 none)

/- soundservice/soundserviceref11.Sealed -/
def f79 (n : Nat) (a0 : (List Int)) : Option (List Int) :=
  (f19 n a0).bind fun y1 =>
  (f27 n a0 y1).bind fun y2 =>
  some y2
set_option maxHeartbeats 4000000 in
set_option maxRecDepth 100000 in
theorem g79 {n : Nat} {a0 : (List Int)} {r : (List Int)} (h : f79 n a0 = some r) :
    Ab.Can Try.prog 79 [.sl 5 .ro (a0.map (PV.int .u8))] H0 (.sl 5 (.own (.rrow 0)) (r.map (PV.int .u8))) H0 := by
  refine can_of tabOK mix Try.call79 Try.func79 rfl (by kernel_rfl) (by show _ ≤ 7; simp) fun _ => ?_
  rw [f79] at h
  refine .seq ?_
  refine .region ?_
  refine .assign ?_
  refine .nil ?_
  refine .seq ?_
  refine .region ?_
  refine .move ?_
  refine .move ?_
  obtain ⟨y1, hy1, h⟩ := bindE h
  refine .cP (g19 hy1) ?_
  obtain ⟨y2, hy2, h⟩ := bindE h
  refine .cO (.row 1 3) (g27 hy2) (u := .sl 5 (.own (.row 1 3)) (y2.map (PV.int .u8))) ?_
  refine .assign ?_
  refine .nil ?_
  cases h
  exact .ret (fin_gen0 (some (.row 1 3)))
theorem g79r {n : Nat} {a0 : (List Int)} {r : (List Int)} (h : f79 n a0 = some r) :
    Ab.Can Try.prog 79 [.sl 5 .ro (a0.map (PV.int .u8))] H0 (.sl 5 .ro (r.map (PV.int .u8))) H0 := Can.frzR (hq := []) (g79 h)

/- soundservice/soundservicelaw11.sealed -/
def f42 (n : Nat) (a0 : (List Int)) : Option (List Int) :=
  (f79 n a0).bind fun y1 =>
  some y1
set_option maxHeartbeats 4000000 in
set_option maxRecDepth 100000 in
theorem g42 {n : Nat} {a0 : (List Int)} {r : (List Int)} (h : f42 n a0 = some r) :
    Ab.Can Try.prog 42 [.sl 5 .ro (a0.map (PV.int .u8))] H0 (.sl 5 (.own (.rrow 0)) (r.map (PV.int .u8))) H0 := by
  refine can_of tabOK mix Try.call42 Try.func42 rfl (by kernel_rfl) (by show _ ≤ 5; simp) fun _ => ?_
  rw [f42] at h
  refine .seq ?_
  refine .region ?_
  refine .assign ?_
  refine .nil ?_
  refine .seq ?_
  refine .region ?_
  refine .move ?_
  obtain ⟨y1, hy1, h⟩ := bindE h
  refine .cO (.row 1 1) (g79 hy1) (u := .sl 5 (.own (.row 1 1)) (y1.map (PV.int .u8))) ?_
  refine .assign ?_
  refine .nil ?_
  cases h
  exact .ret (fin_gen0 (some (.row 1 1)))
theorem g42r {n : Nat} {a0 : (List Int)} {r : (List Int)} (h : f42 n a0 = some r) :
    Ab.Can Try.prog 42 [.sl 5 .ro (a0.map (PV.int .u8))] H0 (.sl 5 .ro (r.map (PV.int .u8))) H0 := Can.frzR (hq := []) (g42 h)

/- soundservice/soundservicekeep.Set -/
def f88 (_n : Nat) (a0 : IntSet) : Option Bool :=
  some (decide ((a0.Spans.length : Int) ≤ (70 : Int)))
set_option maxHeartbeats 4000000 in
set_option maxRecDepth 100000 in
theorem g88 {n : Nat} {a0 : IntSet} {r : Bool} (h : f88 n a0 = some r) :
    Ab.Can Try.prog 88 [.agg [.sl 124 .ro (a0.Spans.map pv124)]] H0 (.bool r) H0 := by
  refine can_of tabOK mix Try.call88 Try.func88 rfl (by kernel_rfl) (by show _ ≤ 7; simp) fun _ => ?_
  rw [f88] at h
  refine .seq ?_
  refine .region ?_
  refine .boxL (cs := [.sl 124 .ro (a0.Spans.map pv124)]) ?_
  refine .assign ?_
  refine .nil ?_
  refine .seq ?_
  refine .region ?_
  refine .val ?_
  refine .val ?_
  refine .lenL (f := pv124) ?_
  refine .val ?_
  refine .assign ?_
  refine .nil ?_
  cases h
  exact .ret (fin_gen0 none)

/- soundservice/soundservicekeep.Boxes -/
def f53_l2 (n : Nat) (j135 : Unit → Option Bool) (x136 : Box) : Nat → Int → Option Bool
  | 0, _ => none
  | m163 + 1, v158 =>
    if decide (v158 < (x136.Maps.length : Int)) then (
    (lAt x136.Maps v158).bind fun x168 =>
    if decide ((x168.length : Int) > (12 : Int)) then (
    some false)
    else (
    f53_l2 n j135 x136 m163 (w64 (v158 + (1 : Int)))))
    else (
    j135 ())
def f53_l1 (n : Nat) (a0 : (List Box)) (j68 : Unit → Option Bool) : Nat → Int → Option Bool
  | 0, _ => none
  | m113 + 1, v90 =>
    if decide (v90 < (a0.length : Int)) then (
    joinK (fun (_ : Unit) =>
    f53_l1 n a0 j68 m113 (w64 (v90 + (1 : Int)))) fun j135 =>
    (lAt a0 v90).bind fun x136 =>
    joinK (fun (_ : Unit) =>
    some false) fun j148 =>
    joinK (fun (_ : Unit) =>
    if decide ((x136.Maps.length : Int) > (20 : Int)) then (
    some false)
    else (
    f53_l2 n j135 x136 n 0)) fun j149 =>
    (f88 n (⟨x136.Rates⟩ : IntSet)).bind fun y150 =>
    if !y150 then (
    j148 ())
    else (
    (f88 n (⟨x136.Sizes⟩ : IntSet)).bind fun y152 =>
    if !y152 then (
    j148 ())
    else (
    j149 ())))
    else (
    j68 ())
def f53 (n : Nat) (a0 : (List Box)) (a1 : Int) : Option Bool :=
  if decide ((a0.length : Int) > a1) then (
  some false)
  else (
  joinK (fun (_ : Unit) =>
  some true) fun j68 =>
  f53_l1 n a0 j68 n 0)
set_option maxHeartbeats 4000000 in
set_option maxRecDepth 100000 in
theorem g53 {n : Nat} {a0 : (List Box)} {a1 : Int} {r : Bool} (h : f53 n a0 a1 = some r) :
    Ab.Can Try.prog 53 [.sl 94 .ro (a0.map pv94), .int .i64 a1] H0 (.bool r) H0 := by
  refine can_of tabOK mix Try.call53 Try.func53 rfl (by kernel_rfl) (by show _ ≤ 47; simp) fun _ => ?_
  rw [f53] at h
  refine .seq ?_
  refine .region ?_
  refine .assign ?_
  refine .nil ?_
  refine .seq ?_
  refine .seq ?_
  refine .region ?_
  refine .move ?_
  refine .lenL (f := pv94) ?_
  refine .move ?_
  refine .val ?_
  refine .nil ?_
  refine .cond (fun hc2 => ?_) (fun hc2 => ?_)
  · replace h := (if_pos hc2).symm.trans h
    refine .seq ?_
    refine .region ?_
    refine .assign ?_
    refine .nil ?_
    cases h
    exact .ret (fin_gen0 none)
  · replace h := (if_neg (nt hc2)).symm.trans h
    refine .skip ?_
    obtain ⟨j68, hj68, h⟩ := joinE h
    refine .cutI (fun T => (T = St.of [] [] ∧ j68 () = some r)) ?_ ?_
    · refine .seq ?_
      refine .region ?_
      refine .move ?_
      refine .lenL (f := pv94) ?_
      refine .move ?_
      refine .nil ?_
      refine .block ?_
      refine .loopI (fun m T => ∃ (v90 : Int), T = St.of [(13, .sl 94 .ro (a0.map pv94)), (14, .int .i64 (a0.length : Int)), (15, .int .i64 v90)] [] ∧ f53_l1 n a0 j68 m v90 = some r) _ _ ⟨_, rfl, h⟩ (imp_of (.cons rfl (.cons rfl (.cons rfl (.nil)))) (.nil)) ?_
      rintro m113 T ⟨v90, rfl, h⟩
      obtain _ | m113 := m113
      · rw [f53_l1] at h; cases h
      rw [f53_l1] at h
      refine .seq ?_
      refine .region ?_
      refine .val ?_
      refine .nil ?_
      refine .seq ?_
      refine .cond (fun hc115 => ?_) (fun hc115 => ?_)
      · replace h := (if_pos hc115).symm.trans h
        refine .skip ?_
        obtain ⟨j135, hj135, h⟩ := joinE h
        refine .cutI (fun T => (T = St.of [(13, .sl 94 .ro (a0.map pv94)), (14, .int .i64 (a0.length : Int)), (15, .int .i64 v90)] [] ∧ j135 () = some r)) ?_ ?_
        · refine .block ?_
          refine .seq ?_
          refine .region ?_
          obtain ⟨x136, hx136, h⟩ := bindE h
          refine .idxL (f := pv94) hx136 ?_
          refine .ldL hx136 (y := .agg [.int .i64 x136.Kinds, .sl 124 .ro (x136.Rates.map pv124), .sl 59 .ro (x136.Maps.map pv59), .sl 124 .ro (x136.Sizes.map pv124)]) ?_
          refine .allocL (cs := [.int .i64 0, .sl 124 .full [], .sl 59 .full [], .sl 124 .full []]) ?_
          refine .wrL (cs := [.int .i64 x136.Kinds, .sl 124 .ro (x136.Rates.map pv124), .sl 59 .ro (x136.Maps.map pv59), .sl 124 .ro (x136.Sizes.map pv124)]) ?_
          refine .nil ?_
          refine .seq ?_
          obtain ⟨j148, hj148, h⟩ := joinE h
          obtain ⟨j149, hj149, h⟩ := joinE h
          refine .cutI (fun T => (T = St.of [(6, .ptr (.loc 5 2) 0), (13, .sl 94 .ro (a0.map pv94)), (14, .int .i64 (a0.length : Int)), (15, .int .i64 v90), (34, .bool true)] [((.loc 5 2), [.int .i64 x136.Kinds, .sl 124 .ro (x136.Rates.map pv124), .sl 59 .ro (x136.Maps.map pv59), .sl 124 .ro (x136.Sizes.map pv124)])] ∧ j148 () = some r) ∨ (T = St.of [(6, .ptr (.loc 5 2) 0), (13, .sl 94 .ro (a0.map pv94)), (14, .int .i64 (a0.length : Int)), (15, .int .i64 v90), (34, .bool (decide ((x136.Maps.length : Int) > (20 : Int))))] [((.loc 5 2), [.int .i64 x136.Kinds, .sl 124 .ro (x136.Rates.map pv124), .sl 59 .ro (x136.Maps.map pv59), .sl 124 .ro (x136.Sizes.map pv124)])] ∧ j149 () = some r)) ?_ ?_
          · refine .region ?_
            refine .val ?_
            refine .val (v := .agg [.sl 124 .ro (x136.Rates.map pv124)]) ?_
            obtain ⟨y150, hy150, h⟩ := bindE h
            refine .cP (g88 hy150) ?_
            refine .val ?_
            refine .move ?_
            refine .caseG (fun hc151 => ?_) (fun hc151 => ?_)
            · replace h := (if_pos hc151).symm.trans h
              refine .skip ?_
              refine .skip ?_
              refine .skip ?_
              refine .skip ?_
              refine .brT ?_
              refine .move ?_
              refine .skip ?_
              refine .skip ?_
              refine .skip ?_
              refine .skip ?_
              refine .brT ?_
              refine .nil ?_
              exact ⟨_, (.inl ⟨rfl, h⟩), (imp_of (.cons rfl (.cons rfl (.cons rfl (.cons rfl (.cons rfl (.nil)))))) (.cons rfl (.nil)))⟩
            · replace h := (if_neg (nt hc151)).symm.trans h
              refine .val ?_
              refine .val (v := .agg [.sl 124 .ro (x136.Sizes.map pv124)]) ?_
              obtain ⟨y152, hy152, h⟩ := bindE h
              refine .cP (g88 hy152) ?_
              refine .val ?_
              refine .brF ?_
              refine .move ?_
              refine .caseG (fun hc153 => ?_) (fun hc153 => ?_)
              · replace h := (if_pos hc153).symm.trans h
                refine .skip ?_
                refine .skip ?_
                refine .skip ?_
                refine .skip ?_
                refine .brT ?_
                refine .nil ?_
                exact ⟨_, (.inl ⟨rfl, h⟩), (imp_of (.cons rfl (.cons rfl (.cons rfl (.cons rfl (.cons rfl (.nil)))))) (.cons rfl (.nil)))⟩
              · replace h := (if_neg (nt hc153)).symm.trans h
                refine .val ?_
                refine .val ?_
                refine .lenL (f := pv59) ?_
                refine .val ?_
                refine .brF ?_
                refine .nil ?_
                exact ⟨_, (.inr (⟨rfl, h⟩)), (imp_of (.cons rfl (.cons rfl (.cons rfl (.cons rfl (.cons rfl (.nil)))))) (.cons rfl (.nil)))⟩
          · rintro T (⟨rfl, h⟩ | ⟨rfl, h⟩)
            · subst hj148
              refine .condT ?_
              refine .seq ?_
              refine .region ?_
              refine .assign ?_
              refine .nil ?_
              cases h
              exact .ret (fin_gen0 none)
            · subst hj149
              refine .cond (fun hc154 => ?_) (fun hc154 => ?_)
              · replace h := (if_pos hc154).symm.trans h
                refine .seq ?_
                refine .region ?_
                refine .assign ?_
                refine .nil ?_
                cases h
                exact .ret (fin_gen0 none)
              · replace h := (if_neg (nt hc154)).symm.trans h
                refine .skip ?_
                refine .seq ?_
                refine .region ?_
                refine .val ?_
                refine .val ?_
                refine .lenL (f := pv59) ?_
                refine .move ?_
                refine .nil ?_
                refine .block ?_
                refine .loopI (fun m T => ∃ (v158 : Int), T = St.of [(13, .sl 94 .ro (a0.map pv94)), (14, .int .i64 (a0.length : Int)), (15, .int .i64 v90), (36, .sl 59 .ro (x136.Maps.map pv59)), (37, .int .i64 (x136.Maps.length : Int)), (38, .int .i64 v158)] [] ∧ f53_l2 n j135 x136 m v158 = some r) _ _ ⟨_, rfl, h⟩ (imp_of (.cons rfl (.cons rfl (.cons rfl (.cons rfl (.cons rfl (.cons rfl (.nil))))))) (.nil)) ?_
                rintro m163 T ⟨v158, rfl, h⟩
                obtain _ | m163 := m163
                · rw [f53_l2] at h; cases h
                rw [f53_l2] at h
                refine .seq ?_
                refine .region ?_
                refine .val ?_
                refine .nil ?_
                refine .seq ?_
                refine .cond (fun hc165 => ?_) (fun hc165 => ?_)
                · replace h := (if_pos hc165).symm.trans h
                  refine .skip ?_
                  refine .seq ?_
                  refine .block ?_
                  refine .seq ?_
                  refine .region ?_
                  obtain ⟨x168, hx168, h⟩ := bindE h
                  refine .idxL (f := pv59) hx168 ?_
                  refine .ldL hx168 (y := .sl 3 .ro (x168.map (PV.int .i64))) ?_
                  refine .assign ?_
                  refine .nil ?_
                  refine .seq ?_
                  refine .region ?_
                  refine .move ?_
                  refine .lenL (f := (PV.int .i64)) ?_
                  refine .val ?_
                  refine .nil ?_
                  refine .cond (fun hc169 => ?_) (fun hc169 => ?_)
                  · replace h := (if_pos hc169).symm.trans h
                    refine .seq ?_
                    refine .region ?_
                    refine .assign ?_
                    refine .nil ?_
                    cases h
                    exact .ret (fin_gen0 none)
                  · replace h := (if_neg (nt hc169)).symm.trans h
                    refine .skip ?_
                    refine .region ?_
                    refine .val ?_
                    refine .move ?_
                    refine .nil ?_
                    exact ⟨m163, _, Nat.lt_succ_self m163, ⟨_, rfl, h⟩, (imp_of (.cons rfl (.cons rfl (.cons rfl (.cons rfl (.cons rfl (.cons rfl (.nil))))))) (.nil))⟩
                · replace h := (if_neg (nt hc165)).symm.trans h
                  refine .exit (.hit ?_)
                  exact ⟨_, ⟨rfl, h⟩, (imp_of (.cons rfl (.cons rfl (.cons rfl (.nil)))) (.nil))⟩
        · rintro T ⟨rfl, h⟩
          subst hj135
          refine .region ?_
          refine .val ?_
          refine .move ?_
          refine .nil ?_
          exact ⟨m113, _, Nat.lt_succ_self m113, ⟨_, rfl, h⟩, (imp_of (.cons rfl (.cons rfl (.cons rfl (.nil)))) (.nil))⟩
      · replace h := (if_neg (nt hc115)).symm.trans h
        refine .exit (.hit ?_)
        exact ⟨_, ⟨rfl, h⟩, (imp_of (.nil) (.nil))⟩
    · rintro T ⟨rfl, h⟩
      subst hj68
      refine .seq ?_
      refine .region ?_
      refine .assign ?_
      refine .nil ?_
      cases h
      exact .ret (fin_gen0 none)

/- soundservice/soundservicelaw11.spoil -/
def f54_l1 (n : Nat) (a0 : Descriptor) (a2 : Int) (j31 : ByteArray → Int → Int → Int → Int → Int → (List Box) → Option Descriptor) : Nat → (List Box) → Option Descriptor
  | 0, _ => none
  | m51 + 1, v44 =>
    if decide ((v44.length : Int) < (w64 ((7 : Int) + (w64 (Int.tmod a2 (3 : Int)))))) then (
    (lAt v44 (0 : Int)).bind fun x54 =>
    (lApp v44 ([x54] : List Box)).bind fun x55 =>
    f54_l1 n a0 a2 j31 m51 x55)
    else (
    j31 a0.Name a0.Direction a0.Domain a0.Latency a0.Drift a0.Jitter v44)
def f54 (n : Nat) (a0 : Descriptor) (a1 : Int) (a2 : Int) : Option Descriptor :=
  joinK (fun (v23 : ByteArray) (v24 : Int) (v25 : Int) (v26 : Int) (v27 : Int) (v28 : Int) (v29 : (List Box)) =>
  some (⟨a0.ID, v23, v24, v25, v26, v27, v28, v29⟩ : Descriptor)) fun j31 =>
  if ((Int.tmod a1 (10 : Int)) == (0 : Int)) then (
  j31 a0.Name (w64 (Int.tmod a2 (4 : Int))) a0.Domain a0.Latency a0.Drift a0.Jitter a0.Boxes)
  else (
  if ((Int.tmod a1 (10 : Int)) == (1 : Int)) then (
  j31 a0.Name a0.Direction (w64 ((65530 : Int) + (w64 (Int.tmod a2 (12 : Int))))) a0.Latency a0.Drift a0.Jitter a0.Boxes)
  else (
  if ((Int.tmod a1 (10 : Int)) == (2 : Int)) then (
  j31 a0.Name a0.Direction a0.Domain (w64 ((1048574 : Int) + (w64 (Int.tmod a2 (4 : Int))))) a0.Drift a0.Jitter a0.Boxes)
  else (
  if ((Int.tmod a1 (10 : Int)) == (3 : Int)) then (
  j31 a0.Name a0.Direction a0.Domain a0.Latency (w64 ((2046 : Int) + (w64 (Int.tmod a2 (4 : Int))))) a0.Jitter a0.Boxes)
  else (
  if ((Int.tmod a1 (10 : Int)) == (4 : Int)) then (
  j31 a0.Name a0.Direction a0.Domain a0.Latency a0.Drift (w64 ((4094 : Int) + (w64 (Int.tmod a2 (4 : Int))))) a0.Boxes)
  else (
  if ((Int.tmod a1 (10 : Int)) == (5 : Int)) then (
  (lAt ([(⟨#[]⟩ : ByteArray), (⟨#[49, 97]⟩ : ByteArray), (⟨#[97, 32, 98]⟩ : ByteArray), (⟨#[120]⟩ : ByteArray)] : List ByteArray) (Int.tmod a2 (4 : Int))).bind fun x38 =>
  j31 x38 a0.Direction a0.Domain a0.Latency a0.Drift a0.Jitter a0.Boxes)
  else (
  if ((Int.tmod a1 (10 : Int)) == (6 : Int)) then (
  j31 a0.Name a0.Direction a0.Domain a0.Latency a0.Drift a0.Jitter ([] : List Box))
  else (
  if ((Int.tmod a1 (10 : Int)) == (7 : Int)) then (
  f54_l1 n a0 a2 j31 n a0.Boxes)
  else (
  j31 a0.Name a0.Direction a0.Domain a0.Latency a0.Drift a0.Jitter a0.Boxes))))))))
set_option maxHeartbeats 4000000 in
set_option maxRecDepth 100000 in
theorem g54 {n : Nat} {a0 : Descriptor} {a1 : Int} {a2 : Int} {r : Descriptor} (h : f54 n a0 a1 a2 = some r) :
    Ab.CanO Try.prog 54 [.agg [.int .u64 a0.ID, .str a0.Name, .int .i64 a0.Direction, .int .i64 a0.Domain, .int .i64 a0.Latency, .int .i64 a0.Drift, .int .i64 a0.Jitter, .sl 94 (.own (.rrow 0)) (a0.Boxes.map pv94)], .int .u8 a1, .int .u8 a2] (.agg [.int .u64 r.ID, .str r.Name, .int .i64 r.Direction, .int .i64 r.Domain, .int .i64 r.Latency, .int .i64 r.Drift, .int .i64 r.Jitter, .sl 94 .ro (r.Boxes.map pv94)]) := by
  refine canO_of tabOK mix Try.call54 Try.func54 rfl (by kernel_rfl) (by show _ ≤ 74; simp) ?_
  rw [f54] at h
  refine .seq ?_
  refine .region ?_
  refine .boxL (cs := [.int .u64 a0.ID, .str a0.Name, .int .i64 a0.Direction, .int .i64 a0.Domain, .int .i64 a0.Latency, .int .i64 a0.Drift, .int .i64 a0.Jitter, .sl 94 (.own (.rrow 0)) (a0.Boxes.map pv94)]) ?_
  refine .allocL (cs := [.int .u64 0, .str (⟨#[]⟩ : ByteArray), .int .i64 0, .int .i64 0, .int .i64 0, .int .i64 0, .int .i64 0, .sl 94 .full []]) ?_
  refine .nil ?_
  obtain ⟨j31, hj31, h⟩ := joinE h
  refine .cutI (fun T => (∃ (v23 : ByteArray) (v24 : Int) (v25 : Int) (v26 : Int) (v27 : Int) (v28 : Int) (v29 : (List Box)), T = St.of [(3, .ptr (.loc 0 0) 0), (6, .ptr (.loc 0 1) 0)] [((.loc 0 0), [.int .u64 a0.ID, .str v23, .int .i64 v24, .int .i64 v25, .int .i64 v26, .int .i64 v27, .int .i64 v28, .sl 94 (.own (.row 9030 0)) (v29.map pv94)]), ((.loc 0 1), [.int .u64 0, .str (⟨#[]⟩ : ByteArray), .int .i64 0, .int .i64 0, .int .i64 0, .int .i64 0, .int .i64 0, .sl 94 .full []])] ∧ j31 v23 v24 v25 v26 v27 v28 v29 = some r)) ?_ ?_
  · refine .seq ?_
    refine .region ?_
    refine .move ?_
    refine .val ?_ (hc := by decide)
    refine .nil ?_
    refine .block ?_
    refine .seq ?_
    refine .region ?_
    refine .val ?_
    refine .assign ?_
    refine .nil ?_
    refine .cond (fun hc32 => ?_) (fun hc32 => ?_)
    · replace h := (if_pos hc32).symm.trans h
      refine .region ?_
      refine .move ?_
      refine .val ?_ (hc := by decide)
      refine .val ?_
      refine .val ?_
      refine .wrL (cs := [.int .u64 a0.ID, .str a0.Name, .int .i64 (w64 (Int.tmod a2 (4 : Int))), .int .i64 a0.Domain, .int .i64 a0.Latency, .int .i64 a0.Drift, .int .i64 a0.Jitter, .sl 94 (.own (.rrow 0)) (a0.Boxes.map pv94)]) ?_
      refine .nil ?_
      exact ⟨_, ⟨_, _, _, _, _, _, _, rfl, h⟩, (Imp.trans (Imp.swap (.rrow 0) (.row 9030 0) rfl rfl rfl) (imp_of (.cons rfl (.cons rfl (.nil))) (.cons rfl (.cons rfl (.nil)))))⟩
    · replace h := (if_neg (nt hc32)).symm.trans h
      refine .seq ?_
      refine .region ?_
      refine .val ?_
      refine .assign ?_
      refine .nil ?_
      refine .cond (fun hc33 => ?_) (fun hc33 => ?_)
      · replace h := (if_pos hc33).symm.trans h
        refine .region ?_
        refine .move ?_
        refine .val ?_ (hc := by decide)
        refine .val ?_
        refine .val ?_
        refine .val ?_
        refine .wrL (cs := [.int .u64 a0.ID, .str a0.Name, .int .i64 a0.Direction, .int .i64 (w64 ((65530 : Int) + (w64 (Int.tmod a2 (12 : Int))))), .int .i64 a0.Latency, .int .i64 a0.Drift, .int .i64 a0.Jitter, .sl 94 (.own (.rrow 0)) (a0.Boxes.map pv94)]) ?_
        refine .nil ?_
        exact ⟨_, ⟨_, _, _, _, _, _, _, rfl, h⟩, (Imp.trans (Imp.swap (.rrow 0) (.row 9030 0) rfl rfl rfl) (imp_of (.cons rfl (.cons rfl (.nil))) (.cons rfl (.cons rfl (.nil)))))⟩
      · replace h := (if_neg (nt hc33)).symm.trans h
        refine .seq ?_
        refine .region ?_
        refine .val ?_
        refine .assign ?_
        refine .nil ?_
        refine .cond (fun hc34 => ?_) (fun hc34 => ?_)
        · replace h := (if_pos hc34).symm.trans h
          refine .region ?_
          refine .move ?_
          refine .val ?_ (hc := by decide)
          refine .val ?_
          refine .val ?_
          refine .val ?_
          refine .wrL (cs := [.int .u64 a0.ID, .str a0.Name, .int .i64 a0.Direction, .int .i64 a0.Domain, .int .i64 (w64 ((1048574 : Int) + (w64 (Int.tmod a2 (4 : Int))))), .int .i64 a0.Drift, .int .i64 a0.Jitter, .sl 94 (.own (.rrow 0)) (a0.Boxes.map pv94)]) ?_
          refine .nil ?_
          exact ⟨_, ⟨_, _, _, _, _, _, _, rfl, h⟩, (Imp.trans (Imp.swap (.rrow 0) (.row 9030 0) rfl rfl rfl) (imp_of (.cons rfl (.cons rfl (.nil))) (.cons rfl (.cons rfl (.nil)))))⟩
        · replace h := (if_neg (nt hc34)).symm.trans h
          refine .seq ?_
          refine .region ?_
          refine .val ?_
          refine .assign ?_
          refine .nil ?_
          refine .cond (fun hc35 => ?_) (fun hc35 => ?_)
          · replace h := (if_pos hc35).symm.trans h
            refine .region ?_
            refine .move ?_
            refine .val ?_ (hc := by decide)
            refine .val ?_
            refine .val ?_
            refine .val ?_
            refine .wrL (cs := [.int .u64 a0.ID, .str a0.Name, .int .i64 a0.Direction, .int .i64 a0.Domain, .int .i64 a0.Latency, .int .i64 (w64 ((2046 : Int) + (w64 (Int.tmod a2 (4 : Int))))), .int .i64 a0.Jitter, .sl 94 (.own (.rrow 0)) (a0.Boxes.map pv94)]) ?_
            refine .nil ?_
            exact ⟨_, ⟨_, _, _, _, _, _, _, rfl, h⟩, (Imp.trans (Imp.swap (.rrow 0) (.row 9030 0) rfl rfl rfl) (imp_of (.cons rfl (.cons rfl (.nil))) (.cons rfl (.cons rfl (.nil)))))⟩
          · replace h := (if_neg (nt hc35)).symm.trans h
            refine .seq ?_
            refine .region ?_
            refine .val ?_
            refine .assign ?_
            refine .nil ?_
            refine .cond (fun hc36 => ?_) (fun hc36 => ?_)
            · replace h := (if_pos hc36).symm.trans h
              refine .region ?_
              refine .move ?_
              refine .val ?_ (hc := by decide)
              refine .val ?_
              refine .val ?_
              refine .val ?_
              refine .wrL (cs := [.int .u64 a0.ID, .str a0.Name, .int .i64 a0.Direction, .int .i64 a0.Domain, .int .i64 a0.Latency, .int .i64 a0.Drift, .int .i64 (w64 ((4094 : Int) + (w64 (Int.tmod a2 (4 : Int))))), .sl 94 (.own (.rrow 0)) (a0.Boxes.map pv94)]) ?_
              refine .nil ?_
              exact ⟨_, ⟨_, _, _, _, _, _, _, rfl, h⟩, (Imp.trans (Imp.swap (.rrow 0) (.row 9030 0) rfl rfl rfl) (imp_of (.cons rfl (.cons rfl (.nil))) (.cons rfl (.cons rfl (.nil)))))⟩
            · replace h := (if_neg (nt hc36)).symm.trans h
              refine .seq ?_
              refine .region ?_
              refine .val ?_
              refine .assign ?_
              refine .nil ?_
              refine .cond (fun hc37 => ?_) (fun hc37 => ?_)
              · replace h := (if_pos hc37).symm.trans h
                refine .region ?_
                refine .litR (f := PV.str) ([(⟨#[]⟩ : ByteArray), (⟨#[49, 97]⟩ : ByteArray), (⟨#[97, 32, 98]⟩ : ByteArray), (⟨#[120]⟩ : ByteArray)] : List ByteArray) ?_
                refine .move ?_
                refine .val ?_ (hc := by decide)
                obtain ⟨x38, hx38, h⟩ := bindE h
                refine .idxL (f := PV.str) hx38 ?_
                refine .ldL hx38 (y := .str x38) ?_
                refine .val ?_
                refine .wrL (cs := [.int .u64 a0.ID, .str x38, .int .i64 a0.Direction, .int .i64 a0.Domain, .int .i64 a0.Latency, .int .i64 a0.Drift, .int .i64 a0.Jitter, .sl 94 (.own (.rrow 0)) (a0.Boxes.map pv94)]) ?_
                refine .nil ?_
                exact ⟨_, ⟨_, _, _, _, _, _, _, rfl, h⟩, (Imp.trans (Imp.swap (.rrow 0) (.row 9030 0) rfl rfl rfl) (imp_of (.cons rfl (.cons rfl (.nil))) (.cons rfl (.cons rfl (.nil)))))⟩
              · replace h := (if_neg (nt hc37)).symm.trans h
                refine .seq ?_
                refine .region ?_
                refine .val ?_
                refine .assign ?_
                refine .nil ?_
                refine .cond (fun hc39 => ?_) (fun hc39 => ?_)
                · replace h := (if_pos hc39).symm.trans h
                  refine .region ?_
                  refine .val ?_
                  refine .wrL (cs := [.int .u64 a0.ID, .str a0.Name, .int .i64 a0.Direction, .int .i64 a0.Domain, .int .i64 a0.Latency, .int .i64 a0.Drift, .int .i64 a0.Jitter, .sl 94 .full []]) ?_
                  refine .nil ?_
                  exact ⟨_, ⟨_, _, _, _, _, _, _, rfl, h⟩, (imp_of (.cons rfl (.cons rfl (.nil))) (.wk (.cons (.refl _) rfl (.cons (.refl _) rfl (.cons (.refl _) rfl (.cons (.refl _) rfl (.cons (.refl _) rfl (.cons (.refl _) rfl (.cons (.refl _) rfl (.cons (.own _ _) rfl (.nil))))))))) rfl (.cons rfl (.nil))))⟩
                · replace h := (if_neg (nt hc39)).symm.trans h
                  refine .seq ?_
                  refine .region ?_
                  refine .val ?_
                  refine .assign ?_
                  refine .nil ?_
                  refine .cond (fun hc40 => ?_) (fun hc40 => ?_)
                  · replace h := (if_pos hc40).symm.trans h
                    refine .block ?_
                    refine .loopI (fun m T => ∃ (v44 : (List Box)), T = St.of [(2, .int .u8 a2), (3, .ptr (.loc 0 0) 0), (6, .ptr (.loc 0 1) 0)] [((.loc 0 0), [.int .u64 a0.ID, .str a0.Name, .int .i64 a0.Direction, .int .i64 a0.Domain, .int .i64 a0.Latency, .int .i64 a0.Drift, .int .i64 a0.Jitter, .sl 94 (.own (.row 9045 0)) (v44.map pv94)]), ((.loc 0 1), [.int .u64 0, .str (⟨#[]⟩ : ByteArray), .int .i64 0, .int .i64 0, .int .i64 0, .int .i64 0, .int .i64 0, .sl 94 .full []])] ∧ f54_l1 n a0 a2 j31 m v44 = some r) _ _ ⟨_, rfl, h⟩ (Imp.trans (Imp.swap (.rrow 0) (.row 9045 0) rfl rfl rfl) (imp_of (.cons rfl (.cons rfl (.cons rfl (.nil)))) (.cons rfl (.cons rfl (.nil))))) ?_
                    rintro m51 T ⟨v44, rfl, h⟩
                    obtain _ | m51 := m51
                    · rw [f54_l1] at h; cases h
                    rw [f54_l1] at h
                    refine .seq ?_
                    refine .seq ?_
                    refine .region ?_
                    refine .val ?_
                    refine .val ?_
                    refine .lenL (f := pv94) ?_
                    refine .move ?_
                    refine .val ?_ (hc := by decide)
                    refine .val ?_
                    refine .val ?_
                    refine .val ?_
                    refine .nil ?_
                    refine .cond (fun hc53 => ?_) (fun hc53 => ?_)
                    · replace h := (if_pos hc53).symm.trans h
                      refine .skip ?_
                      refine .block ?_
                      obtain ⟨x54, hx54, h⟩ := bindE h
                      obtain ⟨x55, hx55, h⟩ := bindE h
                      refine .draw [7, 9] [[], [], [], [], [], [], [], [], [7], [7]] [[7, 9], [7, 9], [7, 9], [7, 9], [7, 9], [7, 9], [7, 9], [9], [9], []] [[], [7], [7, 9]]
                        [(0, 0), (1, 0), (2, 0), (3, 0), (4, 0), (5, 0), (6, 0), (8, 1)] [(0, 7, 1), (1, 9, 2)] 2
                        [⟨[(64, .ptr (.loc 0 0) 7), (65, .sl 94 (.own (.row 9045 0)) (v44.map pv94)), (66, .ptr (.loc 0 0) 7), (67, .sl 94 (.own (.row 9045 0)) (v44.map pv94)), (68, .ep 94 (.own (.row 9045 0)) (v44.map pv94) (0 : Int).toNat 0), (69, .agg [.int .i64 x54.Kinds, .sl 124 .ro (x54.Rates.map pv124), .sl 59 .ro (x54.Maps.map pv59), .sl 124 .ro (x54.Sizes.map pv124)]), (70, .sl 94 .ro (([x54] : List Box).map pv94)), (2, .int .u8 a2), (3, .ptr (.loc 0 0) 0), (6, .ptr (.loc 0 1) 0)], [], [((.loc 0 0), [.int .u64 a0.ID, .str a0.Name, .int .i64 a0.Direction, .int .i64 a0.Domain, .int .i64 a0.Latency, .int .i64 a0.Drift, .int .i64 a0.Jitter, .sl 94 (.own (.row 9045 0)) (v44.map pv94)]), ((.loc 0 1), [.int .u64 0, .str (⟨#[]⟩ : ByteArray), .int .i64 0, .int .i64 0, .int .i64 0, .int .i64 0, .int .i64 0, .sl 94 .full []])]⟩,
                        ⟨[(64, .ptr (.loc 0 0) 7), (65, .dead), (66, .ptr (.loc 0 0) 7), (67, .dead), (68, .dead), (69, .agg [.int .i64 x54.Kinds, .sl 124 .ro (x54.Rates.map pv124), .sl 59 .ro (x54.Maps.map pv59), .sl 124 .ro (x54.Sizes.map pv124)]), (70, .sl 94 .ro (([x54] : List Box).map pv94)), (71, .sl 94 (.own (.row 18 7)) (x55.map pv94)), (72, .ptr (.loc 0 0) 7), (2, .int .u8 a2), (3, .ptr (.loc 0 0) 0), (6, .ptr (.loc 0 1) 0)], [], [((.loc 0 0), [.int .u64 a0.ID, .str a0.Name, .int .i64 a0.Direction, .int .i64 a0.Domain, .int .i64 a0.Latency, .int .i64 a0.Drift, .int .i64 a0.Jitter, .dead]), ((.loc 0 1), [.int .u64 0, .str (⟨#[]⟩ : ByteArray), .int .i64 0, .int .i64 0, .int .i64 0, .int .i64 0, .int .i64 0, .sl 94 .full []])]⟩,
                        ⟨[(64, .ptr (.loc 0 0) 7), (65, .dead), (66, .ptr (.loc 0 0) 7), (67, .dead), (68, .dead), (69, .agg [.int .i64 x54.Kinds, .sl 124 .ro (x54.Rates.map pv124), .sl 59 .ro (x54.Maps.map pv59), .sl 124 .ro (x54.Sizes.map pv124)]), (70, .sl 94 .ro (([x54] : List Box).map pv94)), (71, .sl 94 (.own (.row 18 7)) (x55.map pv94)), (72, .ptr (.loc 0 0) 7), (2, .int .u8 a2), (3, .ptr (.loc 0 0) 0), (6, .ptr (.loc 0 1) 0)], [], [((.loc 0 0), [.int .u64 a0.ID, .str a0.Name, .int .i64 a0.Direction, .int .i64 a0.Domain, .int .i64 a0.Latency, .int .i64 a0.Drift, .int .i64 a0.Jitter, .sl 94 (.own (.row 18 7)) (x55.map pv94)]), ((.loc 0 1), [.int .u64 0, .str (⟨#[]⟩ : ByteArray), .int .i64 0, .int .i64 0, .int .i64 0, .int .i64 0, .int .i64 0, .sl 94 .full []])]⟩]
                        [(2, .int .u8 a2), (3, .ptr (.loc 0 0) 0), (6, .ptr (.loc 0 1) 0)]
                        (.cons [3] [] (fun _ _ h => .val (h _)) rfl rfl <|
                        .cons [64] [] (fun _ _ h => .val (h _)) rfl rfl <|
                        .cons [3] [] (fun _ _ h => .val (h _)) rfl rfl <|
                        .cons [66] [] (fun _ _ h => .val (h _)) rfl rfl <|
                        .cons [67] [] (fun _ _ h => .idxL (f := pv94) hx54 (h _)) rfl rfl <|
                        .cons [68] [] (fun _ _ h => .ldL hx54 (h _)) rfl rfl <|
                        .cons [69] [] (fun _ _ h => .litR (f := pv94) ([x54] : List Box) (h _)) rfl rfl <|
                        .cons [3] [] (fun _ _ h => .val (h _)) rfl rfl <|
                        .nil)
                        (.cons (PV.sub (twoSub (.row 9045 0) .kill (.row 18 7) .frz)) [65, 70] [] (fun _ _ h => .appL (f := pv94) hx55 (h _ _ (.cons rfl (.cons rfl (.nil))))) rfl (.old rfl (.old rfl (.old rfl (.old rfl (.old rfl (.old rfl (.old rfl (.new rfl (.new rfl (.old rfl (.old rfl (.old rfl (.nil))))))))))))) rfl rfl <|
                        .cons (fun x => x) [72, 71] [] (fun _ _ h => .wrL (cs := [.int .u64 a0.ID, .str a0.Name, .int .i64 a0.Direction, .int .i64 a0.Domain, .int .i64 a0.Latency, .int .i64 a0.Drift, .int .i64 a0.Jitter, .sl 94 (.own (.row 18 7)) (x55.map pv94)]) (h _ _ (.cons rfl (.cons rfl (.nil))))) rfl (.old rfl (.old rfl (.old rfl (.old rfl (.old rfl (.old rfl (.old rfl (.old rfl (.old rfl (.old rfl (.old rfl (.old rfl (.nil))))))))))))) rfl rfl <|
                        .nil)
                        (by kernel_rfl) rfl (.cons rfl (.cons rfl (.cons rfl (.nil)))) (.nil) (.cons rfl (.cons rfl (.nil))) ?_
                      exact ⟨m51, _, Nat.lt_succ_self m51, ⟨_, rfl, h⟩, (Imp.trans (Imp.swap (.row 18 7) (.row 9045 0) rfl rfl rfl) (imp_of (.cons rfl (.cons rfl (.cons rfl (.nil)))) (.cons rfl (.cons rfl (.nil)))))⟩
                    · replace h := (if_neg (nt hc53)).symm.trans h
                      refine .exit (.hit ?_)
                      exact ⟨_, ⟨_, _, _, _, _, _, _, rfl, h⟩, (Imp.trans (Imp.swap (.row 9045 0) (.row 9030 0) rfl rfl rfl) (imp_of (.cons rfl (.cons rfl (.nil))) (.cons rfl (.cons rfl (.nil)))))⟩
                  · replace h := (if_neg (nt hc40)).symm.trans h
                    refine .skip ?_
                    exact ⟨_, ⟨_, _, _, _, _, _, _, rfl, h⟩, (Imp.trans (Imp.swap (.rrow 0) (.row 9030 0) rfl rfl rfl) (imp_of (.cons rfl (.cons rfl (.nil))) (.cons rfl (.cons rfl (.nil)))))⟩
  · rintro T ⟨v23, v24, v25, v26, v27, v28, v29, rfl, h⟩
    subst hj31
    refine .seq ?_
    refine .region ?_
    refine .val (v := .agg [.int .u64 a0.ID, .str v23, .int .i64 v24, .int .i64 v25, .int .i64 v26, .int .i64 v27, .int .i64 v28, .sl 94 (.own (.row 9030 0)) (v29.map pv94)]) ?_
    refine .wrL (cs := [.int .u64 a0.ID, .str v23, .int .i64 v24, .int .i64 v25, .int .i64 v26, .int .i64 v27, .int .i64 v28, .sl 94 (.own (.row 9030 0)) (v29.map pv94)]) ?_
    refine .nil ?_
    cases h
    exact .ret (fin_gen0 none)

/- soundservice/soundserviceref11.Valid -/
def f57 (n : Nat) (a0 : Descriptor) : Option Bool :=
  (f92 n a0.Name).bind fun y27 =>
  if y27 then (
  if (a0.Direction == (1 : Int)) then (
  if decide (a0.Domain ≥ (0 : Int)) then (
  if decide (a0.Domain ≤ (65535 : Int)) then (
  if decide (a0.Latency ≥ (0 : Int)) then (
  if decide (a0.Latency ≤ (1048576 : Int)) then (
  if decide (a0.Drift ≥ (0 : Int)) then (
  if decide (a0.Drift ≤ (2048 : Int)) then (
  if decide (a0.Jitter ≥ (0 : Int)) then (
  if decide (a0.Jitter ≤ (4096 : Int)) then (
  if decide ((a0.Boxes.length : Int) ≥ (1 : Int)) then (
  if decide ((a0.Boxes.length : Int) ≤ (8 : Int)) then (
  (f93 n a0.Boxes).bind fun y40 =>
  some y40)
  else (
  some false))
  else (
  some false))
  else (
  some false))
  else (
  some false))
  else (
  some false))
  else (
  some false))
  else (
  some false))
  else (
  some false))
  else (
  some false))
  else (
  some false))
  else (
  if (a0.Direction == (2 : Int)) then (
  if decide (a0.Domain ≥ (0 : Int)) then (
  if decide (a0.Domain ≤ (65535 : Int)) then (
  if decide (a0.Latency ≥ (0 : Int)) then (
  if decide (a0.Latency ≤ (1048576 : Int)) then (
  if decide (a0.Drift ≥ (0 : Int)) then (
  if decide (a0.Drift ≤ (2048 : Int)) then (
  if decide (a0.Jitter ≥ (0 : Int)) then (
  if decide (a0.Jitter ≤ (4096 : Int)) then (
  if decide ((a0.Boxes.length : Int) ≥ (1 : Int)) then (
  if decide ((a0.Boxes.length : Int) ≤ (8 : Int)) then (
  (f93 n a0.Boxes).bind fun y52 =>
  some y52)
  else (
  some false))
  else (
  some false))
  else (
  some false))
  else (
  some false))
  else (
  some false))
  else (
  some false))
  else (
  some false))
  else (
  some false))
  else (
  some false))
  else (
  some false))
  else (
  some false)))
  else (
  some false)
set_option maxHeartbeats 4000000 in
set_option maxRecDepth 100000 in
theorem g57 {n : Nat} {a0 : Descriptor} {r : Bool} (h : f57 n a0 = some r) :
    Ab.Can Try.prog 57 [.agg [.int .u64 a0.ID, .str a0.Name, .int .i64 a0.Direction, .int .i64 a0.Domain, .int .i64 a0.Latency, .int .i64 a0.Drift, .int .i64 a0.Jitter, .sl 94 .ro (a0.Boxes.map pv94)]] H0 (.bool r) H0 := by
  refine can_of tabOK mix Try.call57 Try.func57 rfl (by kernel_rfl) (by show _ ≤ 73; simp) fun _ => ?_
  rw [f57] at h
  refine .seq ?_
  refine .region ?_
  refine .boxL (cs := [.int .u64 a0.ID, .str a0.Name, .int .i64 a0.Direction, .int .i64 a0.Domain, .int .i64 a0.Latency, .int .i64 a0.Drift, .int .i64 a0.Jitter, .sl 94 .ro (a0.Boxes.map pv94)]) ?_
  refine .assign ?_
  refine .nil ?_
  refine .seq ?_
  refine .region ?_
  refine .val ?_
  refine .val ?_
  obtain ⟨y27, hy27, h⟩ := bindE h
  refine .cP (g92 hy27) ?_
  refine .move ?_
  refine .caseG (fun hc28 => ?_) (fun hc28 => ?_)
  · replace h := (if_pos hc28).symm.trans h
    refine .val ?_
    refine .val ?_
    refine .val ?_
    refine .move ?_
    refine .caseG (fun hc29 => ?_) (fun hc29 => ?_)
    · replace h := (if_pos hc29).symm.trans h
      refine .skip ?_
      refine .skip ?_
      refine .skip ?_
      refine .brT ?_
      refine .brT ?_
      refine .move ?_
      refine .val ?_
      refine .val ?_
      refine .val ?_
      refine .brT ?_
      refine .move ?_
      refine .caseG (fun hc30 => ?_) (fun hc30 => ?_)
      · replace h := (if_pos hc30).symm.trans h
        refine .val ?_
        refine .val ?_
        refine .val ?_
        refine .brT ?_
        refine .move ?_
        refine .caseG (fun hc31 => ?_) (fun hc31 => ?_)
        · replace h := (if_pos hc31).symm.trans h
          refine .val ?_
          refine .val ?_
          refine .val ?_
          refine .brT ?_
          refine .move ?_
          refine .caseG (fun hc32 => ?_) (fun hc32 => ?_)
          · replace h := (if_pos hc32).symm.trans h
            refine .val ?_
            refine .val ?_
            refine .val ?_
            refine .brT ?_
            refine .move ?_
            refine .caseG (fun hc33 => ?_) (fun hc33 => ?_)
            · replace h := (if_pos hc33).symm.trans h
              refine .val ?_
              refine .val ?_
              refine .val ?_
              refine .brT ?_
              refine .move ?_
              refine .caseG (fun hc34 => ?_) (fun hc34 => ?_)
              · replace h := (if_pos hc34).symm.trans h
                refine .val ?_
                refine .val ?_
                refine .val ?_
                refine .brT ?_
                refine .move ?_
                refine .caseG (fun hc35 => ?_) (fun hc35 => ?_)
                · replace h := (if_pos hc35).symm.trans h
                  refine .val ?_
                  refine .val ?_
                  refine .val ?_
                  refine .brT ?_
                  refine .move ?_
                  refine .caseG (fun hc36 => ?_) (fun hc36 => ?_)
                  · replace h := (if_pos hc36).symm.trans h
                    refine .val ?_
                    refine .val ?_
                    refine .val ?_
                    refine .brT ?_
                    refine .move ?_
                    refine .caseG (fun hc37 => ?_) (fun hc37 => ?_)
                    · replace h := (if_pos hc37).symm.trans h
                      refine .val ?_
                      refine .val ?_
                      refine .lenL (f := pv94) ?_
                      refine .val ?_
                      refine .brT ?_
                      refine .move ?_
                      refine .caseG (fun hc38 => ?_) (fun hc38 => ?_)
                      · replace h := (if_pos hc38).symm.trans h
                        refine .val ?_
                        refine .val ?_
                        refine .lenL (f := pv94) ?_
                        refine .val ?_
                        refine .brT ?_
                        refine .move ?_
                        refine .caseG (fun hc39 => ?_) (fun hc39 => ?_)
                        · replace h := (if_pos hc39).symm.trans h
                          refine .val ?_
                          refine .val ?_
                          obtain ⟨y40, hy40, h⟩ := bindE h
                          refine .cP (g93 hy40) ?_
                          refine .brT ?_
                          refine .assign ?_
                          refine .nil ?_
                          cases h
                          exact .ret (fin_gen0 none)
                        · replace h := (if_neg (nt hc39)).symm.trans h
                          refine .skip ?_
                          refine .skip ?_
                          refine .skip ?_
                          refine .brF ?_
                          refine .assign ?_
                          refine .nil ?_
                          cases h
                          exact .ret (fin_gen0 none)
                      · replace h := (if_neg (nt hc38)).symm.trans h
                        refine .skip ?_
                        refine .skip ?_
                        refine .skip ?_
                        refine .skip ?_
                        refine .brF ?_
                        refine .move ?_
                        refine .skip ?_
                        refine .skip ?_
                        refine .skip ?_
                        refine .brF ?_
                        refine .assign ?_
                        refine .nil ?_
                        cases h
                        exact .ret (fin_gen0 none)
                    · replace h := (if_neg (nt hc37)).symm.trans h
                      refine .skip ?_
                      refine .skip ?_
                      refine .skip ?_
                      refine .skip ?_
                      refine .brF ?_
                      refine .move ?_
                      refine .skip ?_
                      refine .skip ?_
                      refine .skip ?_
                      refine .skip ?_
                      refine .brF ?_
                      refine .move ?_
                      refine .skip ?_
                      refine .skip ?_
                      refine .skip ?_
                      refine .brF ?_
                      refine .assign ?_
                      refine .nil ?_
                      cases h
                      exact .ret (fin_gen0 none)
                  · replace h := (if_neg (nt hc36)).symm.trans h
                    refine .skip ?_
                    refine .skip ?_
                    refine .skip ?_
                    refine .brF ?_
                    refine .move ?_
                    refine .skip ?_
                    refine .skip ?_
                    refine .skip ?_
                    refine .skip ?_
                    refine .brF ?_
                    refine .move ?_
                    refine .skip ?_
                    refine .skip ?_
                    refine .skip ?_
                    refine .skip ?_
                    refine .brF ?_
                    refine .move ?_
                    refine .skip ?_
                    refine .skip ?_
                    refine .skip ?_
                    refine .brF ?_
                    refine .assign ?_
                    refine .nil ?_
                    cases h
                    exact .ret (fin_gen0 none)
                · replace h := (if_neg (nt hc35)).symm.trans h
                  refine .skip ?_
                  refine .skip ?_
                  refine .skip ?_
                  refine .brF ?_
                  refine .move ?_
                  refine .skip ?_
                  refine .skip ?_
                  refine .skip ?_
                  refine .brF ?_
                  refine .move ?_
                  refine .skip ?_
                  refine .skip ?_
                  refine .skip ?_
                  refine .skip ?_
                  refine .brF ?_
                  refine .move ?_
                  refine .skip ?_
                  refine .skip ?_
                  refine .skip ?_
                  refine .skip ?_
                  refine .brF ?_
                  refine .move ?_
                  refine .skip ?_
                  refine .skip ?_
                  refine .skip ?_
                  refine .brF ?_
                  refine .assign ?_
                  refine .nil ?_
                  cases h
                  exact .ret (fin_gen0 none)
              · replace h := (if_neg (nt hc34)).symm.trans h
                refine .skip ?_
                refine .skip ?_
                refine .skip ?_
                refine .brF ?_
                refine .move ?_
                refine .skip ?_
                refine .skip ?_
                refine .skip ?_
                refine .brF ?_
                refine .move ?_
                refine .skip ?_
                refine .skip ?_
                refine .skip ?_
                refine .brF ?_
                refine .move ?_
                refine .skip ?_
                refine .skip ?_
                refine .skip ?_
                refine .skip ?_
                refine .brF ?_
                refine .move ?_
                refine .skip ?_
                refine .skip ?_
                refine .skip ?_
                refine .skip ?_
                refine .brF ?_
                refine .move ?_
                refine .skip ?_
                refine .skip ?_
                refine .skip ?_
                refine .brF ?_
                refine .assign ?_
                refine .nil ?_
                cases h
                exact .ret (fin_gen0 none)
            · replace h := (if_neg (nt hc33)).symm.trans h
              refine .skip ?_
              refine .skip ?_
              refine .skip ?_
              refine .brF ?_
              refine .move ?_
              refine .skip ?_
              refine .skip ?_
              refine .skip ?_
              refine .brF ?_
              refine .move ?_
              refine .skip ?_
              refine .skip ?_
              refine .skip ?_
              refine .brF ?_
              refine .move ?_
              refine .skip ?_
              refine .skip ?_
              refine .skip ?_
              refine .brF ?_
              refine .move ?_
              refine .skip ?_
              refine .skip ?_
              refine .skip ?_
              refine .skip ?_
              refine .brF ?_
              refine .move ?_
              refine .skip ?_
              refine .skip ?_
              refine .skip ?_
              refine .skip ?_
              refine .brF ?_
              refine .move ?_
              refine .skip ?_
              refine .skip ?_
              refine .skip ?_
              refine .brF ?_
              refine .assign ?_
              refine .nil ?_
              cases h
              exact .ret (fin_gen0 none)
          · replace h := (if_neg (nt hc32)).symm.trans h
            refine .skip ?_
            refine .skip ?_
            refine .skip ?_
            refine .brF ?_
            refine .move ?_
            refine .skip ?_
            refine .skip ?_
            refine .skip ?_
            refine .brF ?_
            refine .move ?_
            refine .skip ?_
            refine .skip ?_
            refine .skip ?_
            refine .brF ?_
            refine .move ?_
            refine .skip ?_
            refine .skip ?_
            refine .skip ?_
            refine .brF ?_
            refine .move ?_
            refine .skip ?_
            refine .skip ?_
            refine .skip ?_
            refine .brF ?_
            refine .move ?_
            refine .skip ?_
            refine .skip ?_
            refine .skip ?_
            refine .skip ?_
            refine .brF ?_
            refine .move ?_
            refine .skip ?_
            refine .skip ?_
            refine .skip ?_
            refine .skip ?_
            refine .brF ?_
            refine .move ?_
            refine .skip ?_
            refine .skip ?_
            refine .skip ?_
            refine .brF ?_
            refine .assign ?_
            refine .nil ?_
            cases h
            exact .ret (fin_gen0 none)
        · replace h := (if_neg (nt hc31)).symm.trans h
          refine .skip ?_
          refine .skip ?_
          refine .skip ?_
          refine .brF ?_
          refine .move ?_
          refine .skip ?_
          refine .skip ?_
          refine .skip ?_
          refine .brF ?_
          refine .move ?_
          refine .skip ?_
          refine .skip ?_
          refine .skip ?_
          refine .brF ?_
          refine .move ?_
          refine .skip ?_
          refine .skip ?_
          refine .skip ?_
          refine .brF ?_
          refine .move ?_
          refine .skip ?_
          refine .skip ?_
          refine .skip ?_
          refine .brF ?_
          refine .move ?_
          refine .skip ?_
          refine .skip ?_
          refine .skip ?_
          refine .brF ?_
          refine .move ?_
          refine .skip ?_
          refine .skip ?_
          refine .skip ?_
          refine .skip ?_
          refine .brF ?_
          refine .move ?_
          refine .skip ?_
          refine .skip ?_
          refine .skip ?_
          refine .skip ?_
          refine .brF ?_
          refine .move ?_
          refine .skip ?_
          refine .skip ?_
          refine .skip ?_
          refine .brF ?_
          refine .assign ?_
          refine .nil ?_
          cases h
          exact .ret (fin_gen0 none)
      · replace h := (if_neg (nt hc30)).symm.trans h
        refine .skip ?_
        refine .skip ?_
        refine .skip ?_
        refine .brF ?_
        refine .move ?_
        refine .skip ?_
        refine .skip ?_
        refine .skip ?_
        refine .brF ?_
        refine .move ?_
        refine .skip ?_
        refine .skip ?_
        refine .skip ?_
        refine .brF ?_
        refine .move ?_
        refine .skip ?_
        refine .skip ?_
        refine .skip ?_
        refine .brF ?_
        refine .move ?_
        refine .skip ?_
        refine .skip ?_
        refine .skip ?_
        refine .brF ?_
        refine .move ?_
        refine .skip ?_
        refine .skip ?_
        refine .skip ?_
        refine .brF ?_
        refine .move ?_
        refine .skip ?_
        refine .skip ?_
        refine .skip ?_
        refine .brF ?_
        refine .move ?_
        refine .skip ?_
        refine .skip ?_
        refine .skip ?_
        refine .skip ?_
        refine .brF ?_
        refine .move ?_
        refine .skip ?_
        refine .skip ?_
        refine .skip ?_
        refine .skip ?_
        refine .brF ?_
        refine .move ?_
        refine .skip ?_
        refine .skip ?_
        refine .skip ?_
        refine .brF ?_
        refine .assign ?_
        refine .nil ?_
        cases h
        exact .ret (fin_gen0 none)
    · replace h := (if_neg (nt hc29)).symm.trans h
      refine .val ?_
      refine .val ?_
      refine .val ?_
      refine .brF ?_
      refine .brT ?_
      refine .move ?_
      refine .caseG (fun hc41 => ?_) (fun hc41 => ?_)
      · replace h := (if_pos hc41).symm.trans h
        refine .val ?_
        refine .val ?_
        refine .val ?_
        refine .brT ?_
        refine .move ?_
        refine .caseG (fun hc42 => ?_) (fun hc42 => ?_)
        · replace h := (if_pos hc42).symm.trans h
          refine .val ?_
          refine .val ?_
          refine .val ?_
          refine .brT ?_
          refine .move ?_
          refine .caseG (fun hc43 => ?_) (fun hc43 => ?_)
          · replace h := (if_pos hc43).symm.trans h
            refine .val ?_
            refine .val ?_
            refine .val ?_
            refine .brT ?_
            refine .move ?_
            refine .caseG (fun hc44 => ?_) (fun hc44 => ?_)
            · replace h := (if_pos hc44).symm.trans h
              refine .val ?_
              refine .val ?_
              refine .val ?_
              refine .brT ?_
              refine .move ?_
              refine .caseG (fun hc45 => ?_) (fun hc45 => ?_)
              · replace h := (if_pos hc45).symm.trans h
                refine .val ?_
                refine .val ?_
                refine .val ?_
                refine .brT ?_
                refine .move ?_
                refine .caseG (fun hc46 => ?_) (fun hc46 => ?_)
                · replace h := (if_pos hc46).symm.trans h
                  refine .val ?_
                  refine .val ?_
                  refine .val ?_
                  refine .brT ?_
                  refine .move ?_
                  refine .caseG (fun hc47 => ?_) (fun hc47 => ?_)
                  · replace h := (if_pos hc47).symm.trans h
                    refine .val ?_
                    refine .val ?_
                    refine .val ?_
                    refine .brT ?_
                    refine .move ?_
                    refine .caseG (fun hc48 => ?_) (fun hc48 => ?_)
                    · replace h := (if_pos hc48).symm.trans h
                      refine .val ?_
                      refine .val ?_
                      refine .val ?_
                      refine .brT ?_
                      refine .move ?_
                      refine .caseG (fun hc49 => ?_) (fun hc49 => ?_)
                      · replace h := (if_pos hc49).symm.trans h
                        refine .val ?_
                        refine .val ?_
                        refine .lenL (f := pv94) ?_
                        refine .val ?_
                        refine .brT ?_
                        refine .move ?_
                        refine .caseG (fun hc50 => ?_) (fun hc50 => ?_)
                        · replace h := (if_pos hc50).symm.trans h
                          refine .val ?_
                          refine .val ?_
                          refine .lenL (f := pv94) ?_
                          refine .val ?_
                          refine .brT ?_
                          refine .move ?_
                          refine .caseG (fun hc51 => ?_) (fun hc51 => ?_)
                          · replace h := (if_pos hc51).symm.trans h
                            refine .val ?_
                            refine .val ?_
                            obtain ⟨y52, hy52, h⟩ := bindE h
                            refine .cP (g93 hy52) ?_
                            refine .brT ?_
                            refine .assign ?_
                            refine .nil ?_
                            cases h
                            exact .ret (fin_gen0 none)
                          · replace h := (if_neg (nt hc51)).symm.trans h
                            refine .skip ?_
                            refine .skip ?_
                            refine .skip ?_
                            refine .brF ?_
                            refine .assign ?_
                            refine .nil ?_
                            cases h
                            exact .ret (fin_gen0 none)
                        · replace h := (if_neg (nt hc50)).symm.trans h
                          refine .skip ?_
                          refine .skip ?_
                          refine .skip ?_
                          refine .skip ?_
                          refine .brF ?_
                          refine .move ?_
                          refine .skip ?_
                          refine .skip ?_
                          refine .skip ?_
                          refine .brF ?_
                          refine .assign ?_
                          refine .nil ?_
                          cases h
                          exact .ret (fin_gen0 none)
                      · replace h := (if_neg (nt hc49)).symm.trans h
                        refine .skip ?_
                        refine .skip ?_
                        refine .skip ?_
                        refine .skip ?_
                        refine .brF ?_
                        refine .move ?_
                        refine .skip ?_
                        refine .skip ?_
                        refine .skip ?_
                        refine .skip ?_
                        refine .brF ?_
                        refine .move ?_
                        refine .skip ?_
                        refine .skip ?_
                        refine .skip ?_
                        refine .brF ?_
                        refine .assign ?_
                        refine .nil ?_
                        cases h
                        exact .ret (fin_gen0 none)
                    · replace h := (if_neg (nt hc48)).symm.trans h
                      refine .skip ?_
                      refine .skip ?_
                      refine .skip ?_
                      refine .brF ?_
                      refine .move ?_
                      refine .skip ?_
                      refine .skip ?_
                      refine .skip ?_
                      refine .skip ?_
                      refine .brF ?_
                      refine .move ?_
                      refine .skip ?_
                      refine .skip ?_
                      refine .skip ?_
                      refine .skip ?_
                      refine .brF ?_
                      refine .move ?_
                      refine .skip ?_
                      refine .skip ?_
                      refine .skip ?_
                      refine .brF ?_
                      refine .assign ?_
                      refine .nil ?_
                      cases h
                      exact .ret (fin_gen0 none)
                  · replace h := (if_neg (nt hc47)).symm.trans h
                    refine .skip ?_
                    refine .skip ?_
                    refine .skip ?_
                    refine .brF ?_
                    refine .move ?_
                    refine .skip ?_
                    refine .skip ?_
                    refine .skip ?_
                    refine .brF ?_
                    refine .move ?_
                    refine .skip ?_
                    refine .skip ?_
                    refine .skip ?_
                    refine .skip ?_
                    refine .brF ?_
                    refine .move ?_
                    refine .skip ?_
                    refine .skip ?_
                    refine .skip ?_
                    refine .skip ?_
                    refine .brF ?_
                    refine .move ?_
                    refine .skip ?_
                    refine .skip ?_
                    refine .skip ?_
                    refine .brF ?_
                    refine .assign ?_
                    refine .nil ?_
                    cases h
                    exact .ret (fin_gen0 none)
                · replace h := (if_neg (nt hc46)).symm.trans h
                  refine .skip ?_
                  refine .skip ?_
                  refine .skip ?_
                  refine .brF ?_
                  refine .move ?_
                  refine .skip ?_
                  refine .skip ?_
                  refine .skip ?_
                  refine .brF ?_
                  refine .move ?_
                  refine .skip ?_
                  refine .skip ?_
                  refine .skip ?_
                  refine .brF ?_
                  refine .move ?_
                  refine .skip ?_
                  refine .skip ?_
                  refine .skip ?_
                  refine .skip ?_
                  refine .brF ?_
                  refine .move ?_
                  refine .skip ?_
                  refine .skip ?_
                  refine .skip ?_
                  refine .skip ?_
                  refine .brF ?_
                  refine .move ?_
                  refine .skip ?_
                  refine .skip ?_
                  refine .skip ?_
                  refine .brF ?_
                  refine .assign ?_
                  refine .nil ?_
                  cases h
                  exact .ret (fin_gen0 none)
              · replace h := (if_neg (nt hc45)).symm.trans h
                refine .skip ?_
                refine .skip ?_
                refine .skip ?_
                refine .brF ?_
                refine .move ?_
                refine .skip ?_
                refine .skip ?_
                refine .skip ?_
                refine .brF ?_
                refine .move ?_
                refine .skip ?_
                refine .skip ?_
                refine .skip ?_
                refine .brF ?_
                refine .move ?_
                refine .skip ?_
                refine .skip ?_
                refine .skip ?_
                refine .brF ?_
                refine .move ?_
                refine .skip ?_
                refine .skip ?_
                refine .skip ?_
                refine .skip ?_
                refine .brF ?_
                refine .move ?_
                refine .skip ?_
                refine .skip ?_
                refine .skip ?_
                refine .skip ?_
                refine .brF ?_
                refine .move ?_
                refine .skip ?_
                refine .skip ?_
                refine .skip ?_
                refine .brF ?_
                refine .assign ?_
                refine .nil ?_
                cases h
                exact .ret (fin_gen0 none)
            · replace h := (if_neg (nt hc44)).symm.trans h
              refine .skip ?_
              refine .skip ?_
              refine .skip ?_
              refine .brF ?_
              refine .move ?_
              refine .skip ?_
              refine .skip ?_
              refine .skip ?_
              refine .brF ?_
              refine .move ?_
              refine .skip ?_
              refine .skip ?_
              refine .skip ?_
              refine .brF ?_
              refine .move ?_
              refine .skip ?_
              refine .skip ?_
              refine .skip ?_
              refine .brF ?_
              refine .move ?_
              refine .skip ?_
              refine .skip ?_
              refine .skip ?_
              refine .brF ?_
              refine .move ?_
              refine .skip ?_
              refine .skip ?_
              refine .skip ?_
              refine .skip ?_
              refine .brF ?_
              refine .move ?_
              refine .skip ?_
              refine .skip ?_
              refine .skip ?_
              refine .skip ?_
              refine .brF ?_
              refine .move ?_
              refine .skip ?_
              refine .skip ?_
              refine .skip ?_
              refine .brF ?_
              refine .assign ?_
              refine .nil ?_
              cases h
              exact .ret (fin_gen0 none)
          · replace h := (if_neg (nt hc43)).symm.trans h
            refine .skip ?_
            refine .skip ?_
            refine .skip ?_
            refine .brF ?_
            refine .move ?_
            refine .skip ?_
            refine .skip ?_
            refine .skip ?_
            refine .brF ?_
            refine .move ?_
            refine .skip ?_
            refine .skip ?_
            refine .skip ?_
            refine .brF ?_
            refine .move ?_
            refine .skip ?_
            refine .skip ?_
            refine .skip ?_
            refine .brF ?_
            refine .move ?_
            refine .skip ?_
            refine .skip ?_
            refine .skip ?_
            refine .brF ?_
            refine .move ?_
            refine .skip ?_
            refine .skip ?_
            refine .skip ?_
            refine .brF ?_
            refine .move ?_
            refine .skip ?_
            refine .skip ?_
            refine .skip ?_
            refine .skip ?_
            refine .brF ?_
            refine .move ?_
            refine .skip ?_
            refine .skip ?_
            refine .skip ?_
            refine .skip ?_
            refine .brF ?_
            refine .move ?_
            refine .skip ?_
            refine .skip ?_
            refine .skip ?_
            refine .brF ?_
            refine .assign ?_
            refine .nil ?_
            cases h
            exact .ret (fin_gen0 none)
        · replace h := (if_neg (nt hc42)).symm.trans h
          refine .skip ?_
          refine .skip ?_
          refine .skip ?_
          refine .brF ?_
          refine .move ?_
          refine .skip ?_
          refine .skip ?_
          refine .skip ?_
          refine .brF ?_
          refine .move ?_
          refine .skip ?_
          refine .skip ?_
          refine .skip ?_
          refine .brF ?_
          refine .move ?_
          refine .skip ?_
          refine .skip ?_
          refine .skip ?_
          refine .brF ?_
          refine .move ?_
          refine .skip ?_
          refine .skip ?_
          refine .skip ?_
          refine .brF ?_
          refine .move ?_
          refine .skip ?_
          refine .skip ?_
          refine .skip ?_
          refine .brF ?_
          refine .move ?_
          refine .skip ?_
          refine .skip ?_
          refine .skip ?_
          refine .brF ?_
          refine .move ?_
          refine .skip ?_
          refine .skip ?_
          refine .skip ?_
          refine .skip ?_
          refine .brF ?_
          refine .move ?_
          refine .skip ?_
          refine .skip ?_
          refine .skip ?_
          refine .skip ?_
          refine .brF ?_
          refine .move ?_
          refine .skip ?_
          refine .skip ?_
          refine .skip ?_
          refine .brF ?_
          refine .assign ?_
          refine .nil ?_
          cases h
          exact .ret (fin_gen0 none)
      · replace h := (if_neg (nt hc41)).symm.trans h
        refine .skip ?_
        refine .skip ?_
        refine .skip ?_
        refine .brF ?_
        refine .move ?_
        refine .skip ?_
        refine .skip ?_
        refine .skip ?_
        refine .brF ?_
        refine .move ?_
        refine .skip ?_
        refine .skip ?_
        refine .skip ?_
        refine .brF ?_
        refine .move ?_
        refine .skip ?_
        refine .skip ?_
        refine .skip ?_
        refine .brF ?_
        refine .move ?_
        refine .skip ?_
        refine .skip ?_
        refine .skip ?_
        refine .brF ?_
        refine .move ?_
        refine .skip ?_
        refine .skip ?_
        refine .skip ?_
        refine .brF ?_
        refine .move ?_
        refine .skip ?_
        refine .skip ?_
        refine .skip ?_
        refine .brF ?_
        refine .move ?_
        refine .skip ?_
        refine .skip ?_
        refine .skip ?_
        refine .brF ?_
        refine .move ?_
        refine .skip ?_
        refine .skip ?_
        refine .skip ?_
        refine .skip ?_
        refine .brF ?_
        refine .move ?_
        refine .skip ?_
        refine .skip ?_
        refine .skip ?_
        refine .skip ?_
        refine .brF ?_
        refine .move ?_
        refine .skip ?_
        refine .skip ?_
        refine .skip ?_
        refine .brF ?_
        refine .assign ?_
        refine .nil ?_
        cases h
        exact .ret (fin_gen0 none)
  · replace h := (if_neg (nt hc28)).symm.trans h
    refine .skip ?_
    refine .skip ?_
    refine .skip ?_
    refine .skip ?_
    refine .skip ?_
    refine .skip ?_
    refine .skip ?_
    refine .skip ?_
    refine .brF ?_
    refine .move ?_
    refine .skip ?_
    refine .skip ?_
    refine .skip ?_
    refine .brF ?_
    refine .move ?_
    refine .skip ?_
    refine .skip ?_
    refine .skip ?_
    refine .brF ?_
    refine .move ?_
    refine .skip ?_
    refine .skip ?_
    refine .skip ?_
    refine .brF ?_
    refine .move ?_
    refine .skip ?_
    refine .skip ?_
    refine .skip ?_
    refine .brF ?_
    refine .move ?_
    refine .skip ?_
    refine .skip ?_
    refine .skip ?_
    refine .brF ?_
    refine .move ?_
    refine .skip ?_
    refine .skip ?_
    refine .skip ?_
    refine .brF ?_
    refine .move ?_
    refine .skip ?_
    refine .skip ?_
    refine .skip ?_
    refine .brF ?_
    refine .move ?_
    refine .skip ?_
    refine .skip ?_
    refine .skip ?_
    refine .brF ?_
    refine .move ?_
    refine .skip ?_
    refine .skip ?_
    refine .skip ?_
    refine .skip ?_
    refine .brF ?_
    refine .move ?_
    refine .skip ?_
    refine .skip ?_
    refine .skip ?_
    refine .skip ?_
    refine .brF ?_
    refine .move ?_
    refine .skip ?_
    refine .skip ?_
    refine .skip ?_
    refine .brF ?_
    refine .assign ?_
    refine .nil ?_
    cases h
    exact .ret (fin_gen0 none)

/- soundservice/soundserviceref11.Encode -/
def f55_l3 (n : Nat) (j556 : (List Int) → Option ((List Int) × Int)) (x557 : (List Int)) : Nat → (List Int) → Int → Option ((List Int) × Int)
  | 0, _, _ => none
  | m569 + 1, v562, v563 =>
    if decide (v563 < (x557.length : Int)) then (
    (lAt x557 v563).bind fun x574 =>
    (f25 n v562 (IntKind.wrap .u16 (x574))).bind fun y575 =>
    f55_l3 n j556 x557 m569 y575 (w64 (v563 + (1 : Int))))
    else (
    j556 v562)
def f55_l2 (n : Nat) (x433 : Box) (j496 : (List Int) → Option ((List Int) × Int)) : Nat → (List Int) → Int → Option ((List Int) × Int)
  | 0, _, _ => none
  | m537 + 1, v515, v516 =>
    if decide (v516 < (x433.Maps.length : Int)) then (
    joinK (fun (v555 : (List Int)) =>
    f55_l2 n x433 j496 m537 v555 (w64 (v516 + (1 : Int)))) fun j556 =>
    (lAt x433.Maps v516).bind fun x557 =>
    (f25 n v515 (IntKind.wrap .u16 ((x557.length : Int)))).bind fun y558 =>
    f55_l3 n j556 x557 n y558 0)
    else (
    j496 v515)
def f55_l1 (n : Nat) (a0 : Descriptor) (j222 : (List Int) → Option ((List Int) × Int)) : Nat → (List Int) → Int → Option ((List Int) × Int)
  | 0, _, _ => none
  | m363 + 1, v291, v292 =>
    if decide (v292 < (a0.Boxes.length : Int)) then (
    joinK (fun (v431 : (List Int)) =>
    f55_l1 n a0 j222 m363 v431 (w64 (v292 + (1 : Int)))) fun j432 =>
    (lAt a0.Boxes v292).bind fun x433 =>
    (f25 n v291 (IntKind.wrap .u16 (x433.Kinds))).bind fun y434 =>
    (f89 n y434 (⟨x433.Rates⟩ : IntSet)).bind fun y435 =>
    (f25 n y435 (IntKind.wrap .u16 ((x433.Maps.length : Int)))).bind fun y436 =>
    joinK (fun (v495 : (List Int)) =>
    (f89 n v495 (⟨x433.Sizes⟩ : IntSet)).bind fun y576 =>
    j432 y576) fun j496 =>
    f55_l2 n x433 j496 n y436 0)
    else (
    j222 v291)
def f55 (n : Nat) (a0 : Descriptor) : Option ((List Int) × Int) :=
  (f57 n (⟨a0.ID, a0.Name, a0.Direction, a0.Domain, a0.Latency, a0.Drift, a0.Jitter, a0.Boxes⟩ : Descriptor)).bind fun y3 =>
  if !y3 then (
  some (([] : List Int), 1))
  else (
  (f29 n ([83, 78, 68, 49] : List Int) a0.ID).bind fun y5 =>
  (f23 n y5 a0.Name).bind fun y6 =>
  (f25 n y6.1 (IntKind.wrap .u16 (a0.Direction))).bind fun y7 =>
  (f25 n y7 (IntKind.wrap .u16 (a0.Domain))).bind fun y8 =>
  (f27 n y8 (IntKind.wrap .u32 (a0.Latency))).bind fun y9 =>
  (f25 n y9 (IntKind.wrap .u16 (a0.Drift))).bind fun y10 =>
  (f25 n y10 (IntKind.wrap .u16 (a0.Jitter))).bind fun y11 =>
  (f25 n y11 (IntKind.wrap .u16 ((a0.Boxes.length : Int)))).bind fun y12 =>
  joinK (fun (v221 : (List Int)) =>
  (f19 n v221).bind fun y577 =>
  (f27 n v221 y577).bind fun y578 =>
  some (y578, 0)) fun j222 =>
  f55_l1 n a0 j222 n y12 0)
set_option maxHeartbeats 4000000 in
set_option maxRecDepth 100000 in
theorem g55 {n : Nat} {a0 : Descriptor} {r : ((List Int) × Int)} (h : f55 n a0 = some r) :
    Ab.Can Try.prog 55 [.agg [.int .u64 a0.ID, .str a0.Name, .int .i64 a0.Direction, .int .i64 a0.Domain, .int .i64 a0.Latency, .int .i64 a0.Drift, .int .i64 a0.Jitter, .sl 94 .ro (a0.Boxes.map pv94)]] H0 (.tup [.sl 5 (.own (.rrow 0)) (r.1.map (PV.int .u8)), .int .i64 r.2]) H0 := by
  refine can_of tabOK mix Try.call55 Try.func55 rfl (by kernel_rfl) (by show _ ≤ 109; simp) fun _ => ?_
  rw [f55] at h
  refine .seq ?_
  refine .region ?_
  refine .boxL (cs := [.int .u64 a0.ID, .str a0.Name, .int .i64 a0.Direction, .int .i64 a0.Domain, .int .i64 a0.Latency, .int .i64 a0.Drift, .int .i64 a0.Jitter, .sl 94 .ro (a0.Boxes.map pv94)]) ?_
  refine .assign ?_
  refine .assign ?_
  refine .nil ?_
  refine .seq ?_
  refine .seq ?_
  refine .region ?_
  refine .val (v := .agg [.int .u64 a0.ID, .str a0.Name, .int .i64 a0.Direction, .int .i64 a0.Domain, .int .i64 a0.Latency, .int .i64 a0.Drift, .int .i64 a0.Jitter, .sl 94 .ro (a0.Boxes.map pv94)]) ?_
  obtain ⟨y3, hy3, h⟩ := bindE h
  refine .cP (g57 hy3) ?_
  refine .val ?_
  refine .nil ?_
  refine .cond (fun hc4 => ?_) (fun hc4 => ?_)
  · replace h := (if_pos hc4).symm.trans h
    refine .seq ?_
    refine .region ?_
    refine .assign ?_
    refine .assign ?_
    refine .nil ?_
    cases h
    refine .imp (Imp.slot 2 (v := .sl 5 (.own (.row 0 0)) (([] : List Int).map (PV.int .u8))) (.own _ (.row 0 0)) rfl) ?_
    exact .ret (fin_gen0 (some (.row 0 0)))
  · replace h := (if_neg (nt hc4)).symm.trans h
    refine .skip ?_
    refine .seq ?_
    refine .region ?_
    refine .litL (f := (PV.int .u8)) ([83, 78, 68, 49] : List Int) ?_
    refine .sameL (f := (PV.int .u8)) (xs := ([83, 78, 68, 49] : List Int)) ?_
    refine .val ?_
    refine .val ?_
    obtain ⟨y5, hy5, h⟩ := bindE h
    refine .cP (g29r hy5) ?_
    refine .assign ?_
    refine .nil ?_
    refine .seq ?_
    refine .region ?_
    refine .move ?_
    refine .val ?_
    refine .val ?_
    obtain ⟨y6, hy6, h⟩ := bindE h
    refine .cP (g23r hy6) ?_
    refine .move ?_
    refine .val ?_
    refine .val ?_
    refine .assign ?_
    refine .nil ?_
    refine .imp (T := St.of [(1, .ptr (.loc 0 0) 0), (4, .sl 5 .ro (y6.1.map (PV.int .u8)))] [((.loc 0 0), [.int .u64 a0.ID, .str a0.Name, .int .i64 a0.Direction, .int .i64 a0.Domain, .int .i64 a0.Latency, .int .i64 a0.Drift, .int .i64 a0.Jitter, .sl 94 .ro (a0.Boxes.map pv94)])]) (imp_of (.cons rfl (.cons rfl (.nil))) (.cons rfl (.nil))) ?_
    refine .seq ?_
    obtain ⟨y7, hy7, h⟩ := bindE h
    obtain ⟨y8, hy8, h⟩ := bindE h
    refine .draw [] [[], [], [], [], [], [], [], [], [], []] [[], [], [], [], [], [], [], [], [], []] [[]]
      [(0, 0), (1, 0), (2, 0), (3, 0), (4, 0), (5, 0), (6, 0), (7, 0), (8, 0), (9, 0)] [] 0
      [⟨[(26, .sl 5 .ro (y6.1.map (PV.int .u8))), (27, .ptr (.loc 0 0) 2), (28, .int .i64 a0.Direction), (29, .int .u16 (IntKind.wrap .u16 (a0.Direction))), (30, .sl 5 .ro (y7.map (PV.int .u8))), (31, .ptr (.loc 0 0) 3), (32, .int .i64 a0.Domain), (33, .int .u16 (IntKind.wrap .u16 (a0.Domain))), (34, .sl 5 .ro (y8.map (PV.int .u8))), (4, .sl 5 .ro (y8.map (PV.int .u8))), (1, .ptr (.loc 0 0) 0)], [(4, .sl 5 .ro (y6.1.map (PV.int .u8)))], [((.loc 0 0), [.int .u64 a0.ID, .str a0.Name, .int .i64 a0.Direction, .int .i64 a0.Domain, .int .i64 a0.Latency, .int .i64 a0.Drift, .int .i64 a0.Jitter, .sl 94 .ro (a0.Boxes.map pv94)])]⟩]
      [(1, .ptr (.loc 0 0) 0)]
      (.cons [] [4] (fun _ _ h => .move (h _)) rfl rfl <|
      .cons [1] [] (fun _ _ h => .val (h _)) rfl rfl <|
      .cons [27] [] (fun _ _ h => .val (h _)) rfl rfl <|
      .cons [28] [] (fun _ _ h => .val (h _)) rfl rfl <|
      .cons [26, 29] [] (fun _ _ h => .cP (g25r hy7) (h _)) rfl rfl <|
      .cons [1] [] (fun _ _ h => .val (h _)) rfl rfl <|
      .cons [31] [] (fun _ _ h => .val (h _)) rfl rfl <|
      .cons [32] [] (fun _ _ h => .val (h _)) rfl rfl <|
      .cons [30, 33] [] (fun _ _ h => .cP (g25r hy8) (h _)) rfl rfl <|
      .cons [34] [] (fun _ _ h => .assign (h _)) rfl rfl <|
      .nil)
      (.nil)
      (by kernel_rfl) rfl (.cons rfl (.nil)) (.cons rfl (.nil)) (.cons rfl (.nil)) ?_
    refine .imp (T := St.of [(1, .ptr (.loc 0 0) 0), (4, .sl 5 .ro (y8.map (PV.int .u8)))] [((.loc 0 0), [.int .u64 a0.ID, .str a0.Name, .int .i64 a0.Direction, .int .i64 a0.Domain, .int .i64 a0.Latency, .int .i64 a0.Drift, .int .i64 a0.Jitter, .sl 94 .ro (a0.Boxes.map pv94)])]) (imp_of (.cons rfl (.cons rfl (.nil))) (.cons rfl (.nil))) ?_
    refine .seq ?_
    refine .region ?_
    refine .move ?_
    refine .val ?_
    refine .val ?_
    refine .val ?_
    obtain ⟨y9, hy9, h⟩ := bindE h
    refine .cP (g27r hy9) ?_
    refine .assign ?_
    refine .nil ?_
    refine .seq ?_
    obtain ⟨y10, hy10, h⟩ := bindE h
    obtain ⟨y11, hy11, h⟩ := bindE h
    refine .draw [] [[], [], [], [], [], [], [], [], [], []] [[], [], [], [], [], [], [], [], [], []] [[]]
      [(0, 0), (1, 0), (2, 0), (3, 0), (4, 0), (5, 0), (6, 0), (7, 0), (8, 0), (9, 0)] [] 0
      [⟨[(40, .sl 5 .ro (y9.map (PV.int .u8))), (41, .ptr (.loc 0 0) 5), (42, .int .i64 a0.Drift), (43, .int .u16 (IntKind.wrap .u16 (a0.Drift))), (44, .sl 5 .ro (y10.map (PV.int .u8))), (45, .ptr (.loc 0 0) 6), (46, .int .i64 a0.Jitter), (47, .int .u16 (IntKind.wrap .u16 (a0.Jitter))), (48, .sl 5 .ro (y11.map (PV.int .u8))), (4, .sl 5 .ro (y11.map (PV.int .u8))), (1, .ptr (.loc 0 0) 0)], [(4, .sl 5 .ro (y9.map (PV.int .u8)))], [((.loc 0 0), [.int .u64 a0.ID, .str a0.Name, .int .i64 a0.Direction, .int .i64 a0.Domain, .int .i64 a0.Latency, .int .i64 a0.Drift, .int .i64 a0.Jitter, .sl 94 .ro (a0.Boxes.map pv94)])]⟩]
      [(1, .ptr (.loc 0 0) 0)]
      (.cons [] [4] (fun _ _ h => .move (h _)) rfl rfl <|
      .cons [1] [] (fun _ _ h => .val (h _)) rfl rfl <|
      .cons [41] [] (fun _ _ h => .val (h _)) rfl rfl <|
      .cons [42] [] (fun _ _ h => .val (h _)) rfl rfl <|
      .cons [40, 43] [] (fun _ _ h => .cP (g25r hy10) (h _)) rfl rfl <|
      .cons [1] [] (fun _ _ h => .val (h _)) rfl rfl <|
      .cons [45] [] (fun _ _ h => .val (h _)) rfl rfl <|
      .cons [46] [] (fun _ _ h => .val (h _)) rfl rfl <|
      .cons [44, 47] [] (fun _ _ h => .cP (g25r hy11) (h _)) rfl rfl <|
      .cons [48] [] (fun _ _ h => .assign (h _)) rfl rfl <|
      .nil)
      (.nil)
      (by kernel_rfl) rfl (.cons rfl (.nil)) (.cons rfl (.nil)) (.cons rfl (.nil)) ?_
    refine .imp (T := St.of [(1, .ptr (.loc 0 0) 0), (4, .sl 5 .ro (y11.map (PV.int .u8)))] [((.loc 0 0), [.int .u64 a0.ID, .str a0.Name, .int .i64 a0.Direction, .int .i64 a0.Domain, .int .i64 a0.Latency, .int .i64 a0.Drift, .int .i64 a0.Jitter, .sl 94 .ro (a0.Boxes.map pv94)])]) (imp_of (.cons rfl (.cons rfl (.nil))) (.cons rfl (.nil))) ?_
    refine .seq ?_
    refine .region ?_
    refine .move ?_
    refine .val ?_
    refine .val ?_
    refine .lenL (f := pv94) ?_
    refine .val ?_
    obtain ⟨y12, hy12, h⟩ := bindE h
    refine .cP (g25r hy12) ?_
    refine .assign ?_
    refine .nil ?_
    obtain ⟨j222, hj222, h⟩ := joinE h
    refine .cutI (fun T => (∃ (v221 : (List Int)), T = St.of [(4, .sl 5 .ro (v221.map (PV.int .u8)))] [] ∧ j222 v221 = some r)) ?_ ?_
    · refine .seq ?_
      refine .region ?_
      refine .val ?_
      refine .val ?_
      refine .lenL (f := pv94) ?_
      refine .move ?_
      refine .nil ?_
      refine .block ?_
      refine .loopI (fun m T => ∃ (v291 : (List Int)) (v292 : Int), T = St.of [(4, .sl 5 .ro (v291.map (PV.int .u8))), (56, .sl 94 .ro (a0.Boxes.map pv94)), (57, .int .i64 (a0.Boxes.length : Int)), (58, .int .i64 v292)] [] ∧ f55_l1 n a0 j222 m v291 v292 = some r) _ _ ⟨_, _, rfl, h⟩ (imp_of (.cons rfl (.cons rfl (.cons rfl (.cons rfl (.nil))))) (.nil)) ?_
      rintro m363 T ⟨v291, v292, rfl, h⟩
      obtain _ | m363 := m363
      · rw [f55_l1] at h; cases h
      rw [f55_l1] at h
      refine .seq ?_
      refine .region ?_
      refine .val ?_
      refine .nil ?_
      refine .seq ?_
      refine .cond (fun hc365 => ?_) (fun hc365 => ?_)
      · replace h := (if_pos hc365).symm.trans h
        refine .skip ?_
        obtain ⟨j432, hj432, h⟩ := joinE h
        refine .cutI (fun T => (∃ (v431 : (List Int)), T = St.of [(4, .sl 5 .ro (v431.map (PV.int .u8))), (56, .sl 94 .ro (a0.Boxes.map pv94)), (57, .int .i64 (a0.Boxes.length : Int)), (58, .int .i64 v292)] [] ∧ j432 v431 = some r)) ?_ ?_
        · refine .block ?_
          refine .seq ?_
          refine .region ?_
          obtain ⟨x433, hx433, h⟩ := bindE h
          refine .idxL (f := pv94) hx433 ?_
          refine .ldL hx433 (y := .agg [.int .i64 x433.Kinds, .sl 124 .ro (x433.Rates.map pv124), .sl 59 .ro (x433.Maps.map pv59), .sl 124 .ro (x433.Sizes.map pv124)]) ?_
          refine .allocL (cs := [.int .i64 0, .sl 124 .full [], .sl 59 .full [], .sl 124 .full []]) ?_
          refine .wrL (cs := [.int .i64 x433.Kinds, .sl 124 .ro (x433.Rates.map pv124), .sl 59 .ro (x433.Maps.map pv59), .sl 124 .ro (x433.Sizes.map pv124)]) ?_
          refine .nil ?_
          refine .seq ?_
          obtain ⟨y434, hy434, h⟩ := bindE h
          obtain ⟨y435, hy435, h⟩ := bindE h
          refine .draw [] [[], [], [], [], [], [], [], [], []] [[], [], [], [], [], [], [], [], []] [[]]
            [(0, 0), (1, 0), (2, 0), (3, 0), (4, 0), (5, 0), (6, 0), (7, 0), (8, 0)] [] 0
            [⟨[(62, .sl 5 .ro (v291.map (PV.int .u8))), (63, .ptr (.loc 11 2) 0), (64, .int .i64 x433.Kinds), (65, .int .u16 (IntKind.wrap .u16 (x433.Kinds))), (66, .sl 5 .ro (y434.map (PV.int .u8))), (67, .ptr (.loc 11 2) 1), (68, .agg [.sl 124 .ro (x433.Rates.map pv124)]), (69, .sl 5 .ro (y435.map (PV.int .u8))), (4, .sl 5 .ro (y435.map (PV.int .u8))), (6, .ptr (.loc 11 2) 0), (56, .sl 94 .ro (a0.Boxes.map pv94)), (57, .int .i64 (a0.Boxes.length : Int)), (58, .int .i64 v292)], [(4, .sl 5 .ro (v291.map (PV.int .u8)))], [((.loc 11 2), [.int .i64 x433.Kinds, .sl 124 .ro (x433.Rates.map pv124), .sl 59 .ro (x433.Maps.map pv59), .sl 124 .ro (x433.Sizes.map pv124)])]⟩]
            [(6, .ptr (.loc 11 2) 0), (56, .sl 94 .ro (a0.Boxes.map pv94)), (57, .int .i64 (a0.Boxes.length : Int)), (58, .int .i64 v292)]
            (.cons [] [4] (fun _ _ h => .move (h _)) rfl rfl <|
            .cons [6] [] (fun _ _ h => .val (h _)) rfl rfl <|
            .cons [63] [] (fun _ _ h => .val (h _)) rfl rfl <|
            .cons [64] [] (fun _ _ h => .val (h _)) rfl rfl <|
            .cons [62, 65] [] (fun _ _ h => .cP (g25r hy434) (h _)) rfl rfl <|
            .cons [6] [] (fun _ _ h => .val (h _)) rfl rfl <|
            .cons [67] [] (fun _ _ h => .val (h _)) rfl rfl <|
            .cons [66, 68] [] (fun _ _ h => .cP (g89r hy435) (h _)) rfl rfl <|
            .cons [69] [] (fun _ _ h => .assign (h _)) rfl rfl <|
            .nil)
            (.nil)
            (by kernel_rfl) rfl (.cons rfl (.cons rfl (.cons rfl (.cons rfl (.nil))))) (.cons rfl (.nil)) (.cons rfl (.nil)) ?_
          refine .imp (T := St.of [(4, .sl 5 .ro (y435.map (PV.int .u8))), (6, .ptr (.loc 11 2) 0), (56, .sl 94 .ro (a0.Boxes.map pv94)), (57, .int .i64 (a0.Boxes.length : Int)), (58, .int .i64 v292)] [((.loc 11 2), [.int .i64 x433.Kinds, .sl 124 .ro (x433.Rates.map pv124), .sl 59 .ro (x433.Maps.map pv59), .sl 124 .ro (x433.Sizes.map pv124)])]) (imp_of (.cons rfl (.cons rfl (.cons rfl (.cons rfl (.cons rfl (.nil)))))) (.cons rfl (.nil))) ?_
          refine .seq ?_
          refine .region ?_
          refine .move ?_
          refine .val ?_
          refine .val ?_
          refine .lenL (f := pv59) ?_
          refine .val ?_
          obtain ⟨y436, hy436, h⟩ := bindE h
          refine .cP (g25r hy436) ?_
          refine .assign ?_
          refine .nil ?_
          obtain ⟨j496, hj496, h⟩ := joinE h
          refine .cutI (fun T => (∃ (v495 : (List Int)), T = St.of [(4, .sl 5 .ro (v495.map (PV.int .u8))), (6, .ptr (.loc 11 2) 0), (56, .sl 94 .ro (a0.Boxes.map pv94)), (57, .int .i64 (a0.Boxes.length : Int)), (58, .int .i64 v292)] [((.loc 11 2), [.int .i64 x433.Kinds, .sl 124 .ro (x433.Rates.map pv124), .sl 59 .ro (x433.Maps.map pv59), .sl 124 .ro (x433.Sizes.map pv124)])] ∧ j496 v495 = some r)) ?_ ?_
          · refine .seq ?_
            refine .region ?_
            refine .val ?_
            refine .val ?_
            refine .lenL (f := pv59) ?_
            refine .move ?_
            refine .nil ?_
            refine .block ?_
            refine .loopI (fun m T => ∃ (v515 : (List Int)) (v516 : Int), T = St.of [(4, .sl 5 .ro (v515.map (PV.int .u8))), (6, .ptr (.loc 11 2) 0), (56, .sl 94 .ro (a0.Boxes.map pv94)), (57, .int .i64 (a0.Boxes.length : Int)), (58, .int .i64 v292), (77, .sl 59 .ro (x433.Maps.map pv59)), (78, .int .i64 (x433.Maps.length : Int)), (79, .int .i64 v516)] [((.loc 11 2), [.int .i64 x433.Kinds, .sl 124 .ro (x433.Rates.map pv124), .sl 59 .ro (x433.Maps.map pv59), .sl 124 .ro (x433.Sizes.map pv124)])] ∧ f55_l2 n x433 j496 m v515 v516 = some r) _ _ ⟨_, _, rfl, h⟩ (imp_of (.cons rfl (.cons rfl (.cons rfl (.cons rfl (.cons rfl (.cons rfl (.cons rfl (.cons rfl (.nil))))))))) (.cons rfl (.nil))) ?_
            rintro m537 T ⟨v515, v516, rfl, h⟩
            obtain _ | m537 := m537
            · rw [f55_l2] at h; cases h
            rw [f55_l2] at h
            refine .seq ?_
            refine .region ?_
            refine .val ?_
            refine .nil ?_
            refine .seq ?_
            refine .cond (fun hc539 => ?_) (fun hc539 => ?_)
            · replace h := (if_pos hc539).symm.trans h
              refine .skip ?_
              obtain ⟨j556, hj556, h⟩ := joinE h
              refine .cutI (fun T => (∃ (v555 : (List Int)), T = St.of [(4, .sl 5 .ro (v555.map (PV.int .u8))), (6, .ptr (.loc 11 2) 0), (56, .sl 94 .ro (a0.Boxes.map pv94)), (57, .int .i64 (a0.Boxes.length : Int)), (58, .int .i64 v292), (77, .sl 59 .ro (x433.Maps.map pv59)), (78, .int .i64 (x433.Maps.length : Int)), (79, .int .i64 v516)] [((.loc 11 2), [.int .i64 x433.Kinds, .sl 124 .ro (x433.Rates.map pv124), .sl 59 .ro (x433.Maps.map pv59), .sl 124 .ro (x433.Sizes.map pv124)])] ∧ j556 v555 = some r)) ?_ ?_
              · refine .block ?_
                refine .seq ?_
                refine .region ?_
                obtain ⟨x557, hx557, h⟩ := bindE h
                refine .idxL (f := pv59) hx557 ?_
                refine .ldL hx557 (y := .sl 3 .ro (x557.map (PV.int .i64))) ?_
                refine .assign ?_
                refine .nil ?_
                refine .seq ?_
                refine .region ?_
                refine .move ?_
                refine .move ?_
                refine .lenL (f := (PV.int .i64)) ?_
                refine .val ?_
                obtain ⟨y558, hy558, h⟩ := bindE h
                refine .cP (g25r hy558) ?_
                refine .assign ?_
                refine .nil ?_
                refine .seq ?_
                refine .region ?_
                refine .move ?_
                refine .lenL (f := (PV.int .i64)) ?_
                refine .move ?_
                refine .nil ?_
                refine .block ?_
                refine .loopI (fun m T => ∃ (v562 : (List Int)) (v563 : Int), T = St.of [(4, .sl 5 .ro (v562.map (PV.int .u8))), (6, .ptr (.loc 11 2) 0), (56, .sl 94 .ro (a0.Boxes.map pv94)), (57, .int .i64 (a0.Boxes.length : Int)), (58, .int .i64 v292), (77, .sl 59 .ro (x433.Maps.map pv59)), (78, .int .i64 (x433.Maps.length : Int)), (79, .int .i64 v516), (88, .sl 3 .ro (x557.map (PV.int .i64))), (89, .int .i64 (x557.length : Int)), (90, .int .i64 v563)] [((.loc 11 2), [.int .i64 x433.Kinds, .sl 124 .ro (x433.Rates.map pv124), .sl 59 .ro (x433.Maps.map pv59), .sl 124 .ro (x433.Sizes.map pv124)])] ∧ f55_l3 n j556 x557 m v562 v563 = some r) _ _ ⟨_, _, rfl, h⟩ (imp_of (.cons rfl (.cons rfl (.cons rfl (.cons rfl (.cons rfl (.cons rfl (.cons rfl (.cons rfl (.cons rfl (.cons rfl (.cons rfl (.nil)))))))))))) (.cons rfl (.nil))) ?_
                rintro m569 T ⟨v562, v563, rfl, h⟩
                obtain _ | m569 := m569
                · rw [f55_l3] at h; cases h
                rw [f55_l3] at h
                refine .seq ?_
                refine .region ?_
                refine .val ?_
                refine .nil ?_
                refine .seq ?_
                refine .cond (fun hc571 => ?_) (fun hc571 => ?_)
                · replace h := (if_pos hc571).symm.trans h
                  refine .skip ?_
                  refine .seq ?_
                  refine .block ?_
                  refine .seq ?_
                  refine .region ?_
                  obtain ⟨x574, hx574, h⟩ := bindE h
                  refine .idxL (f := (PV.int .i64)) hx574 ?_
                  refine .ldL hx574 (y := .int .i64 x574) ?_
                  refine .assign ?_
                  refine .nil ?_
                  refine .region ?_
                  refine .move ?_
                  refine .move ?_
                  refine .val ?_
                  obtain ⟨y575, hy575, h⟩ := bindE h
                  refine .cP (g25r hy575) ?_
                  refine .assign ?_
                  refine .nil ?_
                  refine .region ?_
                  refine .val ?_
                  refine .move ?_
                  refine .nil ?_
                  exact ⟨m569, _, Nat.lt_succ_self m569, ⟨_, _, rfl, h⟩, (imp_of (.cons rfl (.cons rfl (.cons rfl (.cons rfl (.cons rfl (.cons rfl (.cons rfl (.cons rfl (.cons rfl (.cons rfl (.cons rfl (.nil)))))))))))) (.cons rfl (.nil)))⟩
                · replace h := (if_neg (nt hc571)).symm.trans h
                  refine .exit (.hit ?_)
                  exact ⟨_, ⟨_, rfl, h⟩, (imp_of (.cons rfl (.cons rfl (.cons rfl (.cons rfl (.cons rfl (.cons rfl (.cons rfl (.cons rfl (.nil))))))))) (.cons rfl (.nil)))⟩
              · rintro T ⟨v555, rfl, h⟩
                subst hj556
                refine .region ?_
                refine .val ?_
                refine .move ?_
                refine .nil ?_
                exact ⟨m537, _, Nat.lt_succ_self m537, ⟨_, _, rfl, h⟩, (imp_of (.cons rfl (.cons rfl (.cons rfl (.cons rfl (.cons rfl (.cons rfl (.cons rfl (.cons rfl (.nil))))))))) (.cons rfl (.nil)))⟩
            · replace h := (if_neg (nt hc539)).symm.trans h
              refine .exit (.hit ?_)
              exact ⟨_, ⟨_, rfl, h⟩, (imp_of (.cons rfl (.cons rfl (.cons rfl (.cons rfl (.cons rfl (.nil)))))) (.cons rfl (.nil)))⟩
          · rintro T ⟨v495, rfl, h⟩
            subst hj496
            refine .region ?_
            refine .move ?_
            refine .val ?_
            refine .val (v := .agg [.sl 124 .ro (x433.Sizes.map pv124)]) ?_
            obtain ⟨y576, hy576, h⟩ := bindE h
            refine .cP (g89r hy576) ?_
            refine .assign ?_
            refine .nil ?_
            exact ⟨_, ⟨_, rfl, h⟩, (imp_of (.cons rfl (.cons rfl (.cons rfl (.cons rfl (.nil))))) (.nil))⟩
        · rintro T ⟨v431, rfl, h⟩
          subst hj432
          refine .region ?_
          refine .val ?_
          refine .move ?_
          refine .nil ?_
          exact ⟨m363, _, Nat.lt_succ_self m363, ⟨_, _, rfl, h⟩, (imp_of (.cons rfl (.cons rfl (.cons rfl (.cons rfl (.nil))))) (.nil))⟩
      · replace h := (if_neg (nt hc365)).symm.trans h
        refine .exit (.hit ?_)
        exact ⟨_, ⟨_, rfl, h⟩, (imp_of (.cons rfl (.nil)) (.nil))⟩
    · rintro T ⟨v221, rfl, h⟩
      subst hj222
      refine .seq ?_
      refine .region ?_
      refine .move ?_
      refine .move ?_
      obtain ⟨y577, hy577, h⟩ := bindE h
      refine .cP (g19 hy577) ?_
      obtain ⟨y578, hy578, h⟩ := bindE h
      refine .cO (.row 26 3) (g27 hy578) (u := .sl 5 (.own (.row 26 3)) (y578.map (PV.int .u8))) ?_
      refine .assign ?_
      refine .assign ?_
      refine .nil ?_
      cases h
      exact .ret (fin_gen0 (some (.row 26 3)))
theorem g55r {n : Nat} {a0 : Descriptor} {r : ((List Int) × Int)} (h : f55 n a0 = some r) :
    Ab.Can Try.prog 55 [.agg [.int .u64 a0.ID, .str a0.Name, .int .i64 a0.Direction, .int .i64 a0.Domain, .int .i64 a0.Latency, .int .i64 a0.Drift, .int .i64 a0.Jitter, .sl 94 .ro (a0.Boxes.map pv94)]] H0 (.tup [.sl 5 .ro (r.1.map (PV.int .u8)), .int .i64 r.2]) H0 := Can.frzR (hq := []) (g55 h)

/- soundservice/soundserviceref11.Same -/
def f59 (n : Nat) (a0 : Descriptor) (a1 : Descriptor) : Option Bool :=
  if (a0.ID == a1.ID) then (
  if sEq a0.Name a1.Name then (
  if (a0.Direction == a1.Direction) then (
  if (a0.Domain == a1.Domain) then (
  if (a0.Latency == a1.Latency) then (
  if (a0.Drift == a1.Drift) then (
  if (a0.Jitter == a1.Jitter) then (
  (f98 n a0.Boxes a1.Boxes).bind fun y16 =>
  some y16)
  else (
  some false))
  else (
  some false))
  else (
  some false))
  else (
  some false))
  else (
  some false))
  else (
  some false))
  else (
  some false)
set_option maxHeartbeats 4000000 in
set_option maxRecDepth 100000 in
theorem g59 {n : Nat} {a0 : Descriptor} {a1 : Descriptor} {r : Bool} (h : f59 n a0 a1 = some r) :
    Ab.Can Try.prog 59 [.agg [.int .u64 a0.ID, .str a0.Name, .int .i64 a0.Direction, .int .i64 a0.Domain, .int .i64 a0.Latency, .int .i64 a0.Drift, .int .i64 a0.Jitter, .sl 94 .ro (a0.Boxes.map pv94)], .agg [.int .u64 a1.ID, .str a1.Name, .int .i64 a1.Direction, .int .i64 a1.Domain, .int .i64 a1.Latency, .int .i64 a1.Drift, .int .i64 a1.Jitter, .sl 94 .ro (a1.Boxes.map pv94)]] H0 (.bool r) H0 := by
  refine can_of tabOK mix Try.call59 Try.func59 rfl (by kernel_rfl) (by show _ ≤ 59; simp) fun _ => ?_
  rw [f59] at h
  refine .seq ?_
  refine .region ?_
  refine .boxL (cs := [.int .u64 a0.ID, .str a0.Name, .int .i64 a0.Direction, .int .i64 a0.Domain, .int .i64 a0.Latency, .int .i64 a0.Drift, .int .i64 a0.Jitter, .sl 94 .ro (a0.Boxes.map pv94)]) ?_
  refine .boxL (cs := [.int .u64 a1.ID, .str a1.Name, .int .i64 a1.Direction, .int .i64 a1.Domain, .int .i64 a1.Latency, .int .i64 a1.Drift, .int .i64 a1.Jitter, .sl 94 .ro (a1.Boxes.map pv94)]) ?_
  refine .assign ?_
  refine .nil ?_
  refine .seq ?_
  refine .region ?_
  refine .val ?_
  refine .val ?_
  refine .val ?_
  refine .val ?_
  refine .val ?_
  refine .move ?_
  refine .caseG (fun hc9 => ?_) (fun hc9 => ?_)
  · replace h := (if_pos hc9).symm.trans h
    refine .val ?_
    refine .val ?_
    refine .val ?_
    refine .val ?_
    refine .val ?_
    refine .brT ?_
    refine .move ?_
    refine .caseG (fun hc10 => ?_) (fun hc10 => ?_)
    · replace h := (if_pos hc10).symm.trans h
      refine .val ?_
      refine .val ?_
      refine .val ?_
      refine .val ?_
      refine .val ?_
      refine .brT ?_
      refine .move ?_
      refine .caseG (fun hc11 => ?_) (fun hc11 => ?_)
      · replace h := (if_pos hc11).symm.trans h
        refine .val ?_
        refine .val ?_
        refine .val ?_
        refine .val ?_
        refine .val ?_
        refine .brT ?_
        refine .move ?_
        refine .caseG (fun hc12 => ?_) (fun hc12 => ?_)
        · replace h := (if_pos hc12).symm.trans h
          refine .val ?_
          refine .val ?_
          refine .val ?_
          refine .val ?_
          refine .val ?_
          refine .brT ?_
          refine .move ?_
          refine .caseG (fun hc13 => ?_) (fun hc13 => ?_)
          · replace h := (if_pos hc13).symm.trans h
            refine .val ?_
            refine .val ?_
            refine .val ?_
            refine .val ?_
            refine .val ?_
            refine .brT ?_
            refine .move ?_
            refine .caseG (fun hc14 => ?_) (fun hc14 => ?_)
            · replace h := (if_pos hc14).symm.trans h
              refine .val ?_
              refine .val ?_
              refine .val ?_
              refine .val ?_
              refine .val ?_
              refine .brT ?_
              refine .move ?_
              refine .caseG (fun hc15 => ?_) (fun hc15 => ?_)
              · replace h := (if_pos hc15).symm.trans h
                refine .val ?_
                refine .val ?_
                refine .val ?_
                refine .val ?_
                obtain ⟨y16, hy16, h⟩ := bindE h
                refine .cP (g98 hy16) ?_
                refine .brT ?_
                refine .assign ?_
                refine .nil ?_
                cases h
                exact .ret (fin_gen0 none)
              · replace h := (if_neg (nt hc15)).symm.trans h
                refine .skip ?_
                refine .skip ?_
                refine .skip ?_
                refine .skip ?_
                refine .skip ?_
                refine .brF ?_
                refine .assign ?_
                refine .nil ?_
                cases h
                exact .ret (fin_gen0 none)
            · replace h := (if_neg (nt hc14)).symm.trans h
              refine .skip ?_
              refine .skip ?_
              refine .skip ?_
              refine .skip ?_
              refine .skip ?_
              refine .brF ?_
              refine .move ?_
              refine .skip ?_
              refine .skip ?_
              refine .skip ?_
              refine .skip ?_
              refine .skip ?_
              refine .brF ?_
              refine .assign ?_
              refine .nil ?_
              cases h
              exact .ret (fin_gen0 none)
          · replace h := (if_neg (nt hc13)).symm.trans h
            refine .skip ?_
            refine .skip ?_
            refine .skip ?_
            refine .skip ?_
            refine .skip ?_
            refine .brF ?_
            refine .move ?_
            refine .skip ?_
            refine .skip ?_
            refine .skip ?_
            refine .skip ?_
            refine .skip ?_
            refine .brF ?_
            refine .move ?_
            refine .skip ?_
            refine .skip ?_
            refine .skip ?_
            refine .skip ?_
            refine .skip ?_
            refine .brF ?_
            refine .assign ?_
            refine .nil ?_
            cases h
            exact .ret (fin_gen0 none)
        · replace h := (if_neg (nt hc12)).symm.trans h
          refine .skip ?_
          refine .skip ?_
          refine .skip ?_
          refine .skip ?_
          refine .skip ?_
          refine .brF ?_
          refine .move ?_
          refine .skip ?_
          refine .skip ?_
          refine .skip ?_
          refine .skip ?_
          refine .skip ?_
          refine .brF ?_
          refine .move ?_
          refine .skip ?_
          refine .skip ?_
          refine .skip ?_
          refine .skip ?_
          refine .skip ?_
          refine .brF ?_
          refine .move ?_
          refine .skip ?_
          refine .skip ?_
          refine .skip ?_
          refine .skip ?_
          refine .skip ?_
          refine .brF ?_
          refine .assign ?_
          refine .nil ?_
          cases h
          exact .ret (fin_gen0 none)
      · replace h := (if_neg (nt hc11)).symm.trans h
        refine .skip ?_
        refine .skip ?_
        refine .skip ?_
        refine .skip ?_
        refine .skip ?_
        refine .brF ?_
        refine .move ?_
        refine .skip ?_
        refine .skip ?_
        refine .skip ?_
        refine .skip ?_
        refine .skip ?_
        refine .brF ?_
        refine .move ?_
        refine .skip ?_
        refine .skip ?_
        refine .skip ?_
        refine .skip ?_
        refine .skip ?_
        refine .brF ?_
        refine .move ?_
        refine .skip ?_
        refine .skip ?_
        refine .skip ?_
        refine .skip ?_
        refine .skip ?_
        refine .brF ?_
        refine .move ?_
        refine .skip ?_
        refine .skip ?_
        refine .skip ?_
        refine .skip ?_
        refine .skip ?_
        refine .brF ?_
        refine .assign ?_
        refine .nil ?_
        cases h
        exact .ret (fin_gen0 none)
    · replace h := (if_neg (nt hc10)).symm.trans h
      refine .skip ?_
      refine .skip ?_
      refine .skip ?_
      refine .skip ?_
      refine .skip ?_
      refine .brF ?_
      refine .move ?_
      refine .skip ?_
      refine .skip ?_
      refine .skip ?_
      refine .skip ?_
      refine .skip ?_
      refine .brF ?_
      refine .move ?_
      refine .skip ?_
      refine .skip ?_
      refine .skip ?_
      refine .skip ?_
      refine .skip ?_
      refine .brF ?_
      refine .move ?_
      refine .skip ?_
      refine .skip ?_
      refine .skip ?_
      refine .skip ?_
      refine .skip ?_
      refine .brF ?_
      refine .move ?_
      refine .skip ?_
      refine .skip ?_
      refine .skip ?_
      refine .skip ?_
      refine .skip ?_
      refine .brF ?_
      refine .move ?_
      refine .skip ?_
      refine .skip ?_
      refine .skip ?_
      refine .skip ?_
      refine .skip ?_
      refine .brF ?_
      refine .assign ?_
      refine .nil ?_
      cases h
      exact .ret (fin_gen0 none)
  · replace h := (if_neg (nt hc9)).symm.trans h
    refine .skip ?_
    refine .skip ?_
    refine .skip ?_
    refine .skip ?_
    refine .skip ?_
    refine .brF ?_
    refine .move ?_
    refine .skip ?_
    refine .skip ?_
    refine .skip ?_
    refine .skip ?_
    refine .skip ?_
    refine .brF ?_
    refine .move ?_
    refine .skip ?_
    refine .skip ?_
    refine .skip ?_
    refine .skip ?_
    refine .skip ?_
    refine .brF ?_
    refine .move ?_
    refine .skip ?_
    refine .skip ?_
    refine .skip ?_
    refine .skip ?_
    refine .skip ?_
    refine .brF ?_
    refine .move ?_
    refine .skip ?_
    refine .skip ?_
    refine .skip ?_
    refine .skip ?_
    refine .skip ?_
    refine .brF ?_
    refine .move ?_
    refine .skip ?_
    refine .skip ?_
    refine .skip ?_
    refine .skip ?_
    refine .skip ?_
    refine .brF ?_
    refine .move ?_
    refine .skip ?_
    refine .skip ?_
    refine .skip ?_
    refine .skip ?_
    refine .skip ?_
    refine .brF ?_
    refine .assign ?_
    refine .nil ?_
    cases h
    exact .ret (fin_gen0 none)
end Go.Proofs.Ytcahjpkmldmjdaa
