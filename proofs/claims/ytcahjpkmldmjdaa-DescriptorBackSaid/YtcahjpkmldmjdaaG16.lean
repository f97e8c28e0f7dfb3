/-
  Plain functions of soundservicelaw11, and that the code does what they say.
-/
import Derived.Test.YtcahjpkmldmjdaaGh
namespace Go.Proofs.Ytcahjpkmldmjdaa
open Go Ab
/- soundservice/soundservicelaw11.DescriptorBack -/
def f16 (n : Nat) (a0 : (List Int)) (a1 : Int) (a2 : Int) : Option Bool :=
  (f38 n ).bind fun y3 =>
  if !y3 then (
  some false)
  else (
  (f40 n a0).bind fun y5 =>
  (f39 n (⟨y5.ID, y5.Name, y5.Direction, y5.Domain, y5.Latency, y5.Drift, y5.Jitter, y5.Boxes⟩ : Descriptor)).bind fun y6 =>
  (f41 n y6.1).bind fun y7 =>
  joinK (fun (_ : Unit) =>
  some false) fun j18 =>
  joinK (fun (v19 : Bool) =>
  if v19 then (
  some false)
  else (
  (lApp ([] : List Int) y6.1).bind fun x25 =>
  (iRem (w64 (a1)) (x25.length : Int)).bind fun x26 =>
  (lAt x25 x26).bind fun x27 =>
  (lAt x25 x26).bind fun x28 =>
  (f41 n (x25.set (x26 : Int).toNat (bitsI .xor .u8 x27 a2))).bind fun y29 =>
  if (a2 == (0 : Int)) then (
  some true)
  else (
  if (y29.2 != (0 : Int)) then (
  if sEq y29.1.Name (⟨#[]⟩ : ByteArray) then (
  some ((y29.1.Boxes.length : Int) == (0 : Int)))
  else (
  some false))
  else (
  some false)))) fun j20 =>
  if (y6.2 != (0 : Int)) then (
  j18 ())
  else (
  if (y7.2 != (0 : Int)) then (
  j18 ())
  else (
  (f59 n (⟨y7.1.ID, y7.1.Name, y7.1.Direction, y7.1.Domain, y7.1.Latency, y7.1.Drift, y7.1.Jitter, y7.1.Boxes⟩ : Descriptor) (⟨y5.ID, y5.Name, y5.Direction, y5.Domain, y5.Latency, y5.Drift, y5.Jitter, y5.Boxes⟩ : Descriptor)).bind fun y23 =>
  j20 (!y23))))
set_option maxHeartbeats 4000000 in
set_option maxRecDepth 100000 in
theorem g16 {n : Nat} {a0 : (List Int)} {a1 : Int} {a2 : Int} {r : Bool} (h : f16 n a0 a1 a2 = some r) :
    Ab.Can Try.prog 16 [.sl 5 .ro (a0.map (PV.int .u8)), .int .u16 a1, .int .u8 a2] H0 (.bool r) H0 := by
  refine can_of tabOK mix Try.call16 Try.func16 rfl (by kernel_rfl) (by show _ ≤ 76; simp) fun _ => ?_
  rw [f16] at h
  refine .seq ?_
  refine .region ?_
  refine .assign ?_
  refine .nil ?_
  refine .seq ?_
  refine .seq ?_
  refine .region ?_
  obtain ⟨y3, hy3, h⟩ := bindE h
  refine .cP (g38 hy3) ?_
  refine .val ?_
  refine .nil ?_
  refine .cond (fun hc4 => ?_) (fun hc4 => ?_)
  · replace h := (if_pos hc4).symm.trans h
    refine .seq ?_
    refine .region ?_
    refine .assign ?_
    refine .nil ?_
    cases h
    exact .ret (fin_gen0 none)
  · replace h := (if_neg (nt hc4)).symm.trans h
    refine .skip ?_
    refine .seq ?_
    refine .region ?_
    refine .move ?_
    obtain ⟨y5, hy5, h⟩ := bindE h
    refine .cP (g40 hy5) ?_
    refine .allocL (cs := [.int .u64 0, .str (⟨#[]⟩ : ByteArray), .int .i64 0, .int .i64 0, .int .i64 0, .int .i64 0, .int .i64 0, .sl 94 .full []]) ?_
    refine .wrL (cs := [.int .u64 y5.ID, .str y5.Name, .int .i64 y5.Direction, .int .i64 y5.Domain, .int .i64 y5.Latency, .int .i64 y5.Drift, .int .i64 y5.Jitter, .sl 94 .ro (y5.Boxes.map pv94)]) ?_
    refine .nil ?_
    refine .seq ?_
    refine .region ?_
    refine .val (v := .agg [.int .u64 y5.ID, .str y5.Name, .int .i64 y5.Direction, .int .i64 y5.Domain, .int .i64 y5.Latency, .int .i64 y5.Drift, .int .i64 y5.Jitter, .sl 94 .ro (y5.Boxes.map pv94)]) ?_
    obtain ⟨y6, hy6, h⟩ := bindE h
    refine .cP (g39r hy6) ?_
    refine .move ?_
    refine .val ?_
    refine .val ?_
    refine .assign ?_
    refine .assign ?_
    refine .nil ?_
    refine .seq ?_
    refine .region ?_
    refine .move ?_
    obtain ⟨y7, hy7, h⟩ := bindE h
    refine .cP (g41 hy7) ?_
    refine .move ?_
    refine .val ?_
    refine .val ?_
    refine .allocL (cs := [.int .u64 0, .str (⟨#[]⟩ : ByteArray), .int .i64 0, .int .i64 0, .int .i64 0, .int .i64 0, .int .i64 0, .sl 94 .full []]) ?_
    refine .wrL (cs := [.int .u64 y7.1.ID, .str y7.1.Name, .int .i64 y7.1.Direction, .int .i64 y7.1.Domain, .int .i64 y7.1.Latency, .int .i64 y7.1.Drift, .int .i64 y7.1.Jitter, .sl 94 .ro (y7.1.Boxes.map pv94)]) ?_
    refine .assign ?_
    refine .nil ?_
    refine .seq ?_
    obtain ⟨j18, hj18, h⟩ := joinE h
    obtain ⟨j20, hj20, h⟩ := joinE h
    refine .cutI (fun T => (T = St.of [(1, .int .u16 a1), (2, .int .u8 a2), (8, .sl 5 .ro (y6.1.map (PV.int .u8))), (40, .bool true)] [] ∧ j18 () = some r) ∨ (∃ (v19 : Bool), T = St.of [(1, .int .u16 a1), (2, .int .u8 a2), (8, .sl 5 .ro (y6.1.map (PV.int .u8))), (40, .bool v19)] [] ∧ j20 v19 = some r)) ?_ ?_
    · refine .region ?_
      refine .move ?_
      refine .val ?_
      refine .move ?_
      refine .caseG (fun hc21 => ?_) (fun hc21 => ?_)
      · replace h := (if_pos hc21).symm.trans h
        refine .skip ?_
        refine .skip ?_
        refine .brT ?_
        refine .move ?_
        refine .skip ?_
        refine .skip ?_
        refine .skip ?_
        refine .skip ?_
        refine .brT ?_
        refine .nil ?_
        exact ⟨_, (.inl ⟨rfl, h⟩), (imp_of (.cons rfl (.cons rfl (.cons rfl (.cons rfl (.nil))))) (.nil))⟩
      · replace h := (if_neg (nt hc21)).symm.trans h
        refine .move ?_
        refine .val ?_
        refine .brF ?_
        refine .move ?_
        refine .caseG (fun hc22 => ?_) (fun hc22 => ?_)
        · replace h := (if_pos hc22).symm.trans h
          refine .skip ?_
          refine .skip ?_
          refine .skip ?_
          refine .skip ?_
          refine .brT ?_
          refine .nil ?_
          exact ⟨_, (.inl ⟨rfl, h⟩), (imp_of (.cons rfl (.cons rfl (.cons rfl (.cons rfl (.nil))))) (.nil))⟩
        · replace h := (if_neg (nt hc22)).symm.trans h
          refine .val (v := .agg [.int .u64 y7.1.ID, .str y7.1.Name, .int .i64 y7.1.Direction, .int .i64 y7.1.Domain, .int .i64 y7.1.Latency, .int .i64 y7.1.Drift, .int .i64 y7.1.Jitter, .sl 94 .ro (y7.1.Boxes.map pv94)]) ?_
          refine .val (v := .agg [.int .u64 y5.ID, .str y5.Name, .int .i64 y5.Direction, .int .i64 y5.Domain, .int .i64 y5.Latency, .int .i64 y5.Drift, .int .i64 y5.Jitter, .sl 94 .ro (y5.Boxes.map pv94)]) ?_
          obtain ⟨y23, hy23, h⟩ := bindE h
          refine .cP (g59 hy23) ?_
          refine .val ?_
          refine .brF ?_
          refine .nil ?_
          exact ⟨_, (.inr (⟨_, rfl, h⟩)), (imp_of (.cons rfl (.cons rfl (.cons rfl (.cons rfl (.nil))))) (.nil))⟩
    · rintro T (⟨rfl, h⟩ | ⟨v19, rfl, h⟩)
      · subst hj18
        refine .condT ?_
        refine .seq ?_
        refine .region ?_
        refine .assign ?_
        refine .nil ?_
        cases h
        exact .ret (fin_gen0 none)
      · subst hj20
        refine .cond (fun hc24 => ?_) (fun hc24 => ?_)
        · replace h := (if_pos hc24).symm.trans h
          refine .seq ?_
          refine .region ?_
          refine .assign ?_
          refine .nil ?_
          cases h
          exact .ret (fin_gen0 none)
        · replace h := (if_neg (nt hc24)).symm.trans h
          refine .skip ?_
          refine .seq ?_
          refine .region ?_
          refine .move ?_
          obtain ⟨x25, hx25, h⟩ := bindE h
          refine .appN (f := (PV.int .u8)) hx25 ?_
          refine .assign ?_
          refine .nil ?_
          refine .seq ?_
          refine .region ?_
          refine .move ?_
          refine .move ?_
          refine .val ?_
          refine .move ?_
          refine .lenL (f := (PV.int .u8)) ?_
          obtain ⟨x26, hx26, h⟩ := bindE h
          refine .remL hx26 ?_
          obtain ⟨x27, hx27, h⟩ := bindE h
          refine .idxL (f := (PV.int .u8)) hx27 ?_
          refine .ldL hx27 (y := .int .u8 x27) ?_
          refine .move ?_
          refine .val ?_
          obtain ⟨x28, hx28, h⟩ := bindE h
          refine .idxL (f := (PV.int .u8)) hx28 ?_
          refine .stL hx28 (z' := bitsI .xor .u8 x27 a2) ?_
          refine .now 42 (congrArg (PV.sl 5 (.own (.row 8 1))) (List.map_set (f := (PV.int .u8))).symm) ?_
          refine .now 12 (congrArg (PV.sl 5 (.own (.row 8 1))) (List.map_set (f := (PV.int .u8))).symm) ?_
          refine .now 43 (congrArg (PV.sl 5 (.own (.row 8 1))) (List.map_set (f := (PV.int .u8))).symm) ?_
          refine .now 46 (congrArg (PV.sl 5 (.own (.row 8 1))) (List.map_set (f := (PV.int .u8))).symm) ?_
          refine .nil ?_
          refine .seq ?_
          refine .region ?_
          refine .move ?_
          obtain ⟨y29, hy29, h⟩ := bindE h
          refine .freeze (.row 8 1) ?_
          refine .cP (g41 hy29) ?_
          refine .move ?_
          refine .val ?_
          refine .val ?_
          refine .allocL (cs := [.int .u64 0, .str (⟨#[]⟩ : ByteArray), .int .i64 0, .int .i64 0, .int .i64 0, .int .i64 0, .int .i64 0, .sl 94 .full []]) ?_
          refine .wrL (cs := [.int .u64 y29.1.ID, .str y29.1.Name, .int .i64 y29.1.Direction, .int .i64 y29.1.Domain, .int .i64 y29.1.Latency, .int .i64 y29.1.Drift, .int .i64 y29.1.Jitter, .sl 94 .ro (y29.1.Boxes.map pv94)]) ?_
          refine .assign ?_
          refine .nil ?_
          refine .imp (T := St.of [(2, .int .u8 a2), (13, .ptr (.loc 10 5) 0), (14, .int .i64 y29.2)] [((.loc 10 5), [.int .u64 y29.1.ID, .str y29.1.Name, .int .i64 y29.1.Direction, .int .i64 y29.1.Domain, .int .i64 y29.1.Latency, .int .i64 y29.1.Drift, .int .i64 y29.1.Jitter, .sl 94 .ro (y29.1.Boxes.map pv94)])]) (imp_of (.cons rfl (.cons rfl (.cons rfl (.nil)))) (.cons rfl (.nil))) ?_
          refine .seq ?_
          refine .region ?_
          refine .move ?_
          refine .val ?_
          refine .move ?_
          refine .caseG (fun hc33 => ?_) (fun hc33 => ?_)
          · replace h := (if_pos hc33).symm.trans h
            refine .skip ?_
            refine .skip ?_
            refine .skip ?_
            refine .skip ?_
            refine .skip ?_
            refine .skip ?_
            refine .skip ?_
            refine .skip ?_
            refine .skip ?_
            refine .skip ?_
            refine .skip ?_
            refine .skip ?_
            refine .skip ?_
            refine .brT ?_
            refine .assign ?_
            refine .nil ?_
            cases h
            exact .ret (fin_gen0 none)
          · replace h := (if_neg (nt hc33)).symm.trans h
            refine .move ?_
            refine .val ?_
            refine .move ?_
            refine .caseG (fun hc34 => ?_) (fun hc34 => ?_)
            · replace h := (if_pos hc34).symm.trans h
              refine .val ?_
              refine .val ?_
              refine .val ?_
              refine .brT ?_
              refine .move ?_
              refine .caseG (fun hc35 => ?_) (fun hc35 => ?_)
              · replace h := (if_pos hc35).symm.trans h
                refine .val ?_
                refine .val ?_
                refine .lenL (f := pv94) ?_
                refine .val ?_
                refine .brT ?_
                refine .brF ?_
                refine .assign ?_
                refine .nil ?_
                cases h
                exact .ret (fin_gen0 none)
              · replace h := (if_neg (nt hc35)).symm.trans h
                refine .skip ?_
                refine .skip ?_
                refine .skip ?_
                refine .skip ?_
                refine .brF ?_
                refine .brF ?_
                refine .assign ?_
                refine .nil ?_
                cases h
                exact .ret (fin_gen0 none)
            · replace h := (if_neg (nt hc34)).symm.trans h
              refine .skip ?_
              refine .skip ?_
              refine .skip ?_
              refine .brF ?_
              refine .move ?_
              refine .skip ?_
              refine .skip ?_
              refine .skip ?_
              refine .skip ?_
              refine .brF ?_
              refine .brF ?_
              refine .assign ?_
              refine .nil ?_
              cases h
              exact .ret (fin_gen0 none)
end Go.Proofs.Ytcahjpkmldmjdaa
