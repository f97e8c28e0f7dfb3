/-
  Plain functions of soundservicelaw11, and that the code does what they say.
-/
import Derived.Test.YtcahjpkmldmjdaaGh
namespace Go.Proofs.Ytcahjpkmldmjdaa
open Go Ab
/- soundservice/soundservicelaw11.DescriptorCuts -/
def f9 (n : Nat) (a0 : (List Int)) (a1 : Int) : Option Bool :=
  (f38 n ).bind fun y3 =>
  if !y3 then (
  some false)
  else (
  (f40 n a0).bind fun y5 =>
  (f39 n y5).bind fun y6 =>
  joinK (fun (_ : Unit) =>
  some false) fun j12 =>
  joinK (fun (_ : Unit) =>
  if ((y6.1.length : Int) == (0 : Int)) then (
  some false)
  else (
  (iRem (w64 (a1)) (y6.1.length : Int)).bind fun x16 =>
  (lPart y6.1 (0 : Int) x16).bind fun x17 =>
  (f41 n x17).bind fun y18 =>
  (f42 n x17).bind fun y19 =>
  (f41 n y19).bind fun y20 =>
  if (y18.2 != (0 : Int)) then (
  if sEq y18.1.Name (⟨#[]⟩ : ByteArray) then (
  if ((x17.length : Int) == (w64 ((y6.1.length : Int) - (4 : Int)))) then (
  some true)
  else (
  if (y20.2 != (0 : Int)) then (
  some (sEq y20.1.Name (⟨#[]⟩ : ByteArray)))
  else (
  some false)))
  else (
  some false))
  else (
  some false))) fun j13 =>
  if (y6.2 != (0 : Int)) then (
  j12 ())
  else (
  j13 ()))
set_option maxHeartbeats 4000000 in
set_option maxRecDepth 100000 in
theorem g9 {n : Nat} {a0 : (List Int)} {a1 : Int} {r : Bool} (h : f9 n a0 a1 = some r) :
    Ab.Can Try.prog 9 [.sl 5 .ro (a0.map (PV.int .u8)), .int .u16 a1] H0 (.bool r) H0 := by
  refine can_of tabOK mix Try.call9 Try.func9 rfl (by kernel_rfl) (by show _ ≤ 69; simp) fun _ => ?_
  rw [f9] at h
  refine .seq ?_
  refine .region ?_
  refine .assign ?_
  refine .nil ?_
  refine .seq ?_
  refine .seq ?_
  refine .region ?_
  obtain ⟨y3, hy3, h⟩ := bindE h
  refine .cP (g38 hy3) ?_
  refine .val ?_
  refine .nil ?_
  refine .cond (fun hc4 => ?_) (fun hc4 => ?_)
  · replace h := (if_pos hc4).symm.trans h
    refine .seq ?_
    refine .region ?_
    refine .assign ?_
    refine .nil ?_
    cases h
    exact .ret (fin_gen0 none)
  · replace h := (if_neg (nt hc4)).symm.trans h
    refine .skip ?_
    refine .seq ?_
    refine .region ?_
    refine .move ?_
    obtain ⟨y5, hy5, h⟩ := bindE h
    refine .cP (g40 hy5) ?_
    obtain ⟨y6, hy6, h⟩ := bindE h
    refine .cP (g39r hy6) ?_
    refine .move ?_
    refine .val ?_
    refine .val ?_
    refine .assign ?_
    refine .assign ?_
    refine .nil ?_
    refine .seq ?_
    obtain ⟨j12, hj12, h⟩ := joinE h
    obtain ⟨j13, hj13, h⟩ := joinE h
    refine .cutI (fun T => (T = St.of [(1, .int .u16 a1), (5, .sl 5 .ro (y6.1.map (PV.int .u8))), (26, .bool true)] [] ∧ j12 () = some r) ∨ (T = St.of [(1, .int .u16 a1), (5, .sl 5 .ro (y6.1.map (PV.int .u8))), (26, .bool ((y6.1.length : Int) == (0 : Int)))] [] ∧ j13 () = some r)) ?_ ?_
    · refine .region ?_
      refine .move ?_
      refine .val ?_
      refine .move ?_
      refine .caseG (fun hc14 => ?_) (fun hc14 => ?_)
      · replace h := (if_pos hc14).symm.trans h
        refine .skip ?_
        refine .skip ?_
        refine .skip ?_
        refine .brT ?_
        refine .nil ?_
        exact ⟨_, (.inl ⟨rfl, h⟩), (imp_of (.cons rfl (.cons rfl (.cons rfl (.nil)))) (.nil))⟩
      · replace h := (if_neg (nt hc14)).symm.trans h
        refine .move ?_
        refine .lenL (f := (PV.int .u8)) ?_
        refine .val ?_
        refine .brF ?_
        refine .nil ?_
        exact ⟨_, (.inr (⟨rfl, h⟩)), (imp_of (.cons rfl (.cons rfl (.cons rfl (.nil)))) (.nil))⟩
    · rintro T (⟨rfl, h⟩ | ⟨rfl, h⟩)
      · subst hj12
        refine .condT ?_
        refine .seq ?_
        refine .region ?_
        refine .assign ?_
        refine .nil ?_
        cases h
        exact .ret (fin_gen0 none)
      · subst hj13
        refine .cond (fun hc15 => ?_) (fun hc15 => ?_)
        · replace h := (if_pos hc15).symm.trans h
          refine .seq ?_
          refine .region ?_
          refine .assign ?_
          refine .nil ?_
          cases h
          exact .ret (fin_gen0 none)
        · replace h := (if_neg (nt hc15)).symm.trans h
          refine .skip ?_
          refine .seq ?_
          refine .region ?_
          refine .move ?_
          refine .move ?_
          refine .val ?_
          refine .move ?_
          refine .lenL (f := (PV.int .u8)) ?_
          obtain ⟨x16, hx16, h⟩ := bindE h
          refine .remL hx16 ?_
          obtain ⟨x17, hx17, h⟩ := bindE h
          refine .partL (f := (PV.int .u8)) hx17 ?_
          refine .assign ?_
          refine .nil ?_
          refine .seq ?_
          refine .region ?_
          refine .move ?_
          obtain ⟨y18, hy18, h⟩ := bindE h
          refine .cP (g41 hy18) ?_
          refine .move ?_
          refine .val ?_
          refine .val ?_
          refine .allocL (cs := [.int .u64 0, .str (⟨#[]⟩ : ByteArray), .int .i64 0, .int .i64 0, .int .i64 0, .int .i64 0, .int .i64 0, .sl 94 .full []]) ?_
          refine .wrL (cs := [.int .u64 y18.1.ID, .str y18.1.Name, .int .i64 y18.1.Direction, .int .i64 y18.1.Domain, .int .i64 y18.1.Latency, .int .i64 y18.1.Drift, .int .i64 y18.1.Jitter, .sl 94 .ro (y18.1.Boxes.map pv94)]) ?_
          refine .assign ?_
          refine .nil ?_
          refine .seq ?_
          refine .region ?_
          refine .move ?_
          obtain ⟨y19, hy19, h⟩ := bindE h
          refine .cP (g42r hy19) ?_
          obtain ⟨y20, hy20, h⟩ := bindE h
          refine .cP (g41 hy20) ?_
          refine .move ?_
          refine .val ?_
          refine .val ?_
          refine .allocL (cs := [.int .u64 0, .str (⟨#[]⟩ : ByteArray), .int .i64 0, .int .i64 0, .int .i64 0, .int .i64 0, .int .i64 0, .sl 94 .full []]) ?_
          refine .wrL (cs := [.int .u64 y20.1.ID, .str y20.1.Name, .int .i64 y20.1.Direction, .int .i64 y20.1.Domain, .int .i64 y20.1.Latency, .int .i64 y20.1.Drift, .int .i64 y20.1.Jitter, .sl 94 .ro (y20.1.Boxes.map pv94)]) ?_
          refine .assign ?_
          refine .nil ?_
          refine .imp (T := St.of [(5, .sl 5 .ro (y6.1.map (PV.int .u8))), (7, .sl 5 .ro (x17.map (PV.int .u8))), (8, .ptr (.loc 7 5) 0), (9, .int .i64 y18.2), (10, .ptr (.loc 8 6) 0), (11, .int .i64 y20.2)] [((.loc 7 5), [.int .u64 y18.1.ID, .str y18.1.Name, .int .i64 y18.1.Direction, .int .i64 y18.1.Domain, .int .i64 y18.1.Latency, .int .i64 y18.1.Drift, .int .i64 y18.1.Jitter, .sl 94 .ro (y18.1.Boxes.map pv94)]), ((.loc 8 6), [.int .u64 y20.1.ID, .str y20.1.Name, .int .i64 y20.1.Direction, .int .i64 y20.1.Domain, .int .i64 y20.1.Latency, .int .i64 y20.1.Drift, .int .i64 y20.1.Jitter, .sl 94 .ro (y20.1.Boxes.map pv94)])]) (imp_of (.cons rfl (.cons rfl (.cons rfl (.cons rfl (.cons rfl (.cons rfl (.nil))))))) (.cons rfl (.cons rfl (.nil)))) ?_
          refine .seq ?_
          refine .region ?_
          refine .move ?_
          refine .val ?_
          refine .move ?_
          refine .caseG (fun hc25 => ?_) (fun hc25 => ?_)
          · replace h := (if_pos hc25).symm.trans h
            refine .val ?_
            refine .val ?_
            refine .val ?_
            refine .brT ?_
            refine .move ?_
            refine .caseG (fun hc26 => ?_) (fun hc26 => ?_)
            · replace h := (if_pos hc26).symm.trans h
              refine .move ?_
              refine .lenL (f := (PV.int .u8)) ?_
              refine .move ?_
              refine .lenL (f := (PV.int .u8)) ?_
              refine .val ?_
              refine .val ?_
              refine .move ?_
              refine .caseG (fun hc27 => ?_) (fun hc27 => ?_)
              · replace h := (if_pos hc27).symm.trans h
                refine .skip ?_
                refine .skip ?_
                refine .skip ?_
                refine .skip ?_
                refine .skip ?_
                refine .skip ?_
                refine .skip ?_
                refine .brT ?_
                refine .brT ?_
                refine .assign ?_
                refine .nil ?_
                cases h
                exact .ret (fin_gen0 none)
              · replace h := (if_neg (nt hc27)).symm.trans h
                refine .move ?_
                refine .val ?_
                refine .move ?_
                refine .caseG (fun hc28 => ?_) (fun hc28 => ?_)
                · replace h := (if_pos hc28).symm.trans h
                  refine .val ?_
                  refine .val ?_
                  refine .val ?_
                  refine .brT ?_
                  refine .brF ?_
                  refine .brT ?_
                  refine .assign ?_
                  refine .nil ?_
                  cases h
                  exact .ret (fin_gen0 none)
                · replace h := (if_neg (nt hc28)).symm.trans h
                  refine .skip ?_
                  refine .skip ?_
                  refine .skip ?_
                  refine .brF ?_
                  refine .brF ?_
                  refine .brT ?_
                  refine .assign ?_
                  refine .nil ?_
                  cases h
                  exact .ret (fin_gen0 none)
            · replace h := (if_neg (nt hc26)).symm.trans h
              refine .skip ?_
              refine .skip ?_
              refine .skip ?_
              refine .skip ?_
              refine .skip ?_
              refine .skip ?_
              refine .skip ?_
              refine .skip ?_
              refine .skip ?_
              refine .skip ?_
              refine .skip ?_
              refine .skip ?_
              refine .skip ?_
              refine .skip ?_
              refine .skip ?_
              refine .brF ?_
              refine .assign ?_
              refine .nil ?_
              cases h
              exact .ret (fin_gen0 none)
          · replace h := (if_neg (nt hc25)).symm.trans h
            refine .skip ?_
            refine .skip ?_
            refine .skip ?_
            refine .brF ?_
            refine .move ?_
            refine .skip ?_
            refine .skip ?_
            refine .skip ?_
            refine .skip ?_
            refine .skip ?_
            refine .skip ?_
            refine .skip ?_
            refine .skip ?_
            refine .skip ?_
            refine .skip ?_
            refine .skip ?_
            refine .skip ?_
            refine .skip ?_
            refine .skip ?_
            refine .skip ?_
            refine .brF ?_
            refine .assign ?_
            refine .nil ?_
            cases h
            exact .ret (fin_gen0 none)
end Go.Proofs.Ytcahjpkmldmjdaa
