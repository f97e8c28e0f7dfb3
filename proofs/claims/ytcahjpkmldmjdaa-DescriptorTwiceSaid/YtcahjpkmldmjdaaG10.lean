/-
  Plain functions of soundservicelaw11, and that the code does what they say.
-/
import Derived.Test.YtcahjpkmldmjdaaGh
namespace Go.Proofs.Ytcahjpkmldmjdaa
open Go Ab
/- soundservice/soundservicelaw11.DescriptorTwice -/
def f10 (n : Nat) (a0 : (List Int)) (a1 : (List Int)) : Option Bool :=
  (f38 n ).bind fun y3 =>
  if !y3 then (
  some false)
  else (
  if decide ((a1.length : Int) > (50 : Int)) then (
  some true)
  else (
  (f40 n a0).bind fun y7 =>
  (f39 n y7).bind fun y8 =>
  joinK (fun (_ : Unit) =>
  some false) fun j14 =>
  joinK (fun (_ : Unit) =>
  if decide ((y8.1.length : Int) < (8 : Int)) then (
  some false)
  else (
  (lPart y8.1 (0 : Int) (w64 ((y8.1.length : Int) - (4 : Int)))).bind fun x18 =>
  (lApp ([] : List Int) x18).bind fun x19 =>
  (lApp x19 x18).bind fun x20 =>
  (f42 n x20).bind fun y21 =>
  (f41 n y21).bind fun y22 =>
  (lApp ([] : List Int) x18).bind fun x23 =>
  (lApp x23 a1).bind fun x24 =>
  (f42 n x24).bind fun y25 =>
  (f41 n y25).bind fun y26 =>
  (lApp ([120] : List Int) x18).bind fun x27 =>
  (f42 n x27).bind fun y28 =>
  (f41 n y28).bind fun y29 =>
  if (y22.2 == (5 : Int)) then (
  if (y26.2 == (5 : Int)) then (
  some (y29.2 == (5 : Int)))
  else (
  if ((a1.length : Int) == (0 : Int)) then (
  if (y26.2 == (0 : Int)) then (
  some (y29.2 == (5 : Int)))
  else (
  some false))
  else (
  some false)))
  else (
  some false))) fun j15 =>
  if (y8.2 != (0 : Int)) then (
  j14 ())
  else (
  j15 ())))
set_option maxHeartbeats 4000000 in
set_option maxRecDepth 100000 in
theorem g10 {n : Nat} {a0 : (List Int)} {a1 : (List Int)} {r : Bool} (h : f10 n a0 a1 = some r) :
    Ab.Can Try.prog 10 [.sl 5 .ro (a0.map (PV.int .u8)), .sl 5 .ro (a1.map (PV.int .u8))] H0 (.bool r) H0 := by
  refine can_of tabOK mix Try.call10 Try.func10 rfl (by kernel_rfl) (by show _ ≤ 82; simp) fun _ => ?_
  rw [f10] at h
  refine .seq ?_
  refine .region ?_
  refine .assign ?_
  refine .nil ?_
  refine .seq ?_
  refine .seq ?_
  refine .region ?_
  obtain ⟨y3, hy3, h⟩ := bindE h
  refine .cP (g38 hy3) ?_
  refine .val ?_
  refine .nil ?_
  refine .cond (fun hc4 => ?_) (fun hc4 => ?_)
  · replace h := (if_pos hc4).symm.trans h
    refine .seq ?_
    refine .region ?_
    refine .assign ?_
    refine .nil ?_
    cases h
    exact .ret (fin_gen0 none)
  · replace h := (if_neg (nt hc4)).symm.trans h
    refine .skip ?_
    refine .seq ?_
    refine .seq ?_
    refine .region ?_
    refine .move ?_
    refine .lenL (f := (PV.int .u8)) ?_
    refine .val ?_
    refine .nil ?_
    refine .cond (fun hc6 => ?_) (fun hc6 => ?_)
    · replace h := (if_pos hc6).symm.trans h
      refine .seq ?_
      refine .region ?_
      refine .assign ?_
      refine .nil ?_
      cases h
      exact .ret (fin_gen0 none)
    · replace h := (if_neg (nt hc6)).symm.trans h
      refine .skip ?_
      refine .seq ?_
      refine .region ?_
      refine .move ?_
      obtain ⟨y7, hy7, h⟩ := bindE h
      refine .cP (g40 hy7) ?_
      obtain ⟨y8, hy8, h⟩ := bindE h
      refine .cP (g39r hy8) ?_
      refine .move ?_
      refine .val ?_
      refine .val ?_
      refine .assign ?_
      refine .assign ?_
      refine .nil ?_
      refine .seq ?_
      obtain ⟨j14, hj14, h⟩ := joinE h
      obtain ⟨j15, hj15, h⟩ := joinE h
      refine .cutI (fun T => (T = St.of [(1, .sl 5 .ro (a1.map (PV.int .u8))), (5, .sl 5 .ro (y8.1.map (PV.int .u8))), (31, .bool true)] [] ∧ j14 () = some r) ∨ (T = St.of [(1, .sl 5 .ro (a1.map (PV.int .u8))), (5, .sl 5 .ro (y8.1.map (PV.int .u8))), (31, .bool (decide ((y8.1.length : Int) < (8 : Int))))] [] ∧ j15 () = some r)) ?_ ?_
      · refine .region ?_
        refine .move ?_
        refine .val ?_
        refine .move ?_
        refine .caseG (fun hc16 => ?_) (fun hc16 => ?_)
        · replace h := (if_pos hc16).symm.trans h
          refine .skip ?_
          refine .skip ?_
          refine .skip ?_
          refine .brT ?_
          refine .nil ?_
          exact ⟨_, (.inl ⟨rfl, h⟩), (imp_of (.cons rfl (.cons rfl (.cons rfl (.nil)))) (.nil))⟩
        · replace h := (if_neg (nt hc16)).symm.trans h
          refine .move ?_
          refine .lenL (f := (PV.int .u8)) ?_
          refine .val ?_
          refine .brF ?_
          refine .nil ?_
          exact ⟨_, (.inr (⟨rfl, h⟩)), (imp_of (.cons rfl (.cons rfl (.cons rfl (.nil)))) (.nil))⟩
      · rintro T (⟨rfl, h⟩ | ⟨rfl, h⟩)
        · subst hj14
          refine .condT ?_
          refine .seq ?_
          refine .region ?_
          refine .assign ?_
          refine .nil ?_
          cases h
          exact .ret (fin_gen0 none)
        · subst hj15
          refine .cond (fun hc17 => ?_) (fun hc17 => ?_)
          · replace h := (if_pos hc17).symm.trans h
            refine .seq ?_
            refine .region ?_
            refine .assign ?_
            refine .nil ?_
            cases h
            exact .ret (fin_gen0 none)
          · replace h := (if_neg (nt hc17)).symm.trans h
            refine .skip ?_
            refine .seq ?_
            refine .region ?_
            refine .move ?_
            refine .move ?_
            refine .lenL (f := (PV.int .u8)) ?_
            refine .val ?_
            obtain ⟨x18, hx18, h⟩ := bindE h
            refine .partL (f := (PV.int .u8)) hx18 ?_
            refine .assign ?_
            refine .nil ?_
            refine .seq ?_
            refine .region ?_
            refine .move ?_
            obtain ⟨x19, hx19, h⟩ := bindE h
            refine .appN (f := (PV.int .u8)) hx19 ?_
            refine .move ?_
            obtain ⟨x20, hx20, h⟩ := bindE h
            refine .appL (f := (PV.int .u8)) hx20 ?_
            obtain ⟨y21, hy21, h⟩ := bindE h
            refine .freeze (.row 9 3) ?_
            refine .cP (g42r hy21) ?_
            obtain ⟨y22, hy22, h⟩ := bindE h
            refine .cP (g41 hy22) ?_
            refine .move ?_
            refine .val ?_
            refine .val ?_
            refine .allocL (cs := [.int .u64 0, .str (⟨#[]⟩ : ByteArray), .int .i64 0, .int .i64 0, .int .i64 0, .int .i64 0, .int .i64 0, .sl 94 .full []]) ?_
            refine .wrL (cs := [.int .u64 y22.1.ID, .str y22.1.Name, .int .i64 y22.1.Direction, .int .i64 y22.1.Domain, .int .i64 y22.1.Latency, .int .i64 y22.1.Drift, .int .i64 y22.1.Jitter, .sl 94 .ro (y22.1.Boxes.map pv94)]) ?_
            refine .assign ?_
            refine .nil ?_
            refine .imp (T := St.of [(1, .sl 5 .ro (a1.map (PV.int .u8))), (7, .sl 5 .ro (x18.map (PV.int .u8))), (9, .int .i64 y22.2)] []) (imp_of (.cons rfl (.cons rfl (.cons rfl (.nil)))) (.nil)) ?_
            refine .seq ?_
            refine .region ?_
            refine .move ?_
            obtain ⟨x23, hx23, h⟩ := bindE h
            refine .appN (f := (PV.int .u8)) hx23 ?_
            refine .move ?_
            obtain ⟨x24, hx24, h⟩ := bindE h
            refine .appL (f := (PV.int .u8)) hx24 ?_
            obtain ⟨y25, hy25, h⟩ := bindE h
            refine .freeze (.row 10 3) ?_
            refine .cP (g42r hy25) ?_
            obtain ⟨y26, hy26, h⟩ := bindE h
            refine .cP (g41 hy26) ?_
            refine .move ?_
            refine .val ?_
            refine .val ?_
            refine .allocL (cs := [.int .u64 0, .str (⟨#[]⟩ : ByteArray), .int .i64 0, .int .i64 0, .int .i64 0, .int .i64 0, .int .i64 0, .sl 94 .full []]) ?_
            refine .wrL (cs := [.int .u64 y26.1.ID, .str y26.1.Name, .int .i64 y26.1.Direction, .int .i64 y26.1.Domain, .int .i64 y26.1.Latency, .int .i64 y26.1.Drift, .int .i64 y26.1.Jitter, .sl 94 .ro (y26.1.Boxes.map pv94)]) ?_
            refine .assign ?_
            refine .nil ?_
            refine .imp (T := St.of [(1, .sl 5 .ro (a1.map (PV.int .u8))), (7, .sl 5 .ro (x18.map (PV.int .u8))), (9, .int .i64 y22.2), (11, .int .i64 y26.2)] []) (imp_of (.cons rfl (.cons rfl (.cons rfl (.cons rfl (.nil))))) (.nil)) ?_
            refine .seq ?_
            refine .region ?_
            refine .litL (f := (PV.int .u8)) ([120] : List Int) ?_
            refine .move ?_
            obtain ⟨x27, hx27, h⟩ := bindE h
            refine .appL (f := (PV.int .u8)) hx27 ?_
            obtain ⟨y28, hy28, h⟩ := bindE h
            refine .freeze (.row 11 2) ?_
            refine .cP (g42r hy28) ?_
            obtain ⟨y29, hy29, h⟩ := bindE h
            refine .cP (g41 hy29) ?_
            refine .move ?_
            refine .val ?_
            refine .val ?_
            refine .allocL (cs := [.int .u64 0, .str (⟨#[]⟩ : ByteArray), .int .i64 0, .int .i64 0, .int .i64 0, .int .i64 0, .int .i64 0, .sl 94 .full []]) ?_
            refine .wrL (cs := [.int .u64 y29.1.ID, .str y29.1.Name, .int .i64 y29.1.Direction, .int .i64 y29.1.Domain, .int .i64 y29.1.Latency, .int .i64 y29.1.Drift, .int .i64 y29.1.Jitter, .sl 94 .ro (y29.1.Boxes.map pv94)]) ?_
            refine .assign ?_
            refine .nil ?_
            refine .imp (T := St.of [(1, .sl 5 .ro (a1.map (PV.int .u8))), (9, .int .i64 y22.2), (11, .int .i64 y26.2), (13, .int .i64 y29.2)] []) (imp_of (.cons rfl (.cons rfl (.cons rfl (.cons rfl (.nil))))) (.nil)) ?_
            refine .seq ?_
            refine .region ?_
            refine .move ?_
            refine .val ?_
            refine .move ?_
            refine .caseG (fun hc34 => ?_) (fun hc34 => ?_)
            · replace h := (if_pos hc34).symm.trans h
              refine .move ?_
              refine .val ?_
              refine .move ?_
              refine .caseG (fun hc35 => ?_) (fun hc35 => ?_)
              · replace h := (if_pos hc35).symm.trans h
                refine .skip ?_
                refine .skip ?_
                refine .skip ?_
                refine .skip ?_
                refine .skip ?_
                refine .skip ?_
                refine .skip ?_
                refine .brT ?_
                refine .brT ?_
                refine .move ?_
                refine .move ?_
                refine .val ?_
                refine .brT ?_
                refine .assign ?_
                refine .nil ?_
                cases h
                exact .ret (fin_gen0 none)
              · replace h := (if_neg (nt hc35)).symm.trans h
                refine .move ?_
                refine .lenL (f := (PV.int .u8)) ?_
                refine .val ?_
                refine .move ?_
                refine .caseG (fun hc36 => ?_) (fun hc36 => ?_)
                · replace h := (if_pos hc36).symm.trans h
                  refine .move ?_
                  refine .val ?_
                  refine .brT ?_
                  refine .brF ?_
                  refine .brT ?_
                  refine .move ?_
                  refine .caseG (fun hc37 => ?_) (fun hc37 => ?_)
                  · replace h := (if_pos hc37).symm.trans h
                    refine .move ?_
                    refine .val ?_
                    refine .brT ?_
                    refine .assign ?_
                    refine .nil ?_
                    cases h
                    exact .ret (fin_gen0 none)
                  · replace h := (if_neg (nt hc37)).symm.trans h
                    refine .skip ?_
                    refine .skip ?_
                    refine .brF ?_
                    refine .assign ?_
                    refine .nil ?_
                    cases h
                    exact .ret (fin_gen0 none)
                · replace h := (if_neg (nt hc36)).symm.trans h
                  refine .skip ?_
                  refine .skip ?_
                  refine .brF ?_
                  refine .brF ?_
                  refine .brT ?_
                  refine .move ?_
                  refine .skip ?_
                  refine .skip ?_
                  refine .brF ?_
                  refine .assign ?_
                  refine .nil ?_
                  cases h
                  exact .ret (fin_gen0 none)
            · replace h := (if_neg (nt hc34)).symm.trans h
              refine .skip ?_
              refine .skip ?_
              refine .skip ?_
              refine .skip ?_
              refine .skip ?_
              refine .skip ?_
              refine .skip ?_
              refine .skip ?_
              refine .skip ?_
              refine .skip ?_
              refine .skip ?_
              refine .brF ?_
              refine .move ?_
              refine .skip ?_
              refine .skip ?_
              refine .brF ?_
              refine .assign ?_
              refine .nil ?_
              cases h
              exact .ret (fin_gen0 none)
end Go.Proofs.Ytcahjpkmldmjdaa
