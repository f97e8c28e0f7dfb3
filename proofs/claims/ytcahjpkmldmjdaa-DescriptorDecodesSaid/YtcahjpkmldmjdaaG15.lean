/-
  Plain functions of soundservicelaw11, and that the code does what they say.
-/
import Derived.Test.YtcahjpkmldmjdaaGh
namespace Go.Proofs.Ytcahjpkmldmjdaa
open Go Ab
/- soundservice/soundservicelaw11.DescriptorDecodes -/
def f15_l1 (n : Nat) (a0 : (List Int)) (y8 : ((List Int) × Int)) (v17 : (List Int)) (j57 : Unit → Option Bool) (y58 : (List Int)) (y59 : (List Int)) : Nat → Int → Option Bool
  | 0, _ => none
  | m82 + 1, v70 =>
    if decide (v70 < (([a0, y8.1, y58, y59, v17] : List (List Int)).length : Int)) then (
    (lAt ([a0, y8.1, y58, y59, v17] : List (List Int)) v70).bind fun x94 =>
    (f41 n x94).bind fun y95 =>
    (f58 n x94).bind fun y96 =>
    joinK (fun (_ : Unit) =>
    some false) fun j99 =>
    joinK (fun (v100 : Bool) =>
    if v100 then (
    some false)
    else (
    f15_l1 n a0 y8 v17 j57 y58 y59 m82 (w64 (v70 + (1 : Int))))) fun j101 =>
    if (y95.2 != y96.2) then (
    j99 ())
    else (
    (f59 n (⟨y95.1.ID, y95.1.Name, y95.1.Direction, y95.1.Domain, y95.1.Latency, y95.1.Drift, y95.1.Jitter, y95.1.Boxes⟩ : Descriptor) (⟨y96.1.ID, y96.1.Name, y96.1.Direction, y96.1.Domain, y96.1.Latency, y96.1.Drift, y96.1.Jitter, y96.1.Boxes⟩ : Descriptor)).bind fun y103 =>
    j101 (!y103)))
    else (
    j57 ())
def f15 (n : Nat) (a0 : (List Int)) (a1 : (List Int)) (a2 : Int) (a3 : Int) (a4 : Int) : Option Bool :=
  (f38 n ).bind fun y3 =>
  if !y3 then (
  some false)
  else (
  if decide ((a0.length : Int) > (600 : Int)) then (
  some true)
  else (
  (f40 n a1).bind fun y7 =>
  (f55 n y7).bind fun y8 =>
  (lPart y8.1 (0 : Int) (w64 ((y8.1.length : Int) - (4 : Int)))).bind fun x9 =>
  (lApp ([] : List Int) x9).bind fun x10 =>
  (iRem (w64 (a2)) (x10.length : Int)).bind fun x11 =>
  (lAt x10 x11).bind fun x12 =>
  (lAt x10 x11).bind fun x13 =>
  joinK (fun (v17 : (List Int)) =>
  joinK (fun (_ : Unit) =>
  some true) fun j57 =>
  (f42 n a0).bind fun y58 =>
  (f42 n v17).bind fun y59 =>
  f15_l1 n a0 y8 v17 j57 y58 y59 n 0) fun j19 =>
  if ((Int.tmod a4 (3 : Int)) == (0 : Int)) then (
  (iRem (w64 (a4)) ((x10.set (x11 : Int).toNat (IntKind.wrap .u8 (x12 + a3))).length : Int)).bind fun x21 =>
  (lPart (x10.set (x11 : Int).toNat (IntKind.wrap .u8 (x12 + a3))) 0 (w64 (((x10.set (x11 : Int).toNat (IntKind.wrap .u8 (x12 + a3))).length : Int) - x21))).bind fun x22 =>
  j19 x22)
  else (
  j19 (x10.set (x11 : Int).toNat (IntKind.wrap .u8 (x12 + a3))))))
set_option maxHeartbeats 4000000 in
set_option maxRecDepth 100000 in
theorem g15 {n : Nat} {a0 : (List Int)} {a1 : (List Int)} {a2 : Int} {a3 : Int} {a4 : Int} {r : Bool} (h : f15 n a0 a1 a2 a3 a4 = some r) :
    Ab.Can Try.prog 15 [.sl 5 .ro (a0.map (PV.int .u8)), .sl 5 .ro (a1.map (PV.int .u8)), .int .u16 a2, .int .u8 a3, .int .u8 a4] H0 (.bool r) H0 := by
  refine can_of tabOK mix Try.call15 Try.func15 rfl (by kernel_rfl) (by show _ ≤ 94; simp) fun _ => ?_
  rw [f15] at h
  refine .seq ?_
  refine .region ?_
  refine .assign ?_
  refine .nil ?_
  refine .seq ?_
  refine .seq ?_
  refine .region ?_
  obtain ⟨y3, hy3, h⟩ := bindE h
  refine .cP (g38 hy3) ?_
  refine .val ?_
  refine .nil ?_
  refine .cond (fun hc4 => ?_) (fun hc4 => ?_)
  · replace h := (if_pos hc4).symm.trans h
    refine .seq ?_
    refine .region ?_
    refine .assign ?_
    refine .nil ?_
    cases h
    exact .ret (fin_gen0 none)
  · replace h := (if_neg (nt hc4)).symm.trans h
    refine .skip ?_
    refine .seq ?_
    refine .seq ?_
    refine .region ?_
    refine .move ?_
    refine .lenL (f := (PV.int .u8)) ?_
    refine .val ?_
    refine .nil ?_
    refine .cond (fun hc6 => ?_) (fun hc6 => ?_)
    · replace h := (if_pos hc6).symm.trans h
      refine .seq ?_
      refine .region ?_
      refine .assign ?_
      refine .nil ?_
      cases h
      exact .ret (fin_gen0 none)
    · replace h := (if_neg (nt hc6)).symm.trans h
      refine .skip ?_
      refine .seq ?_
      refine .region ?_
      refine .move ?_
      obtain ⟨y7, hy7, h⟩ := bindE h
      refine .cP (g40 hy7) ?_
      obtain ⟨y8, hy8, h⟩ := bindE h
      refine .cP (g55r hy8) ?_
      refine .move ?_
      refine .val ?_
      refine .val ?_
      refine .assign ?_
      refine .assign ?_
      refine .nil ?_
      refine .seq ?_
      refine .region ?_
      refine .move ?_
      refine .move ?_
      refine .lenL (f := (PV.int .u8)) ?_
      refine .val ?_
      obtain ⟨x9, hx9, h⟩ := bindE h
      refine .partL (f := (PV.int .u8)) hx9 ?_
      obtain ⟨x10, hx10, h⟩ := bindE h
      refine .appN (f := (PV.int .u8)) hx10 ?_
      refine .assign ?_
      refine .nil ?_
      refine .seq ?_
      refine .region ?_
      refine .move ?_
      refine .move ?_
      refine .val ?_
      refine .move ?_
      refine .lenL (f := (PV.int .u8)) ?_
      obtain ⟨x11, hx11, h⟩ := bindE h
      refine .remL hx11 ?_
      obtain ⟨x12, hx12, h⟩ := bindE h
      refine .idxL (f := (PV.int .u8)) hx12 ?_
      refine .ldL hx12 (y := .int .u8 x12) ?_
      refine .move ?_
      refine .val ?_
      obtain ⟨x13, hx13, h⟩ := bindE h
      refine .idxL (f := (PV.int .u8)) hx13 ?_
      refine .stL hx13 (z' := IntKind.wrap .u8 (x12 + a3)) ?_
      refine .now 36 (congrArg (PV.sl 5 (.own (.row 6 5))) (List.map_set (f := (PV.int .u8))).symm) ?_
      refine .now 13 (congrArg (PV.sl 5 (.own (.row 6 5))) (List.map_set (f := (PV.int .u8))).symm) ?_
      refine .now 37 (congrArg (PV.sl 5 (.own (.row 6 5))) (List.map_set (f := (PV.int .u8))).symm) ?_
      refine .now 40 (congrArg (PV.sl 5 (.own (.row 6 5))) (List.map_set (f := (PV.int .u8))).symm) ?_
      refine .nil ?_
      refine .imp (T := St.of [(0, .sl 5 .ro (a0.map (PV.int .u8))), (4, .int .u8 a4), (11, .sl 5 .ro (y8.1.map (PV.int .u8))), (13, .sl 5 (.own (.row 6 5)) ((x10.set (x11 : Int).toNat (IntKind.wrap .u8 (x12 + a3))).map (PV.int .u8)))] []) (imp_of (.cons rfl (.cons rfl (.cons rfl (.cons rfl (.nil))))) (.nil)) ?_
      obtain ⟨j19, hj19, h⟩ := joinE h
      refine .cutI (fun T => (∃ (v17 : (List Int)), T = St.of [(0, .sl 5 .ro (a0.map (PV.int .u8))), (11, .sl 5 .ro (y8.1.map (PV.int .u8))), (13, .sl 5 (.own (.row 9018 0)) (v17.map (PV.int .u8)))] [] ∧ j19 v17 = some r)) ?_ ?_
      · refine .seq ?_
        refine .region ?_
        refine .move ?_
        refine .val ?_ (hc := by decide)
        refine .val ?_
        refine .nil ?_
        refine .cond (fun hc20 => ?_) (fun hc20 => ?_)
        · replace h := (if_pos hc20).symm.trans h
          refine .region ?_
          refine .move ?_
          refine .move ?_
          refine .lenL (f := (PV.int .u8)) ?_
          refine .move ?_
          refine .val ?_
          refine .move ?_
          refine .lenL (f := (PV.int .u8)) ?_
          obtain ⟨x21, hx21, h⟩ := bindE h
          refine .remL hx21 ?_
          refine .val ?_
          obtain ⟨x22, hx22, h⟩ := bindE h
          refine .preO (f := (PV.int .u8)) hx22 ?_
          refine .assign ?_
          refine .nil ?_
          exact ⟨_, ⟨_, rfl, h⟩, (Imp.trans (Imp.swap (.row 6 5) (.row 9018 0) rfl rfl rfl) (imp_of (.cons rfl (.cons rfl (.cons rfl (.nil)))) (.nil)))⟩
        · replace h := (if_neg (nt hc20)).symm.trans h
          refine .skip ?_
          exact ⟨_, ⟨_, rfl, h⟩, (Imp.trans (Imp.swap (.row 6 5) (.row 9018 0) rfl rfl rfl) (imp_of (.cons rfl (.cons rfl (.cons rfl (.nil)))) (.nil)))⟩
      · rintro T ⟨v17, rfl, h⟩
        subst hj19
        obtain ⟨j57, hj57, h⟩ := joinE h
        refine .cutI (fun T => (T = St.of [] [] ∧ j57 () = some r)) ?_ ?_
        · refine .seq ?_
          refine .region ?_
          refine .move ?_
          refine .move ?_
          refine .move ?_
          obtain ⟨y58, hy58, h⟩ := bindE h
          refine .cP (g42r hy58) ?_
          refine .move ?_
          obtain ⟨y59, hy59, h⟩ := bindE h
          refine .freeze (.row 9018 0) ?_
          refine .cP (g42r hy59) ?_
          refine .move ?_
          refine .litR (f := pv22) ([a0, y8.1, y58, y59, v17] : List (List Int)) ?_
          refine .lenL (f := pv22) ?_
          refine .move ?_
          refine .nil ?_
          refine .block ?_
          refine .loopI (fun m T => ∃ (v70 : Int), T = St.of [(68, .sl 22 .ro (([a0, y8.1, y58, y59, v17] : List (List Int)).map pv22)), (69, .int .i64 (([a0, y8.1, y58, y59, v17] : List (List Int)).length : Int)), (70, .int .i64 v70)] [] ∧ f15_l1 n a0 y8 v17 j57 y58 y59 m v70 = some r) _ _ ⟨_, rfl, h⟩ (imp_of (.cons rfl (.cons rfl (.cons rfl (.nil)))) (.nil)) ?_
          rintro m82 T ⟨v70, rfl, h⟩
          obtain _ | m82 := m82
          · rw [f15_l1] at h; cases h
          rw [f15_l1] at h
          refine .seq ?_
          refine .region ?_
          refine .val ?_
          refine .nil ?_
          refine .seq ?_
          refine .cond (fun hc84 => ?_) (fun hc84 => ?_)
          · replace h := (if_pos hc84).symm.trans h
            refine .skip ?_
            refine .seq ?_
            refine .block ?_
            refine .seq ?_
            refine .region ?_
            obtain ⟨x94, hx94, h⟩ := bindE h
            refine .idxL (f := pv22) hx94 ?_
            refine .ldL hx94 (y := .sl 5 .ro (x94.map (PV.int .u8))) ?_
            refine .assign ?_
            refine .nil ?_
            refine .seq ?_
            refine .region ?_
            refine .move ?_
            obtain ⟨y95, hy95, h⟩ := bindE h
            refine .cP (g41 hy95) ?_
            refine .move ?_
            refine .val ?_
            refine .val ?_
            refine .allocL (cs := [.int .u64 0, .str (⟨#[]⟩ : ByteArray), .int .i64 0, .int .i64 0, .int .i64 0, .int .i64 0, .int .i64 0, .sl 94 .full []]) ?_
            refine .wrL (cs := [.int .u64 y95.1.ID, .str y95.1.Name, .int .i64 y95.1.Direction, .int .i64 y95.1.Domain, .int .i64 y95.1.Latency, .int .i64 y95.1.Drift, .int .i64 y95.1.Jitter, .sl 94 .ro (y95.1.Boxes.map pv94)]) ?_
            refine .assign ?_
            refine .nil ?_
            refine .seq ?_
            refine .region ?_
            refine .move ?_
            obtain ⟨y96, hy96, h⟩ := bindE h
            refine .cP (g58 hy96) ?_
            refine .move ?_
            refine .val ?_
            refine .val ?_
            refine .allocL (cs := [.int .u64 0, .str (⟨#[]⟩ : ByteArray), .int .i64 0, .int .i64 0, .int .i64 0, .int .i64 0, .int .i64 0, .sl 94 .full []]) ?_
            refine .wrL (cs := [.int .u64 y96.1.ID, .str y96.1.Name, .int .i64 y96.1.Direction, .int .i64 y96.1.Domain, .int .i64 y96.1.Latency, .int .i64 y96.1.Drift, .int .i64 y96.1.Jitter, .sl 94 .ro (y96.1.Boxes.map pv94)]) ?_
            refine .assign ?_
            refine .nil ?_
            obtain ⟨j99, hj99, h⟩ := joinE h
            obtain ⟨j101, hj101, h⟩ := joinE h
            refine .cutI (fun T => (T = St.of [(68, .sl 22 .ro (([a0, y8.1, y58, y59, v17] : List (List Int)).map pv22)), (69, .int .i64 (([a0, y8.1, y58, y59, v17] : List (List Int)).length : Int)), (70, .int .i64 v70), (92, .bool true)] [] ∧ j99 () = some r) ∨ (∃ (v100 : Bool), T = St.of [(68, .sl 22 .ro (([a0, y8.1, y58, y59, v17] : List (List Int)).map pv22)), (69, .int .i64 (([a0, y8.1, y58, y59, v17] : List (List Int)).length : Int)), (70, .int .i64 v70), (92, .bool v100)] [] ∧ j101 v100 = some r)) ?_ ?_
            · refine .region ?_
              refine .move ?_
              refine .move ?_
              refine .val ?_
              refine .move ?_
              refine .caseG (fun hc102 => ?_) (fun hc102 => ?_)
              · replace h := (if_pos hc102).symm.trans h
                refine .skip ?_
                refine .skip ?_
                refine .skip ?_
                refine .skip ?_
                refine .brT ?_
                refine .nil ?_
                exact ⟨_, (.inl ⟨rfl, h⟩), (imp_of (.cons rfl (.cons rfl (.cons rfl (.cons rfl (.nil))))) (.nil))⟩
              · replace h := (if_neg (nt hc102)).symm.trans h
                refine .val (v := .agg [.int .u64 y95.1.ID, .str y95.1.Name, .int .i64 y95.1.Direction, .int .i64 y95.1.Domain, .int .i64 y95.1.Latency, .int .i64 y95.1.Drift, .int .i64 y95.1.Jitter, .sl 94 .ro (y95.1.Boxes.map pv94)]) ?_
                refine .val (v := .agg [.int .u64 y96.1.ID, .str y96.1.Name, .int .i64 y96.1.Direction, .int .i64 y96.1.Domain, .int .i64 y96.1.Latency, .int .i64 y96.1.Drift, .int .i64 y96.1.Jitter, .sl 94 .ro (y96.1.Boxes.map pv94)]) ?_
                obtain ⟨y103, hy103, h⟩ := bindE h
                refine .cP (g59 hy103) ?_
                refine .val ?_
                refine .brF ?_
                refine .nil ?_
                exact ⟨_, (.inr (⟨_, rfl, h⟩)), (imp_of (.cons rfl (.cons rfl (.cons rfl (.cons rfl (.nil))))) (.nil))⟩
            · rintro T (⟨rfl, h⟩ | ⟨v100, rfl, h⟩)
              · subst hj99
                refine .condT ?_
                refine .seq ?_
                refine .region ?_
                refine .assign ?_
                refine .nil ?_
                cases h
                exact .ret (fin_gen0 none)
              · subst hj101
                refine .cond (fun hc104 => ?_) (fun hc104 => ?_)
                · replace h := (if_pos hc104).symm.trans h
                  refine .seq ?_
                  refine .region ?_
                  refine .assign ?_
                  refine .nil ?_
                  cases h
                  exact .ret (fin_gen0 none)
                · replace h := (if_neg (nt hc104)).symm.trans h
                  refine .skip ?_
                  refine .region ?_
                  refine .val ?_
                  refine .move ?_
                  refine .nil ?_
                  exact ⟨m82, _, Nat.lt_succ_self m82, ⟨_, rfl, h⟩, (imp_of (.cons rfl (.cons rfl (.cons rfl (.nil)))) (.nil))⟩
          · replace h := (if_neg (nt hc84)).symm.trans h
            refine .exit (.hit ?_)
            exact ⟨_, ⟨rfl, h⟩, (imp_of (.nil) (.nil))⟩
        · rintro T ⟨rfl, h⟩
          subst hj57
          refine .seq ?_
          refine .region ?_
          refine .assign ?_
          refine .nil ?_
          cases h
          exact .ret (fin_gen0 none)
end Go.Proofs.Ytcahjpkmldmjdaa
