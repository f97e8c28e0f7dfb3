/-
  Plain functions of soundservicelaw30, and that the code does what they say.
-/
import Derived.Test.YtacdknbakjbpiaaGe
namespace Go.Proofs.Ytacdknbakjbpiaa
open Go Ab
/- soundservice/soundservicelaw30.ChoicesRemember -/
def f8_l2 (n : Nat) (a2 : Choose) (y16 : (Choose × Deck)) (j251 : Unit → Option Bool) (x252 : Memory) : Nat → Int → Option Bool
  | 0, _ => none
  | m281 + 1, v269 =>
    if decide (v269 < (([(⟨y16.1.Role, y16.1.Set, y16.1.Device⟩ : Choose), (⟨a2.Role, a2.Set, a2.Device⟩ : Choose)] : List Choose).length : Int)) then (
    (lAt ([(⟨y16.1.Role, y16.1.Set, y16.1.Device⟩ : Choose), (⟨a2.Role, a2.Set, a2.Device⟩ : Choose)] : List Choose) v269).bind fun x293 =>
    (f47 n (⟨x252.Choices⟩ : Memory) (⟨x293.Role, x293.Set, x293.Device⟩ : Choose)).bind fun y294 =>
    (f48 n (⟨x252.Choices⟩ : Memory) (⟨x293.Role, x293.Set, x293.Device⟩ : Choose)).bind fun y295 =>
    joinK (fun (_ : Unit) =>
    some false) fun j298 =>
    joinK (fun (v299 : Bool) =>
    if v299 then (
    some false)
    else (
    f8_l2 n a2 y16 j251 x252 m281 (w64 (v269 + (1 : Int))))) fun j300 =>
    if (y294.2 != y295.2) then (
    j298 ())
    else (
    (f49 n (⟨y294.1.Choices⟩ : Memory) (⟨y295.1.Choices⟩ : Memory)).bind fun y302 =>
    j300 (!y302)))
    else (
    j251 ())
def f8_l1 (n : Nat) (a1 : Memory) (a2 : Choose) (y15 : (Memory × Deck)) (y16 : (Choose × Deck)) (j133 : Unit → Option Bool) : Nat → Int → Option Bool
  | 0, _ => none
  | m212 + 1, v172 =>
    if decide (v172 < (([(⟨y15.1.Choices⟩ : Memory), (⟨a1.Choices⟩ : Memory)] : List Memory).length : Int)) then (
    joinK (fun (_ : Unit) =>
    f8_l1 n a1 a2 y15 y16 j133 m212 (w64 (v172 + (1 : Int)))) fun j251 =>
    (lAt ([(⟨y15.1.Choices⟩ : Memory), (⟨a1.Choices⟩ : Memory)] : List Memory) v172).bind fun x252 =>
    (f45 n (⟨x252.Choices⟩ : Memory)).bind fun y256 =>
    (f46 n (⟨x252.Choices⟩ : Memory)).bind fun y257 =>
    if !(y256 == y257) then (
    some false)
    else (
    f8_l2 n a2 y16 j251 x252 n 0))
    else (
    j133 ())
def f8 (n : Nat) (a0 : (List Int)) (a1 : Memory) (a2 : Choose) : Option Bool :=
  (f41 n ).bind fun y3 =>
  if !y3 then (
  some false)
  else (
  joinK (fun (_ : Unit) =>
  some true) fun j10 =>
  joinK (fun (_ : Unit) =>
  if decide ((a2.Set.length : Int) > (12 : Int)) then (
  some true)
  else (
  (f42 n a0).bind fun y14 =>
  (f43 n (⟨y14.L, y14.At⟩ : Deck)).bind fun y15 =>
  (f44 n (⟨y15.2.L, y15.2.At⟩ : Deck)).bind fun y16 =>
  joinK (fun (_ : Unit) =>
  some true) fun j133 =>
  f8_l1 n a1 a2 y15 y16 j133 n 0)) fun j11 =>
  if decide ((a1.Choices.length : Int) > (10 : Int)) then (
  j10 ())
  else (
  j11 ()))
set_option maxHeartbeats 4000000 in
set_option maxRecDepth 100000 in
theorem g8 {n : Nat} {a0 : (List Int)} {a1 : Memory} {a2 : Choose} {r : Bool} (h : f8 n a0 a1 a2 = some r) :
    Ab.Can Try.prog 8 [.sl 3 .ro (a0.map (PV.int .i64)), .agg [.sl 73 .ro (a1.Choices.map pv73)], .agg [.str a2.Role, .sl 71 .ro (a2.Set.map (PV.int .u64)), .int .u64 a2.Device]] H0 (.bool r) H0 := by
  refine can_of tabOK mix Try.call8 Try.func8 rfl (by kernel_rfl) (by show _ ≤ 80; simp) fun _ => ?_
  rw [f8] at h
  refine .seq ?_
  refine .region ?_
  refine .boxL (cs := [.sl 73 .ro (a1.Choices.map pv73)]) ?_
  refine .boxL (cs := [.str a2.Role, .sl 71 .ro (a2.Set.map (PV.int .u64)), .int .u64 a2.Device]) ?_
  refine .assign ?_
  refine .nil ?_
  refine .seq ?_
  refine .seq ?_
  refine .region ?_
  obtain ⟨y3, hy3, h⟩ := bindE h
  refine .cP (g41 hy3) ?_
  refine .val ?_
  refine .nil ?_
  refine .cond (fun hc4 => ?_) (fun hc4 => ?_)
  · replace h := (if_pos hc4).symm.trans h
    refine .seq ?_
    refine .region ?_
    refine .assign ?_
    refine .nil ?_
    cases h
    exact .ret (fin_gen0 none)
  · replace h := (if_neg (nt hc4)).symm.trans h
    refine .skip ?_
    refine .seq ?_
    obtain ⟨j10, hj10, h⟩ := joinE h
    obtain ⟨j11, hj11, h⟩ := joinE h
    refine .cutI (fun T => (T = St.of [(0, .sl 3 .ro (a0.map (PV.int .i64))), (4, .ptr (.loc 0 0) 0), (5, .ptr (.loc 0 1) 0), (29, .bool true)] [((.loc 0 0), [.sl 73 .ro (a1.Choices.map pv73)]), ((.loc 0 1), [.str a2.Role, .sl 71 .ro (a2.Set.map (PV.int .u64)), .int .u64 a2.Device])] ∧ j10 () = some r) ∨ (T = St.of [(0, .sl 3 .ro (a0.map (PV.int .i64))), (4, .ptr (.loc 0 0) 0), (5, .ptr (.loc 0 1) 0), (29, .bool (decide ((a2.Set.length : Int) > (12 : Int))))] [((.loc 0 0), [.sl 73 .ro (a1.Choices.map pv73)]), ((.loc 0 1), [.str a2.Role, .sl 71 .ro (a2.Set.map (PV.int .u64)), .int .u64 a2.Device])] ∧ j11 () = some r)) ?_ ?_
    · refine .region ?_
      refine .val ?_
      refine .val ?_
      refine .lenL (f := pv73) ?_
      refine .val ?_
      refine .move ?_
      refine .caseG (fun hc12 => ?_) (fun hc12 => ?_)
      · replace h := (if_pos hc12).symm.trans h
        refine .skip ?_
        refine .skip ?_
        refine .skip ?_
        refine .skip ?_
        refine .brT ?_
        refine .nil ?_
        exact ⟨_, (.inl ⟨rfl, h⟩), (imp_of (.cons rfl (.cons rfl (.cons rfl (.cons rfl (.nil))))) (.cons rfl (.cons rfl (.nil))))⟩
      · replace h := (if_neg (nt hc12)).symm.trans h
        refine .val ?_
        refine .val ?_
        refine .lenL (f := (PV.int .u64)) ?_
        refine .val ?_
        refine .brF ?_
        refine .nil ?_
        exact ⟨_, (.inr (⟨rfl, h⟩)), (imp_of (.cons rfl (.cons rfl (.cons rfl (.cons rfl (.nil))))) (.cons rfl (.cons rfl (.nil))))⟩
    · rintro T (⟨rfl, h⟩ | ⟨rfl, h⟩)
      · subst hj10
        refine .condT ?_
        refine .seq ?_
        refine .region ?_
        refine .assign ?_
        refine .nil ?_
        cases h
        exact .ret (fin_gen0 none)
      · subst hj11
        refine .cond (fun hc13 => ?_) (fun hc13 => ?_)
        · replace h := (if_pos hc13).symm.trans h
          refine .seq ?_
          refine .region ?_
          refine .assign ?_
          refine .nil ?_
          cases h
          exact .ret (fin_gen0 none)
        · replace h := (if_neg (nt hc13)).symm.trans h
          refine .skip ?_
          refine .seq ?_
          refine .region ?_
          refine .move ?_
          obtain ⟨y14, hy14, h⟩ := bindE h
          refine .cB (.loc 5 1) (g42 hy14) ?_
          refine .assign ?_
          refine .nil ?_
          refine .seq ?_
          refine .region ?_
          refine .move ?_
          obtain ⟨y15, hy15, h⟩ := bindE h
          refine .cH (.loc 5 1) (g43 hy15) ?_
          refine .move ?_
          obtain ⟨y16, hy16, h⟩ := bindE h
          refine .cH (.loc 5 1) (g44 hy16) ?_
          refine .allocL (cs := [.sl 73 .full []]) ?_
          refine .allocL (cs := [.str (⟨#[]⟩ : ByteArray), .sl 71 .full [], .int .u64 0]) ?_
          refine .wrL (cs := [.sl 73 .ro (y15.1.Choices.map pv73)]) ?_
          refine .wrL (cs := [.str y16.1.Role, .sl 71 .ro (y16.1.Set.map (PV.int .u64)), .int .u64 y16.1.Device]) ?_
          refine .nil ?_
          obtain ⟨j133, hj133, h⟩ := joinE h
          refine .cutI (fun T => (T = St.of [] [] ∧ j133 () = some r)) ?_ ?_
          · refine .seq ?_
            refine .region ?_
            refine .val (v := .agg [.sl 73 .ro (y15.1.Choices.map pv73)]) ?_
            refine .val (v := .agg [.sl 73 .ro (a1.Choices.map pv73)]) ?_
            refine .litR (f := pv69) ([(⟨y15.1.Choices⟩ : Memory), (⟨a1.Choices⟩ : Memory)] : List Memory) ?_
            refine .lenL (f := pv69) ?_
            refine .move ?_
            refine .nil ?_
            refine .block ?_
            refine .loopI (fun m T => ∃ (v172 : Int), T = St.of [(5, .ptr (.loc 0 1) 0), (9, .ptr (.loc 6 5) 0), (38, .sl 69 .ro (([(⟨y15.1.Choices⟩ : Memory), (⟨a1.Choices⟩ : Memory)] : List Memory).map pv69)), (39, .int .i64 (([(⟨y15.1.Choices⟩ : Memory), (⟨a1.Choices⟩ : Memory)] : List Memory).length : Int)), (40, .int .i64 v172)] [((.loc 0 1), [.str a2.Role, .sl 71 .ro (a2.Set.map (PV.int .u64)), .int .u64 a2.Device]), ((.loc 6 5), [.str y16.1.Role, .sl 71 .ro (y16.1.Set.map (PV.int .u64)), .int .u64 y16.1.Device])] ∧ f8_l1 n a1 a2 y15 y16 j133 m v172 = some r) _ _ ⟨_, rfl, h⟩ (imp_of (.cons rfl (.cons rfl (.cons rfl (.cons rfl (.cons rfl (.nil)))))) (.cons rfl (.cons rfl (.nil)))) ?_
            rintro m212 T ⟨v172, rfl, h⟩
            obtain _ | m212 := m212
            · rw [f8_l1] at h; cases h
            rw [f8_l1] at h
            refine .seq ?_
            refine .region ?_
            refine .val ?_
            refine .nil ?_
            refine .seq ?_
            refine .cond (fun hc214 => ?_) (fun hc214 => ?_)
            · replace h := (if_pos hc214).symm.trans h
              refine .skip ?_
              obtain ⟨j251, hj251, h⟩ := joinE h
              refine .cutI (fun T => (T = St.of [(5, .ptr (.loc 0 1) 0), (9, .ptr (.loc 6 5) 0), (38, .sl 69 .ro (([(⟨y15.1.Choices⟩ : Memory), (⟨a1.Choices⟩ : Memory)] : List Memory).map pv69)), (39, .int .i64 (([(⟨y15.1.Choices⟩ : Memory), (⟨a1.Choices⟩ : Memory)] : List Memory).length : Int)), (40, .int .i64 v172)] [((.loc 0 1), [.str a2.Role, .sl 71 .ro (a2.Set.map (PV.int .u64)), .int .u64 a2.Device]), ((.loc 6 5), [.str y16.1.Role, .sl 71 .ro (y16.1.Set.map (PV.int .u64)), .int .u64 y16.1.Device])] ∧ j251 () = some r)) ?_ ?_
              · refine .block ?_
                refine .seq ?_
                refine .region ?_
                obtain ⟨x252, hx252, h⟩ := bindE h
                refine .idxL (f := pv69) hx252 ?_
                refine .ldL hx252 (y := .agg [.sl 73 .ro (x252.Choices.map pv73)]) ?_
                refine .allocL (cs := [.sl 73 .full []]) ?_
                refine .wrL (cs := [.sl 73 .ro (x252.Choices.map pv73)]) ?_
                refine .nil ?_
                refine .seq ?_
                refine .seq ?_
                obtain ⟨y256, hy256, h⟩ := bindE h
                obtain ⟨y257, hy257, h⟩ := bindE h
                refine .draw [] [[], [], [], [], []] [[], [], [], [], []] [[]]
                  [(0, 0), (1, 0), (2, 0), (3, 0), (4, 0)] [] 0
                  [⟨[(44, .agg [.sl 73 .ro (x252.Choices.map pv73)]), (45, .bool y256), (46, .agg [.sl 73 .ro (x252.Choices.map pv73)]), (47, .bool y257), (48, .bool (!(y256 == y257))), (5, .ptr (.loc 0 1) 0), (9, .ptr (.loc 6 5) 0), (11, .ptr (.loc 9 2) 0), (38, .sl 69 .ro (([(⟨y15.1.Choices⟩ : Memory), (⟨a1.Choices⟩ : Memory)] : List Memory).map pv69)), (39, .int .i64 (([(⟨y15.1.Choices⟩ : Memory), (⟨a1.Choices⟩ : Memory)] : List Memory).length : Int)), (40, .int .i64 v172)], [], [((.loc 0 1), [.str a2.Role, .sl 71 .ro (a2.Set.map (PV.int .u64)), .int .u64 a2.Device]), ((.loc 6 5), [.str y16.1.Role, .sl 71 .ro (y16.1.Set.map (PV.int .u64)), .int .u64 y16.1.Device]), ((.loc 9 2), [.sl 73 .ro (x252.Choices.map pv73)])]⟩]
                  [(5, .ptr (.loc 0 1) 0), (9, .ptr (.loc 6 5) 0), (11, .ptr (.loc 9 2) 0), (38, .sl 69 .ro (([(⟨y15.1.Choices⟩ : Memory), (⟨a1.Choices⟩ : Memory)] : List Memory).map pv69)), (39, .int .i64 (([(⟨y15.1.Choices⟩ : Memory), (⟨a1.Choices⟩ : Memory)] : List Memory).length : Int)), (40, .int .i64 v172)]
                  (.cons [11] [] (fun _ _ h => .val (h _)) rfl rfl <|
                  .cons [44] [] (fun _ _ h => .cP (g45 hy256) (h _)) rfl rfl <|
                  .cons [11] [] (fun _ _ h => .val (h _)) rfl rfl <|
                  .cons [46] [] (fun _ _ h => .cP (g46 hy257) (h _)) rfl rfl <|
                  .cons [45, 47] [] (fun _ _ h => .val (h _)) rfl rfl <|
                  .nil)
                  (.nil)
                  (by kernel_rfl) rfl (.cons rfl (.cons rfl (.cons rfl (.cons rfl (.cons rfl (.cons rfl (.nil))))))) (.nil) (.cons rfl (.cons rfl (.cons rfl (.nil)))) ?_
                refine .imp (T := St.of [(5, .ptr (.loc 0 1) 0), (9, .ptr (.loc 6 5) 0), (11, .ptr (.loc 9 2) 0), (38, .sl 69 .ro (([(⟨y15.1.Choices⟩ : Memory), (⟨a1.Choices⟩ : Memory)] : List Memory).map pv69)), (39, .int .i64 (([(⟨y15.1.Choices⟩ : Memory), (⟨a1.Choices⟩ : Memory)] : List Memory).length : Int)), (40, .int .i64 v172), (48, .bool (!(y256 == y257)))] [((.loc 0 1), [.str a2.Role, .sl 71 .ro (a2.Set.map (PV.int .u64)), .int .u64 a2.Device]), ((.loc 6 5), [.str y16.1.Role, .sl 71 .ro (y16.1.Set.map (PV.int .u64)), .int .u64 y16.1.Device]), ((.loc 9 2), [.sl 73 .ro (x252.Choices.map pv73)])]) (imp_of (.cons rfl (.cons rfl (.cons rfl (.cons rfl (.cons rfl (.cons rfl (.cons rfl (.nil)))))))) (.cons rfl (.cons rfl (.cons rfl (.nil))))) ?_
                refine .cond (fun hc258 => ?_) (fun hc258 => ?_)
                · replace h := (if_pos hc258).symm.trans h
                  refine .seq ?_
                  refine .region ?_
                  refine .assign ?_
                  refine .nil ?_
                  cases h
                  exact .ret (fin_gen0 none)
                · replace h := (if_neg (nt hc258)).symm.trans h
                  refine .skip ?_
                  refine .seq ?_
                  refine .region ?_
                  refine .val (v := .agg [.str y16.1.Role, .sl 71 .ro (y16.1.Set.map (PV.int .u64)), .int .u64 y16.1.Device]) ?_
                  refine .val (v := .agg [.str a2.Role, .sl 71 .ro (a2.Set.map (PV.int .u64)), .int .u64 a2.Device]) ?_
                  refine .litR (f := pv73) ([(⟨y16.1.Role, y16.1.Set, y16.1.Device⟩ : Choose), (⟨a2.Role, a2.Set, a2.Device⟩ : Choose)] : List Choose) ?_
                  refine .lenL (f := pv73) ?_
                  refine .move ?_
                  refine .nil ?_
                  refine .block ?_
                  refine .loopI (fun m T => ∃ (v269 : Int), T = St.of [(5, .ptr (.loc 0 1) 0), (9, .ptr (.loc 6 5) 0), (11, .ptr (.loc 9 2) 0), (38, .sl 69 .ro (([(⟨y15.1.Choices⟩ : Memory), (⟨a1.Choices⟩ : Memory)] : List Memory).map pv69)), (39, .int .i64 (([(⟨y15.1.Choices⟩ : Memory), (⟨a1.Choices⟩ : Memory)] : List Memory).length : Int)), (40, .int .i64 v172), (51, .sl 73 .ro (([(⟨y16.1.Role, y16.1.Set, y16.1.Device⟩ : Choose), (⟨a2.Role, a2.Set, a2.Device⟩ : Choose)] : List Choose).map pv73)), (52, .int .i64 (([(⟨y16.1.Role, y16.1.Set, y16.1.Device⟩ : Choose), (⟨a2.Role, a2.Set, a2.Device⟩ : Choose)] : List Choose).length : Int)), (53, .int .i64 v269)] [((.loc 0 1), [.str a2.Role, .sl 71 .ro (a2.Set.map (PV.int .u64)), .int .u64 a2.Device]), ((.loc 6 5), [.str y16.1.Role, .sl 71 .ro (y16.1.Set.map (PV.int .u64)), .int .u64 y16.1.Device]), ((.loc 9 2), [.sl 73 .ro (x252.Choices.map pv73)])] ∧ f8_l2 n a2 y16 j251 x252 m v269 = some r) _ _ ⟨_, rfl, h⟩ (imp_of (.cons rfl (.cons rfl (.cons rfl (.cons rfl (.cons rfl (.cons rfl (.cons rfl (.cons rfl (.cons rfl (.nil)))))))))) (.cons rfl (.cons rfl (.cons rfl (.nil))))) ?_
                  rintro m281 T ⟨v269, rfl, h⟩
                  obtain _ | m281 := m281
                  · rw [f8_l2] at h; cases h
                  rw [f8_l2] at h
                  refine .seq ?_
                  refine .region ?_
                  refine .val ?_
                  refine .nil ?_
                  refine .seq ?_
                  refine .cond (fun hc283 => ?_) (fun hc283 => ?_)
                  · replace h := (if_pos hc283).symm.trans h
                    refine .skip ?_
                    refine .seq ?_
                    refine .block ?_
                    refine .seq ?_
                    refine .region ?_
                    obtain ⟨x293, hx293, h⟩ := bindE h
                    refine .idxL (f := pv73) hx293 ?_
                    refine .ldL hx293 (y := .agg [.str x293.Role, .sl 71 .ro (x293.Set.map (PV.int .u64)), .int .u64 x293.Device]) ?_
                    refine .allocL (cs := [.str (⟨#[]⟩ : ByteArray), .sl 71 .full [], .int .u64 0]) ?_
                    refine .wrL (cs := [.str x293.Role, .sl 71 .ro (x293.Set.map (PV.int .u64)), .int .u64 x293.Device]) ?_
                    refine .nil ?_
                    refine .seq ?_
                    refine .region ?_
                    refine .val (v := .agg [.sl 73 .ro (x252.Choices.map pv73)]) ?_
                    refine .val (v := .agg [.str x293.Role, .sl 71 .ro (x293.Set.map (PV.int .u64)), .int .u64 x293.Device]) ?_
                    obtain ⟨y294, hy294, h⟩ := bindE h
                    refine .cP (g47 hy294) ?_
                    refine .move ?_
                    refine .val ?_
                    refine .val ?_
                    refine .allocL (cs := [.sl 73 .full []]) ?_
                    refine .wrL (cs := [.sl 73 .ro (y294.1.Choices.map pv73)]) ?_
                    refine .assign ?_
                    refine .nil ?_
                    refine .seq ?_
                    refine .region ?_
                    refine .val (v := .agg [.sl 73 .ro (x252.Choices.map pv73)]) ?_
                    refine .val (v := .agg [.str x293.Role, .sl 71 .ro (x293.Set.map (PV.int .u64)), .int .u64 x293.Device]) ?_
                    obtain ⟨y295, hy295, h⟩ := bindE h
                    refine .cP (g48 hy295) ?_
                    refine .move ?_
                    refine .val ?_
                    refine .val ?_
                    refine .allocL (cs := [.sl 73 .full []]) ?_
                    refine .wrL (cs := [.sl 73 .ro (y295.1.Choices.map pv73)]) ?_
                    refine .assign ?_
                    refine .nil ?_
                    refine .imp (T := St.of [(5, .ptr (.loc 0 1) 0), (9, .ptr (.loc 6 5) 0), (11, .ptr (.loc 9 2) 0), (14, .ptr (.loc 15 6) 0), (15, .int .i64 y294.2), (16, .ptr (.loc 16 6) 0), (17, .int .i64 y295.2), (38, .sl 69 .ro (([(⟨y15.1.Choices⟩ : Memory), (⟨a1.Choices⟩ : Memory)] : List Memory).map pv69)), (39, .int .i64 (([(⟨y15.1.Choices⟩ : Memory), (⟨a1.Choices⟩ : Memory)] : List Memory).length : Int)), (40, .int .i64 v172), (51, .sl 73 .ro (([(⟨y16.1.Role, y16.1.Set, y16.1.Device⟩ : Choose), (⟨a2.Role, a2.Set, a2.Device⟩ : Choose)] : List Choose).map pv73)), (52, .int .i64 (([(⟨y16.1.Role, y16.1.Set, y16.1.Device⟩ : Choose), (⟨a2.Role, a2.Set, a2.Device⟩ : Choose)] : List Choose).length : Int)), (53, .int .i64 v269)] [((.loc 0 1), [.str a2.Role, .sl 71 .ro (a2.Set.map (PV.int .u64)), .int .u64 a2.Device]), ((.loc 6 5), [.str y16.1.Role, .sl 71 .ro (y16.1.Set.map (PV.int .u64)), .int .u64 y16.1.Device]), ((.loc 9 2), [.sl 73 .ro (x252.Choices.map pv73)]), ((.loc 15 6), [.sl 73 .ro (y294.1.Choices.map pv73)]), ((.loc 16 6), [.sl 73 .ro (y295.1.Choices.map pv73)])]) (imp_of (.cons rfl (.cons rfl (.cons rfl (.cons rfl (.cons rfl (.cons rfl (.cons rfl (.cons rfl (.cons rfl (.cons rfl (.cons rfl (.cons rfl (.cons rfl (.nil)))))))))))))) (.cons rfl (.cons rfl (.cons rfl (.cons rfl (.cons rfl (.nil))))))) ?_
                    obtain ⟨j298, hj298, h⟩ := joinE h
                    obtain ⟨j300, hj300, h⟩ := joinE h
                    refine .cutI (fun T => (T = St.of [(5, .ptr (.loc 0 1) 0), (9, .ptr (.loc 6 5) 0), (11, .ptr (.loc 9 2) 0), (38, .sl 69 .ro (([(⟨y15.1.Choices⟩ : Memory), (⟨a1.Choices⟩ : Memory)] : List Memory).map pv69)), (39, .int .i64 (([(⟨y15.1.Choices⟩ : Memory), (⟨a1.Choices⟩ : Memory)] : List Memory).length : Int)), (40, .int .i64 v172), (51, .sl 73 .ro (([(⟨y16.1.Role, y16.1.Set, y16.1.Device⟩ : Choose), (⟨a2.Role, a2.Set, a2.Device⟩ : Choose)] : List Choose).map pv73)), (52, .int .i64 (([(⟨y16.1.Role, y16.1.Set, y16.1.Device⟩ : Choose), (⟨a2.Role, a2.Set, a2.Device⟩ : Choose)] : List Choose).length : Int)), (53, .int .i64 v269), (77, .bool true)] [((.loc 0 1), [.str a2.Role, .sl 71 .ro (a2.Set.map (PV.int .u64)), .int .u64 a2.Device]), ((.loc 6 5), [.str y16.1.Role, .sl 71 .ro (y16.1.Set.map (PV.int .u64)), .int .u64 y16.1.Device]), ((.loc 9 2), [.sl 73 .ro (x252.Choices.map pv73)])] ∧ j298 () = some r) ∨ (∃ (v299 : Bool), T = St.of [(5, .ptr (.loc 0 1) 0), (9, .ptr (.loc 6 5) 0), (11, .ptr (.loc 9 2) 0), (38, .sl 69 .ro (([(⟨y15.1.Choices⟩ : Memory), (⟨a1.Choices⟩ : Memory)] : List Memory).map pv69)), (39, .int .i64 (([(⟨y15.1.Choices⟩ : Memory), (⟨a1.Choices⟩ : Memory)] : List Memory).length : Int)), (40, .int .i64 v172), (51, .sl 73 .ro (([(⟨y16.1.Role, y16.1.Set, y16.1.Device⟩ : Choose), (⟨a2.Role, a2.Set, a2.Device⟩ : Choose)] : List Choose).map pv73)), (52, .int .i64 (([(⟨y16.1.Role, y16.1.Set, y16.1.Device⟩ : Choose), (⟨a2.Role, a2.Set, a2.Device⟩ : Choose)] : List Choose).length : Int)), (53, .int .i64 v269), (77, .bool v299)] [((.loc 0 1), [.str a2.Role, .sl 71 .ro (a2.Set.map (PV.int .u64)), .int .u64 a2.Device]), ((.loc 6 5), [.str y16.1.Role, .sl 71 .ro (y16.1.Set.map (PV.int .u64)), .int .u64 y16.1.Device]), ((.loc 9 2), [.sl 73 .ro (x252.Choices.map pv73)])] ∧ j300 v299 = some r)) ?_ ?_
                    · refine .region ?_
                      refine .move ?_
                      refine .move ?_
                      refine .val ?_
                      refine .move ?_
                      refine .caseG (fun hc301 => ?_) (fun hc301 => ?_)
                      · replace h := (if_pos hc301).symm.trans h
                        refine .skip ?_
                        refine .skip ?_
                        refine .skip ?_
                        refine .skip ?_
                        refine .brT ?_
                        refine .nil ?_
                        exact ⟨_, (.inl ⟨rfl, h⟩), (imp_of (.cons rfl (.cons rfl (.cons rfl (.cons rfl (.cons rfl (.cons rfl (.cons rfl (.cons rfl (.cons rfl (.cons rfl (.nil))))))))))) (.cons rfl (.cons rfl (.cons rfl (.nil)))))⟩
                      · replace h := (if_neg (nt hc301)).symm.trans h
                        refine .val (v := .agg [.sl 73 .ro (y294.1.Choices.map pv73)]) ?_
                        refine .val (v := .agg [.sl 73 .ro (y295.1.Choices.map pv73)]) ?_
                        obtain ⟨y302, hy302, h⟩ := bindE h
                        refine .cP (g49 hy302) ?_
                        refine .val ?_
                        refine .brF ?_
                        refine .nil ?_
                        exact ⟨_, (.inr (⟨_, rfl, h⟩)), (imp_of (.cons rfl (.cons rfl (.cons rfl (.cons rfl (.cons rfl (.cons rfl (.cons rfl (.cons rfl (.cons rfl (.cons rfl (.nil))))))))))) (.cons rfl (.cons rfl (.cons rfl (.nil)))))⟩
                    · rintro T (⟨rfl, h⟩ | ⟨v299, rfl, h⟩)
                      · subst hj298
                        refine .condT ?_
                        refine .seq ?_
                        refine .region ?_
                        refine .assign ?_
                        refine .nil ?_
                        cases h
                        exact .ret (fin_gen0 none)
                      · subst hj300
                        refine .cond (fun hc303 => ?_) (fun hc303 => ?_)
                        · replace h := (if_pos hc303).symm.trans h
                          refine .seq ?_
                          refine .region ?_
                          refine .assign ?_
                          refine .nil ?_
                          cases h
                          exact .ret (fin_gen0 none)
                        · replace h := (if_neg (nt hc303)).symm.trans h
                          refine .skip ?_
                          refine .region ?_
                          refine .val ?_
                          refine .move ?_
                          refine .nil ?_
                          exact ⟨m281, _, Nat.lt_succ_self m281, ⟨_, rfl, h⟩, (imp_of (.cons rfl (.cons rfl (.cons rfl (.cons rfl (.cons rfl (.cons rfl (.cons rfl (.cons rfl (.cons rfl (.nil)))))))))) (.cons rfl (.cons rfl (.cons rfl (.nil)))))⟩
                  · replace h := (if_neg (nt hc283)).symm.trans h
                    refine .exit (.hit ?_)
                    exact ⟨_, ⟨rfl, h⟩, (imp_of (.cons rfl (.cons rfl (.cons rfl (.cons rfl (.cons rfl (.nil)))))) (.cons rfl (.cons rfl (.nil))))⟩
              · rintro T ⟨rfl, h⟩
                subst hj251
                refine .region ?_
                refine .val ?_
                refine .move ?_
                refine .nil ?_
                exact ⟨m212, _, Nat.lt_succ_self m212, ⟨_, rfl, h⟩, (imp_of (.cons rfl (.cons rfl (.cons rfl (.cons rfl (.cons rfl (.nil)))))) (.cons rfl (.cons rfl (.nil))))⟩
            · replace h := (if_neg (nt hc214)).symm.trans h
              refine .exit (.hit ?_)
              exact ⟨_, ⟨rfl, h⟩, (imp_of (.nil) (.nil))⟩
          · rintro T ⟨rfl, h⟩
            subst hj133
            refine .seq ?_
            refine .region ?_
            refine .assign ?_
            refine .nil ?_
            cases h
            exact .ret (fin_gen0 none)
end Go.Proofs.Ytacdknbakjbpiaa
