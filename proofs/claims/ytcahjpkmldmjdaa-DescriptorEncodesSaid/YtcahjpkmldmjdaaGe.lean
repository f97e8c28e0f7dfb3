/-
  Plain functions of soundservicelaw11, soundservicemade, soundserviceref09, and that the code does what they say.
-/
import Derived.Test.YtcahjpkmldmjdaaGd
namespace Go.Proofs.Ytcahjpkmldmjdaa
open Go Ab
/- soundservice/soundserviceref09.joined -/
def f134_l2 (n : Nat) (v131 : (List Span)) (x199 : Span) (j221 : Int → Option (List Span)) : Nat → Int → Option (List Span)
  | 0, _ => none
  | m236 + 1, v228 =>
    joinK (fun (v245 : Bool) =>
    if v245 then (
    f134_l2 n v131 x199 j221 m236 (w64 (v228 - (1 : Int))))
    else (
    j221 v228)) fun j246 =>
    joinK (fun (_ : Unit) =>
    j221 v228) fun j247 =>
    if decide (v228 > (0 : Int)) then (
    (lAt v131 (w64 (v228 - (1 : Int)))).bind fun x249 =>
    j246 (decide (x249.Lo > x199.Lo)))
    else (
    j247 ())
def f134_l1 (n : Nat) (a0 : (List Span)) (j99 : (List Span) → Option (List Span)) : Nat → (List Span) → Int → Option (List Span)
  | 0, _, _ => none
  | m166 + 1, v131, v132 =>
    if decide (v132 < (a0.length : Int)) then (
    joinK (fun (v197 : (List Span)) =>
    f134_l1 n a0 j99 m166 v197 (w64 (v132 + (1 : Int)))) fun j198 =>
    (lAt a0 v132).bind fun x199 =>
    joinK (fun (v220 : Int) =>
    (lPart v131 (0 : Int) v220).bind fun x251 =>
    (lApp ([] : List Span) x251).bind fun x252 =>
    (lApp x252 ([(⟨x199.Lo, x199.Hi⟩ : Span)] : List Span)).bind fun x253 =>
    (lPart v131 v220 (v131.length : Int)).bind fun x254 =>
    (lApp x253 x254).bind fun x255 =>
    j198 x255) fun j221 =>
    f134_l2 n v131 x199 j221 n (v131.length : Int))
    else (
    j99 v131)
def f134_l3 (n : Nat) (v98 : (List Span)) (j311 : (List Span) → Option (List Span)) : Nat → (List Span) → Int → Option (List Span)
  | 0, _, _ => none
  | m350 + 1, v329, v331 =>
    if decide (v331 < (v98.length : Int)) then (
    joinK (fun (v364 : (List Span)) =>
    f134_l3 n v98 j311 m350 v364 (w64 (v331 + (1 : Int)))) fun j366 =>
    (lAt v98 v331).bind fun x367 =>
    joinK (fun (v370 : Bool) =>
    if v370 then (
    (lAt v329 (w64 ((v329.length : Int) - (1 : Int)))).bind fun x376 =>
    (lAt v329 (w64 ((v329.length : Int) - (1 : Int)))).bind fun x377 =>
    j366 (v329.set (w64 ((v329.length : Int) - (1 : Int)) : Int).toNat (⟨x377.Lo, iMax x376.Hi x367.Hi⟩ : Span)))
    else (
    (lApp v329 ([(⟨x367.Lo, x367.Hi⟩ : Span)] : List Span)).bind fun x378 =>
    j366 x378)) fun j371 =>
    joinK (fun (_ : Unit) =>
    (lApp v329 ([(⟨x367.Lo, x367.Hi⟩ : Span)] : List Span)).bind fun x379 =>
    j366 x379) fun j372 =>
    if decide ((w64 ((v329.length : Int) - (1 : Int))) ≥ (0 : Int)) then (
    (lAt v329 (w64 ((v329.length : Int) - (1 : Int)))).bind fun x374 =>
    j371 (decide ((w64 (x367.Lo - (1 : Int))) ≤ x374.Hi)))
    else (
    j372 ()))
    else (
    j311 v329)
def f134 (n : Nat) (a0 : (List Span)) : Option (List Span) :=
  joinK (fun (v98 : (List Span)) =>
  joinK (fun (v309 : (List Span)) =>
  some v309) fun j311 =>
  f134_l3 n v98 j311 n ([] : List Span) 0) fun j99 =>
  f134_l1 n a0 j99 n ([] : List Span) 0
set_option maxHeartbeats 4000000 in
set_option maxRecDepth 100000 in
theorem g134 {n : Nat} {a0 : (List Span)} {r : (List Span)} (h : f134 n a0 = some r) :
    Ab.Can Try.prog 134 [.sl 124 .ro (a0.map pv124)] H0 (.sl 124 (.own (.rrow 0)) (r.map pv124)) H0 := by
  refine can_of tabOK mix Try.call134 Try.func134 rfl (by kernel_rfl) (by show _ ≤ 86; simp) fun _ => ?_
  rw [f134] at h
  refine .seq ?_
  refine .region ?_
  refine .assign ?_
  refine .nil ?_
  refine .seq ?_
  refine .region ?_
  refine .assign ?_
  refine .assign ?_
  refine .nil ?_
  obtain ⟨j99, hj99, h⟩ := joinE h
  refine .cutI (fun T => (∃ (v98 : (List Span)), T = St.of [(3, .sl 124 .ro (v98.map pv124)), (4, .sl 124 .full [])] [] ∧ j99 v98 = some r)) ?_ ?_
  · refine .seq ?_
    refine .region ?_
    refine .move ?_
    refine .lenL (f := pv124) ?_
    refine .move ?_
    refine .nil ?_
    refine .block ?_
    refine .loopI (fun m T => ∃ (v131 : (List Span)) (v132 : Int), T = St.of [(3, .sl 124 .ro (v131.map pv124)), (4, .sl 124 .full []), (11, .sl 124 .ro (a0.map pv124)), (12, .int .i64 (a0.length : Int)), (13, .int .i64 v132)] [] ∧ f134_l1 n a0 j99 m v131 v132 = some r) _ _ ⟨_, _, rfl, h⟩ (imp_of (.wk (.ro _ _) rfl (.cons rfl (.cons rfl (.cons rfl (.cons rfl (.nil)))))) (.nil)) ?_
    rintro m166 T ⟨v131, v132, rfl, h⟩
    obtain _ | m166 := m166
    · rw [f134_l1] at h; cases h
    rw [f134_l1] at h
    refine .seq ?_
    refine .region ?_
    refine .val ?_
    refine .nil ?_
    refine .seq ?_
    refine .cond (fun hc168 => ?_) (fun hc168 => ?_)
    · replace h := (if_pos hc168).symm.trans h
      refine .skip ?_
      obtain ⟨j198, hj198, h⟩ := joinE h
      refine .cutI (fun T => (∃ (v197 : (List Span)), T = St.of [(3, .sl 124 .ro (v197.map pv124)), (4, .sl 124 .full []), (11, .sl 124 .ro (a0.map pv124)), (12, .int .i64 (a0.length : Int)), (13, .int .i64 v132)] [] ∧ j198 v197 = some r)) ?_ ?_
      · refine .block ?_
        refine .seq ?_
        refine .region ?_
        obtain ⟨x199, hx199, h⟩ := bindE h
        refine .idxL (f := pv124) hx199 ?_
        refine .ldL hx199 (y := .agg [.int .i64 x199.Lo, .int .i64 x199.Hi]) ?_
        refine .allocL (cs := [.int .i64 0, .int .i64 0]) ?_
        refine .wrL (cs := [.int .i64 x199.Lo, .int .i64 x199.Hi]) ?_
        refine .nil ?_
        refine .seq ?_
        refine .region ?_
        refine .move ?_
        refine .lenL (f := pv124) ?_
        refine .assign ?_
        refine .nil ?_
        obtain ⟨j221, hj221, h⟩ := joinE h
        refine .cutI (fun T => (∃ (v220 : Int), T = St.of [(3, .sl 124 .ro (v131.map pv124)), (4, .sl 124 .full []), (6, .ptr (.loc 4 2) 0), (7, .int .i64 v220), (11, .sl 124 .ro (a0.map pv124)), (12, .int .i64 (a0.length : Int)), (13, .int .i64 v132)] [((.loc 4 2), [.int .i64 x199.Lo, .int .i64 x199.Hi])] ∧ j221 v220 = some r)) ?_ ?_
        · refine .block ?_
          refine .loopI (fun m T => ∃ (v228 : Int), T = St.of [(3, .sl 124 .ro (v131.map pv124)), (4, .sl 124 .full []), (6, .ptr (.loc 4 2) 0), (7, .int .i64 v228), (11, .sl 124 .ro (a0.map pv124)), (12, .int .i64 (a0.length : Int)), (13, .int .i64 v132)] [((.loc 4 2), [.int .i64 x199.Lo, .int .i64 x199.Hi])] ∧ f134_l2 n v131 x199 j221 m v228 = some r) _ _ ⟨_, rfl, h⟩ (imp_of (.cons rfl (.cons rfl (.cons rfl (.cons rfl (.cons rfl (.cons rfl (.cons rfl (.nil)))))))) (.cons rfl (.nil))) ?_
          rintro m236 T ⟨v228, rfl, h⟩
          obtain _ | m236 := m236
          · rw [f134_l2] at h; cases h
          rw [f134_l2] at h
          refine .seq ?_
          obtain ⟨j246, hj246, h⟩ := joinE h
          obtain ⟨j247, hj247, h⟩ := joinE h
          refine .cutI (fun T => (∃ (v245 : Bool), T = St.of [(3, .sl 124 .ro (v131.map pv124)), (4, .sl 124 .full []), (6, .ptr (.loc 4 2) 0), (7, .int .i64 v228), (11, .sl 124 .ro (a0.map pv124)), (12, .int .i64 (a0.length : Int)), (13, .int .i64 v132), (31, .bool v245)] [((.loc 4 2), [.int .i64 x199.Lo, .int .i64 x199.Hi])] ∧ j246 v245 = some r) ∨ (T = St.of [(3, .sl 124 .ro (v131.map pv124)), (4, .sl 124 .full []), (6, .ptr (.loc 4 2) 0), (7, .int .i64 v228), (11, .sl 124 .ro (a0.map pv124)), (12, .int .i64 (a0.length : Int)), (13, .int .i64 v132), (31, .bool false)] [((.loc 4 2), [.int .i64 x199.Lo, .int .i64 x199.Hi])] ∧ j247 () = some r)) ?_ ?_
          · rcases bool_em (decide (v228 > (0 : Int))) with hc248 | hc248
            · replace h := (if_pos hc248).symm.trans h
              obtain ⟨x249, hx249, h⟩ := bindE h
              refine .draw [] [[], [], [], [], [], [], [], [], [], [], [], [], []] [[], [], [], [], [], [], [], [], [], [], [], [], []] [[]]
                [(0, 0), (1, 0), (2, 0), (3, 0), (4, 0), (5, 0), (6, 0), (7, 0), (8, 0), (9, 0), (10, 0), (11, 0), (12, 0)] [] 0
                [⟨[(19, .int .i64 v228), (20, .bool true), (21, .bool true), (22, .sl 124 .ro (v131.map pv124)), (23, .int .i64 v228), (24, .int .i64 (w64 (v228 - (1 : Int)))), (25, .ep 124 .ro (v131.map pv124) (w64 (v228 - (1 : Int)) : Int).toNat 0), (26, .ep 124 .ro (v131.map pv124) (w64 (v228 - (1 : Int)) : Int).toNat 0), (27, .int .i64 x249.Lo), (28, .ptr (.loc 4 2) 0), (29, .int .i64 x199.Lo), (30, .bool (decide (x249.Lo > x199.Lo))), (31, .bool (decide (x249.Lo > x199.Lo))), (3, .sl 124 .ro (v131.map pv124)), (4, .sl 124 .full []), (6, .ptr (.loc 4 2) 0), (7, .int .i64 v228), (11, .sl 124 .ro (a0.map pv124)), (12, .int .i64 (a0.length : Int)), (13, .int .i64 v132)], [], [((.loc 4 2), [.int .i64 x199.Lo, .int .i64 x199.Hi])]⟩]
                [(3, .sl 124 .ro (v131.map pv124)), (4, .sl 124 .full []), (6, .ptr (.loc 4 2) 0), (7, .int .i64 v228), (11, .sl 124 .ro (a0.map pv124)), (12, .int .i64 (a0.length : Int)), (13, .int .i64 v132)]
                (.cons [7] [] (fun _ _ h => .move (h _)) rfl rfl <|
                .cons [19] [] (fun _ _ h => .valB hc248 (h _)) rfl rfl <|
                .cons [20] [] (fun _ _ h => .move (h _)) rfl rfl <|
                .cons [3, 21] [] (fun _ _ h => .move (h _)) rfl rfl <|
                .cons [7, 21] [] (fun _ _ h => .move (h _)) rfl rfl <|
                .cons [23, 21] [] (fun _ _ h => .val (h _)) rfl rfl <|
                .cons [22, 24, 21] [] (fun _ _ h => .idxL (f := pv124) hx249 (h _)) rfl rfl <|
                .cons [25, 21] [] (fun _ _ h => .val (h _)) rfl rfl <|
                .cons [26, 21] [] (fun _ _ h => .ldL hx249 (h _)) rfl rfl <|
                .cons [6, 21] [] (fun _ _ h => .val (h _)) rfl rfl <|
                .cons [28, 21] [] (fun _ _ h => .val (h _)) rfl rfl <|
                .cons [27, 29, 21] [] (fun _ _ h => .val (h _)) rfl rfl <|
                .cons [21, 30] [] (fun _ _ h => .brT (h _)) rfl rfl <|
                .nil)
                (.nil)
                (by kernel_rfl) rfl (.cons rfl (.cons rfl (.cons rfl (.cons rfl (.cons rfl (.cons rfl (.cons rfl (.nil)))))))) (.nil) (.cons rfl (.nil)) ?_
              exact ⟨_, (.inl ⟨_, rfl, h⟩), (imp_of (.cons rfl (.cons rfl (.cons rfl (.cons rfl (.cons rfl (.cons rfl (.cons rfl (.cons rfl (.nil))))))))) (.cons rfl (.nil)))⟩
            · replace h := (if_neg (nt hc248)).symm.trans h
              refine .draw [] [[], [], [], [], [], [], [], [], [], [], [], [], []] [[], [], [], [], [], [], [], [], [], [], [], [], []] [[]]
                [(0, 0), (1, 0), (2, 0), (3, 0), (4, 0), (5, 0), (6, 0), (7, 0), (8, 0), (9, 0), (10, 0), (11, 0), (12, 0)] [] 0
                [⟨[(19, .int .i64 v228), (20, .bool false), (21, .bool false), (22, .tup []), (23, .tup []), (24, .tup []), (25, .tup []), (26, .tup []), (27, .tup []), (28, .tup []), (29, .tup []), (30, .tup []), (31, .bool false), (3, .sl 124 .ro (v131.map pv124)), (4, .sl 124 .full []), (6, .ptr (.loc 4 2) 0), (7, .int .i64 v228), (11, .sl 124 .ro (a0.map pv124)), (12, .int .i64 (a0.length : Int)), (13, .int .i64 v132)], [], [((.loc 4 2), [.int .i64 x199.Lo, .int .i64 x199.Hi])]⟩]
                [(3, .sl 124 .ro (v131.map pv124)), (4, .sl 124 .full []), (6, .ptr (.loc 4 2) 0), (7, .int .i64 v228), (11, .sl 124 .ro (a0.map pv124)), (12, .int .i64 (a0.length : Int)), (13, .int .i64 v132)]
                (.cons [7] [] (fun _ _ h => .move (h _)) rfl rfl <|
                .cons [19] [] (fun _ _ h => .valB hc248 (h _)) rfl rfl <|
                .cons [20] [] (fun _ _ h => .move (h _)) rfl rfl <|
                .cons [21] [] (fun _ _ h => .skip (h _)) rfl rfl <|
                .cons [21] [] (fun _ _ h => .skip (h _)) rfl rfl <|
                .cons [21] [] (fun _ _ h => .skip (h _)) rfl rfl <|
                .cons [21] [] (fun _ _ h => .skip (h _)) rfl rfl <|
                .cons [21] [] (fun _ _ h => .skip (h _)) rfl rfl <|
                .cons [21] [] (fun _ _ h => .skip (h _)) rfl rfl <|
                .cons [21] [] (fun _ _ h => .skip (h _)) rfl rfl <|
                .cons [21] [] (fun _ _ h => .skip (h _)) rfl rfl <|
                .cons [21] [] (fun _ _ h => .skip (h _)) rfl rfl <|
                .cons [21, 30] [] (fun _ _ h => .brF (h _)) rfl rfl <|
                .nil)
                (.nil)
                (by kernel_rfl) rfl (.cons rfl (.cons rfl (.cons rfl (.cons rfl (.cons rfl (.cons rfl (.cons rfl (.nil)))))))) (.nil) (.cons rfl (.nil)) ?_
              exact ⟨_, (.inr (⟨rfl, h⟩)), (imp_of (.cons rfl (.cons rfl (.cons rfl (.cons rfl (.cons rfl (.cons rfl (.cons rfl (.cons rfl (.nil))))))))) (.cons rfl (.nil)))⟩
          · rintro T (⟨v245, rfl, h⟩ | ⟨rfl, h⟩)
            · subst hj246
              refine .cond (fun hc250 => ?_) (fun hc250 => ?_)
              · replace h := (if_pos hc250).symm.trans h
                refine .skip ?_
                refine .block ?_
                refine .region ?_
                refine .move ?_
                refine .val ?_
                refine .assign ?_
                refine .nil ?_
                exact ⟨m236, _, Nat.lt_succ_self m236, ⟨_, rfl, h⟩, (imp_of (.cons rfl (.cons rfl (.cons rfl (.cons rfl (.cons rfl (.cons rfl (.cons rfl (.nil)))))))) (.cons rfl (.nil)))⟩
              · replace h := (if_neg (nt hc250)).symm.trans h
                refine .exit (.hit ?_)
                exact ⟨_, ⟨_, rfl, h⟩, (imp_of (.cons rfl (.cons rfl (.cons rfl (.cons rfl (.cons rfl (.cons rfl (.cons rfl (.nil)))))))) (.cons rfl (.nil)))⟩
            · subst hj247
              refine .condF ?_
              refine .exit (.hit ?_)
              exact ⟨_, ⟨_, rfl, h⟩, (imp_of (.cons rfl (.cons rfl (.cons rfl (.cons rfl (.cons rfl (.cons rfl (.cons rfl (.nil)))))))) (.cons rfl (.nil)))⟩
        · rintro T ⟨v220, rfl, h⟩
          subst hj221
          obtain ⟨x251, hx251, h⟩ := bindE h
          obtain ⟨x252, hx252, h⟩ := bindE h
          obtain ⟨x253, hx253, h⟩ := bindE h
          obtain ⟨x254, hx254, h⟩ := bindE h
          obtain ⟨x255, hx255, h⟩ := bindE h
          refine .draw [3, 6, 10] [[], [], [], [], [], [], [3], [], [], [], [3, 6], [3, 6, 10]] [[3, 6, 10], [3, 6, 10], [3, 6, 10], [6, 10], [6, 10], [6, 10], [10], [10], [10], [10], [], []] [[], [3], [3, 6], [3, 6, 10]]
            [(0, 0), (1, 0), (2, 0), (4, 0), (4, 1), (5, 0), (5, 1), (7, 0), (7, 1), (7, 2), (8, 0), (8, 1), (8, 2), (9, 0), (9, 1), (9, 2), (11, 3)] [(0, 3, 1), (1, 6, 2), (2, 10, 3)] 3
            [⟨[(34, .sl 124 .ro (v131.map pv124)), (35, .int .i64 v220), (36, .sl 124 .ro (x251.map pv124)), (38, .agg [.int .i64 x199.Lo, .int .i64 x199.Hi]), (39, .sl 124 .ro (([(⟨x199.Lo, x199.Hi⟩ : Span)] : List Span).map pv124)), (41, .sl 124 .ro (v131.map pv124)), (42, .int .i64 v220), (43, .sl 124 .ro (x254.map pv124)), (4, .sl 124 .full []), (6, .ptr (.loc 4 2) 0), (7, .int .i64 v220), (11, .sl 124 .ro (a0.map pv124)), (12, .int .i64 (a0.length : Int)), (13, .int .i64 v132)], [(3, .sl 124 .ro (v131.map pv124))], [((.loc 4 2), [.int .i64 x199.Lo, .int .i64 x199.Hi])]⟩,
            ⟨[(34, .sl 124 .ro (v131.map pv124)), (35, .int .i64 v220), (36, .sl 124 .ro (x251.map pv124)), (37, .sl 124 (.own (.row 8 3)) (x252.map pv124)), (38, .agg [.int .i64 x199.Lo, .int .i64 x199.Hi]), (39, .sl 124 .ro (([(⟨x199.Lo, x199.Hi⟩ : Span)] : List Span).map pv124)), (41, .sl 124 .ro (v131.map pv124)), (42, .int .i64 v220), (43, .sl 124 .ro (x254.map pv124)), (4, .sl 124 .full []), (6, .ptr (.loc 4 2) 0), (7, .int .i64 v220), (11, .sl 124 .ro (a0.map pv124)), (12, .int .i64 (a0.length : Int)), (13, .int .i64 v132)], [(3, .sl 124 .ro (v131.map pv124))], [((.loc 4 2), [.int .i64 x199.Lo, .int .i64 x199.Hi])]⟩,
            ⟨[(34, .sl 124 .ro (v131.map pv124)), (35, .int .i64 v220), (36, .sl 124 .ro (x251.map pv124)), (37, .dead), (38, .agg [.int .i64 x199.Lo, .int .i64 x199.Hi]), (39, .sl 124 .ro (([(⟨x199.Lo, x199.Hi⟩ : Span)] : List Span).map pv124)), (40, .sl 124 (.own (.row 8 6)) (x253.map pv124)), (41, .sl 124 .ro (v131.map pv124)), (42, .int .i64 v220), (43, .sl 124 .ro (x254.map pv124)), (4, .sl 124 .full []), (6, .ptr (.loc 4 2) 0), (7, .int .i64 v220), (11, .sl 124 .ro (a0.map pv124)), (12, .int .i64 (a0.length : Int)), (13, .int .i64 v132)], [(3, .sl 124 .ro (v131.map pv124))], [((.loc 4 2), [.int .i64 x199.Lo, .int .i64 x199.Hi])]⟩,
            ⟨[(34, .sl 124 .ro (v131.map pv124)), (35, .int .i64 v220), (36, .sl 124 .ro (x251.map pv124)), (37, .dead), (38, .agg [.int .i64 x199.Lo, .int .i64 x199.Hi]), (39, .sl 124 .ro (([(⟨x199.Lo, x199.Hi⟩ : Span)] : List Span).map pv124)), (40, .dead), (41, .sl 124 .ro (v131.map pv124)), (42, .int .i64 v220), (43, .sl 124 .ro (x254.map pv124)), (44, .sl 124 (.own (.row 8 10)) (x255.map pv124)), (3, .sl 124 (.own (.row 8 10)) (x255.map pv124)), (4, .sl 124 .full []), (6, .ptr (.loc 4 2) 0), (7, .int .i64 v220), (11, .sl 124 .ro (a0.map pv124)), (12, .int .i64 (a0.length : Int)), (13, .int .i64 v132)], [(3, .sl 124 .ro (v131.map pv124))], [((.loc 4 2), [.int .i64 x199.Lo, .int .i64 x199.Hi])]⟩]
            [(4, .sl 124 .full []), (6, .ptr (.loc 4 2) 0), (7, .int .i64 v220), (11, .sl 124 .ro (a0.map pv124)), (12, .int .i64 (a0.length : Int)), (13, .int .i64 v132)]
            (.cons [] [3] (fun _ _ h => .move (h _)) rfl rfl <|
            .cons [7] [] (fun _ _ h => .move (h _)) rfl rfl <|
            .cons [34, 35] [] (fun _ _ h => .partL (f := pv124) hx251 (h _)) rfl rfl <|
            .cons [6] [] (fun _ _ h => .val (h _)) rfl rfl <|
            .cons [6] [] (fun _ _ h => .val (h _)) rfl rfl <|
            .cons [38] [] (fun _ _ h => .litR (f := pv124) ([(⟨x199.Lo, x199.Hi⟩ : Span)] : List Span) (h _)) rfl rfl <|
            .cons [38] [] (fun _ _ h => .litR (f := pv124) ([(⟨x199.Lo, x199.Hi⟩ : Span)] : List Span) (h _)) rfl rfl <|
            .cons [] [3] (fun _ _ h => .move (h _)) rfl rfl <|
            .cons [] [3] (fun _ _ h => .move (h _)) rfl rfl <|
            .cons [] [3] (fun _ _ h => .move (h _)) rfl rfl <|
            .cons [7] [] (fun _ _ h => .move (h _)) rfl rfl <|
            .cons [7] [] (fun _ _ h => .move (h _)) rfl rfl <|
            .cons [7] [] (fun _ _ h => .move (h _)) rfl rfl <|
            .cons [41, 42] [] (fun _ _ h => .partE (f := pv124) hx254 (h _)) rfl rfl <|
            .cons [41, 42] [] (fun _ _ h => .partE (f := pv124) hx254 (h _)) rfl rfl <|
            .cons [41, 42] [] (fun _ _ h => .partE (f := pv124) hx254 (h _)) rfl rfl <|
            .cons [44] [] (fun _ _ h => .assign (h _)) rfl rfl <|
            .nil)
            (.cons (PV.sub (oneSub (.row 8 3) .frz)) [36] [] (fun _ _ h => .appN (f := pv124) hx252 (h _ _ (.cons rfl (.nil)))) rfl (.old rfl (.old rfl (.old rfl (.new rfl (.old rfl (.old rfl (.old rfl (.old rfl (.old rfl (.old rfl (.old rfl (.old rfl (.old rfl (.old rfl (.old rfl (.nil)))))))))))))))) rfl rfl <|
            .cons (PV.sub (twoSub (.row 8 3) .kill (.row 8 6) .frz)) [37, 39] [] (fun _ _ h => .appL (f := pv124) hx253 (h _ _ (.cons rfl (.nil)))) rfl (.old rfl (.old rfl (.old rfl (.old rfl (.old rfl (.old rfl (.new rfl (.old rfl (.old rfl (.old rfl (.old rfl (.old rfl (.old rfl (.old rfl (.old rfl (.old rfl (.nil))))))))))))))))) rfl rfl <|
            .cons (PV.sub (twoSub (.row 8 6) .kill (.row 8 10) .frz)) [40, 43] [] (fun _ _ h => .appL (f := pv124) hx255 (h _ _ (.cons rfl (.nil)))) rfl (.old rfl (.old rfl (.old rfl (.old rfl (.old rfl (.old rfl (.old rfl (.old rfl (.old rfl (.old rfl (.new rfl (.new rfl (.old rfl (.old rfl (.old rfl (.old rfl (.old rfl (.old rfl (.nil))))))))))))))))))) rfl rfl <|
            .nil)
            (by kernel_rfl) rfl (.cons rfl (.cons rfl (.cons rfl (.cons rfl (.cons rfl (.cons rfl (.nil))))))) (.cons rfl (.nil)) (.cons rfl (.nil)) ?_
          exact ⟨_, ⟨_, rfl, h⟩, (Imp.trans (Imp.frz (.row 8 10) rfl) (imp_of (.cons rfl (.cons rfl (.cons rfl (.cons rfl (.cons rfl (.nil)))))) (.nil)))⟩
      · rintro T ⟨v197, rfl, h⟩
        subst hj198
        refine .region ?_
        refine .val ?_
        refine .move ?_
        refine .nil ?_
        exact ⟨m166, _, Nat.lt_succ_self m166, ⟨_, _, rfl, h⟩, (imp_of (.cons rfl (.cons rfl (.cons rfl (.cons rfl (.cons rfl (.nil)))))) (.nil))⟩
    · replace h := (if_neg (nt hc168)).symm.trans h
      refine .exit (.hit ?_)
      exact ⟨_, ⟨_, rfl, h⟩, (imp_of (.cons rfl (.cons rfl (.nil))) (.nil))⟩
  · rintro T ⟨v98, rfl, h⟩
    subst hj99
    obtain ⟨j311, hj311, h⟩ := joinE h
    refine .cutI (fun T => (∃ (v309 : (List Span)), T = St.of [(4, .sl 124 (.own (.row 9310 0)) (v309.map pv124))] [] ∧ j311 v309 = some r)) ?_ ?_
    · refine .seq ?_
      refine .region ?_
      refine .move ?_
      refine .lenL (f := pv124) ?_
      refine .move ?_
      refine .nil ?_
      refine .block ?_
      refine .loopI (fun m T => ∃ (v329 : (List Span)) (v331 : Int), T = St.of [(4, .sl 124 (.own (.row 9330 0)) (v329.map pv124)), (46, .sl 124 .ro (v98.map pv124)), (47, .int .i64 (v98.length : Int)), (48, .int .i64 v331)] [] ∧ f134_l3 n v98 j311 m v329 v331 = some r) _ _ ⟨_, _, rfl, h⟩ (imp_of (.wk (.own _ _) rfl (.cons rfl (.cons rfl (.cons rfl (.nil))))) (.nil)) ?_
      rintro m350 T ⟨v329, v331, rfl, h⟩
      obtain _ | m350 := m350
      · rw [f134_l3] at h; cases h
      rw [f134_l3] at h
      refine .seq ?_
      refine .region ?_
      refine .val ?_
      refine .nil ?_
      refine .seq ?_
      refine .cond (fun hc352 => ?_) (fun hc352 => ?_)
      · replace h := (if_pos hc352).symm.trans h
        refine .skip ?_
        obtain ⟨j366, hj366, h⟩ := joinE h
        refine .cutI (fun T => (∃ (v364 : (List Span)), T = St.of [(4, .sl 124 (.own (.row 9365 0)) (v364.map pv124)), (46, .sl 124 .ro (v98.map pv124)), (47, .int .i64 (v98.length : Int)), (48, .int .i64 v331)] [] ∧ j366 v364 = some r)) ?_ ?_
        · refine .block ?_
          refine .seq ?_
          refine .region ?_
          obtain ⟨x367, hx367, h⟩ := bindE h
          refine .idxL (f := pv124) hx367 ?_
          refine .ldL hx367 (y := .agg [.int .i64 x367.Lo, .int .i64 x367.Hi]) ?_
          refine .allocL (cs := [.int .i64 0, .int .i64 0]) ?_
          refine .wrL (cs := [.int .i64 x367.Lo, .int .i64 x367.Hi]) ?_
          refine .nil ?_
          refine .seq ?_
          refine .region ?_
          refine .move ?_
          refine .lenL (f := pv124) ?_
          refine .val ?_
          refine .assign ?_
          refine .nil ?_
          obtain ⟨j371, hj371, h⟩ := joinE h
          obtain ⟨j372, hj372, h⟩ := joinE h
          refine .cutI (fun T => (∃ (v370 : Bool), T = St.of [(4, .sl 124 (.own (.row 9330 0)) (v329.map pv124)), (9, .ptr (.loc 12 2) 0), (10, .int .i64 (w64 ((v329.length : Int) - (1 : Int)))), (46, .sl 124 .ro (v98.map pv124)), (47, .int .i64 (v98.length : Int)), (48, .int .i64 v331), (67, .bool v370)] [((.loc 12 2), [.int .i64 x367.Lo, .int .i64 x367.Hi])] ∧ j371 v370 = some r) ∨ (T = St.of [(4, .sl 124 (.own (.row 9330 0)) (v329.map pv124)), (9, .ptr (.loc 12 2) 0), (10, .int .i64 (w64 ((v329.length : Int) - (1 : Int)))), (46, .sl 124 .ro (v98.map pv124)), (47, .int .i64 (v98.length : Int)), (48, .int .i64 v331), (67, .bool false)] [((.loc 12 2), [.int .i64 x367.Lo, .int .i64 x367.Hi])] ∧ j372 () = some r)) ?_ ?_
          · rcases bool_em (decide ((w64 ((v329.length : Int) - (1 : Int))) ≥ (0 : Int))) with hc373 | hc373
            · replace h := (if_pos hc373).symm.trans h
              obtain ⟨x374, hx374, h⟩ := bindE h
              refine .draw [] [[], [], [], [], [], [], [], [], [], [], [], [], []] [[], [], [], [], [], [], [], [], [], [], [], [], []] [[]]
                [(0, 0), (1, 0), (2, 0), (3, 0), (4, 0), (5, 0), (6, 0), (7, 0), (8, 0), (9, 0), (10, 0), (11, 0), (12, 0)] [] 0
                [⟨[(55, .int .i64 (w64 ((v329.length : Int) - (1 : Int)))), (56, .bool true), (57, .bool true), (58, .ptr (.loc 12 2) 0), (59, .int .i64 x367.Lo), (60, .int .i64 (w64 (x367.Lo - (1 : Int)))), (61, .sl 124 (.own (.row 9330 0)) (v329.map pv124)), (62, .int .i64 (w64 ((v329.length : Int) - (1 : Int)))), (63, .ep 124 (.own (.row 9330 0)) (v329.map pv124) (w64 ((v329.length : Int) - (1 : Int)) : Int).toNat 0), (64, .ep 124 (.own (.row 9330 0)) (v329.map pv124) (w64 ((v329.length : Int) - (1 : Int)) : Int).toNat 1), (65, .int .i64 x374.Hi), (66, .bool (decide ((w64 (x367.Lo - (1 : Int))) ≤ x374.Hi))), (67, .bool (decide ((w64 (x367.Lo - (1 : Int))) ≤ x374.Hi))), (4, .sl 124 (.own (.row 9330 0)) (v329.map pv124)), (9, .ptr (.loc 12 2) 0), (10, .int .i64 (w64 ((v329.length : Int) - (1 : Int)))), (46, .sl 124 .ro (v98.map pv124)), (47, .int .i64 (v98.length : Int)), (48, .int .i64 v331)], [], [((.loc 12 2), [.int .i64 x367.Lo, .int .i64 x367.Hi])]⟩]
                [(4, .sl 124 (.own (.row 9330 0)) (v329.map pv124)), (9, .ptr (.loc 12 2) 0), (10, .int .i64 (w64 ((v329.length : Int) - (1 : Int)))), (46, .sl 124 .ro (v98.map pv124)), (47, .int .i64 (v98.length : Int)), (48, .int .i64 v331)]
                (.cons [10] [] (fun _ _ h => .move (h _)) rfl rfl <|
                .cons [55] [] (fun _ _ h => .valB hc373 (h _)) rfl rfl <|
                .cons [56] [] (fun _ _ h => .move (h _)) rfl rfl <|
                .cons [9, 57] [] (fun _ _ h => .val (h _)) rfl rfl <|
                .cons [58, 57] [] (fun _ _ h => .val (h _)) rfl rfl <|
                .cons [59, 57] [] (fun _ _ h => .val (h _)) rfl rfl <|
                .cons [4, 57] [] (fun _ _ h => .move (h _)) rfl rfl <|
                .cons [10, 57] [] (fun _ _ h => .move (h _)) rfl rfl <|
                .cons [61, 62, 57] [] (fun _ _ h => .idxL (f := pv124) hx374 (h _)) rfl rfl <|
                .cons [63, 57] [] (fun _ _ h => .val (h _)) rfl rfl <|
                .cons [64, 57] [] (fun _ _ h => .ldL hx374 (h _)) rfl rfl <|
                .cons [60, 65, 57] [] (fun _ _ h => .val (h _)) rfl rfl <|
                .cons [57, 66] [] (fun _ _ h => .brT (h _)) rfl rfl <|
                .nil)
                (.nil)
                (by kernel_rfl) rfl (.cons rfl (.cons rfl (.cons rfl (.cons rfl (.cons rfl (.cons rfl (.nil))))))) (.nil) (.cons rfl (.nil)) ?_
              exact ⟨_, (.inl ⟨_, rfl, h⟩), (imp_of (.cons rfl (.cons rfl (.cons rfl (.cons rfl (.cons rfl (.cons rfl (.cons rfl (.nil)))))))) (.cons rfl (.nil)))⟩
            · replace h := (if_neg (nt hc373)).symm.trans h
              refine .draw [] [[], [], [], [], [], [], [], [], [], [], [], [], []] [[], [], [], [], [], [], [], [], [], [], [], [], []] [[]]
                [(0, 0), (1, 0), (2, 0), (3, 0), (4, 0), (5, 0), (6, 0), (7, 0), (8, 0), (9, 0), (10, 0), (11, 0), (12, 0)] [] 0
                [⟨[(55, .int .i64 (w64 ((v329.length : Int) - (1 : Int)))), (56, .bool false), (57, .bool false), (58, .tup []), (59, .tup []), (60, .tup []), (61, .tup []), (62, .tup []), (63, .tup []), (64, .tup []), (65, .tup []), (66, .tup []), (67, .bool false), (4, .sl 124 (.own (.row 9330 0)) (v329.map pv124)), (9, .ptr (.loc 12 2) 0), (10, .int .i64 (w64 ((v329.length : Int) - (1 : Int)))), (46, .sl 124 .ro (v98.map pv124)), (47, .int .i64 (v98.length : Int)), (48, .int .i64 v331)], [], [((.loc 12 2), [.int .i64 x367.Lo, .int .i64 x367.Hi])]⟩]
                [(4, .sl 124 (.own (.row 9330 0)) (v329.map pv124)), (9, .ptr (.loc 12 2) 0), (10, .int .i64 (w64 ((v329.length : Int) - (1 : Int)))), (46, .sl 124 .ro (v98.map pv124)), (47, .int .i64 (v98.length : Int)), (48, .int .i64 v331)]
                (.cons [10] [] (fun _ _ h => .move (h _)) rfl rfl <|
                .cons [55] [] (fun _ _ h => .valB hc373 (h _)) rfl rfl <|
                .cons [56] [] (fun _ _ h => .move (h _)) rfl rfl <|
                .cons [57] [] (fun _ _ h => .skip (h _)) rfl rfl <|
                .cons [57] [] (fun _ _ h => .skip (h _)) rfl rfl <|
                .cons [57] [] (fun _ _ h => .skip (h _)) rfl rfl <|
                .cons [57] [] (fun _ _ h => .skip (h _)) rfl rfl <|
                .cons [57] [] (fun _ _ h => .skip (h _)) rfl rfl <|
                .cons [57] [] (fun _ _ h => .skip (h _)) rfl rfl <|
                .cons [57] [] (fun _ _ h => .skip (h _)) rfl rfl <|
                .cons [57] [] (fun _ _ h => .skip (h _)) rfl rfl <|
                .cons [57] [] (fun _ _ h => .skip (h _)) rfl rfl <|
                .cons [57, 66] [] (fun _ _ h => .brF (h _)) rfl rfl <|
                .nil)
                (.nil)
                (by kernel_rfl) rfl (.cons rfl (.cons rfl (.cons rfl (.cons rfl (.cons rfl (.cons rfl (.nil))))))) (.nil) (.cons rfl (.nil)) ?_
              exact ⟨_, (.inr (⟨rfl, h⟩)), (imp_of (.cons rfl (.cons rfl (.cons rfl (.cons rfl (.cons rfl (.cons rfl (.cons rfl (.nil)))))))) (.cons rfl (.nil)))⟩
          · rintro T (⟨v370, rfl, h⟩ | ⟨rfl, h⟩)
            · subst hj371
              refine .cond (fun hc375 => ?_) (fun hc375 => ?_)
              · replace h := (if_pos hc375).symm.trans h
                obtain ⟨x376, hx376, h⟩ := bindE h
                obtain ⟨x377, hx377, h⟩ := bindE h
                refine .draw [12] [[], [], [], [], [], [], [], [], [], [], [], [], []] [[12], [12], [12], [12], [12], [12], [12], [12], [12], [12], [12], [12], []] [[], [12]]
                  [(0, 0), (1, 0), (2, 0), (3, 0), (4, 0), (5, 0), (6, 0), (7, 0), (8, 0), (9, 0), (10, 0), (11, 0)] [(0, 12, 1)] 1
                  [⟨[(68, .sl 124 (.own (.row 9330 0)) (v329.map pv124)), (69, .int .i64 (w64 ((v329.length : Int) - (1 : Int)))), (70, .sl 124 (.own (.row 9330 0)) (v329.map pv124)), (71, .int .i64 (w64 ((v329.length : Int) - (1 : Int)))), (72, .ep 124 (.own (.row 9330 0)) (v329.map pv124) (w64 ((v329.length : Int) - (1 : Int)) : Int).toNat 0), (73, .ep 124 (.own (.row 9330 0)) (v329.map pv124) (w64 ((v329.length : Int) - (1 : Int)) : Int).toNat 1), (74, .int .i64 x376.Hi), (75, .ptr (.loc 12 2) 1), (76, .int .i64 x367.Hi), (77, .int .i64 (iMax x376.Hi x367.Hi)), (78, .ep 124 (.own (.row 9330 0)) (v329.map pv124) (w64 ((v329.length : Int) - (1 : Int)) : Int).toNat 0), (79, .ep 124 (.own (.row 9330 0)) (v329.map pv124) (w64 ((v329.length : Int) - (1 : Int)) : Int).toNat 1), (4, .sl 124 (.own (.row 9330 0)) (v329.map pv124)), (9, .ptr (.loc 12 2) 0), (10, .int .i64 (w64 ((v329.length : Int) - (1 : Int)))), (46, .sl 124 .ro (v98.map pv124)), (47, .int .i64 (v98.length : Int)), (48, .int .i64 v331)], [], [((.loc 12 2), [.int .i64 x367.Lo, .int .i64 x367.Hi])]⟩,
                  ⟨[(68, .sl 124 (.own (.row 9330 0)) ((v329.map pv124).set (w64 ((v329.length : Int) - (1 : Int)) : Int).toNat (pv124 (⟨x377.Lo, iMax x376.Hi x367.Hi⟩ : Span)))), (69, .int .i64 (w64 ((v329.length : Int) - (1 : Int)))), (70, .sl 124 (.own (.row 9330 0)) ((v329.map pv124).set (w64 ((v329.length : Int) - (1 : Int)) : Int).toNat (pv124 (⟨x377.Lo, iMax x376.Hi x367.Hi⟩ : Span)))), (71, .int .i64 (w64 ((v329.length : Int) - (1 : Int)))), (72, .ep 124 (.own (.row 9330 0)) ((v329.map pv124).set (w64 ((v329.length : Int) - (1 : Int)) : Int).toNat (pv124 (⟨x377.Lo, iMax x376.Hi x367.Hi⟩ : Span))) (w64 ((v329.length : Int) - (1 : Int)) : Int).toNat 0), (73, .ep 124 (.own (.row 9330 0)) ((v329.map pv124).set (w64 ((v329.length : Int) - (1 : Int)) : Int).toNat (pv124 (⟨x377.Lo, iMax x376.Hi x367.Hi⟩ : Span))) (w64 ((v329.length : Int) - (1 : Int)) : Int).toNat 1), (74, .int .i64 x376.Hi), (75, .ptr (.loc 12 2) 1), (76, .int .i64 x367.Hi), (77, .int .i64 (iMax x376.Hi x367.Hi)), (78, .ep 124 (.own (.row 9330 0)) ((v329.map pv124).set (w64 ((v329.length : Int) - (1 : Int)) : Int).toNat (pv124 (⟨x377.Lo, iMax x376.Hi x367.Hi⟩ : Span))) (w64 ((v329.length : Int) - (1 : Int)) : Int).toNat 0), (79, .ep 124 (.own (.row 9330 0)) ((v329.map pv124).set (w64 ((v329.length : Int) - (1 : Int)) : Int).toNat (pv124 (⟨x377.Lo, iMax x376.Hi x367.Hi⟩ : Span))) (w64 ((v329.length : Int) - (1 : Int)) : Int).toNat 1), (4, .sl 124 (.own (.row 9330 0)) ((v329.map pv124).set (w64 ((v329.length : Int) - (1 : Int)) : Int).toNat (pv124 (⟨x377.Lo, iMax x376.Hi x367.Hi⟩ : Span)))), (9, .ptr (.loc 12 2) 0), (10, .int .i64 (w64 ((v329.length : Int) - (1 : Int)))), (46, .sl 124 .ro (v98.map pv124)), (47, .int .i64 (v98.length : Int)), (48, .int .i64 v331)], [], [((.loc 12 2), [.int .i64 x367.Lo, .int .i64 x367.Hi])]⟩]
                  [(4, .sl 124 (.own (.row 9330 0)) (v329.map pv124)), (9, .ptr (.loc 12 2) 0), (10, .int .i64 (w64 ((v329.length : Int) - (1 : Int)))), (46, .sl 124 .ro (v98.map pv124)), (47, .int .i64 (v98.length : Int)), (48, .int .i64 v331)]
                  (.cons [4] [] (fun _ _ h => .move (h _)) rfl rfl <|
                  .cons [10] [] (fun _ _ h => .move (h _)) rfl rfl <|
                  .cons [4] [] (fun _ _ h => .move (h _)) rfl rfl <|
                  .cons [10] [] (fun _ _ h => .move (h _)) rfl rfl <|
                  .cons [70, 71] [] (fun _ _ h => .idxL (f := pv124) hx376 (h _)) rfl rfl <|
                  .cons [72] [] (fun _ _ h => .val (h _)) rfl rfl <|
                  .cons [73] [] (fun _ _ h => .ldL hx376 (h _)) rfl rfl <|
                  .cons [9] [] (fun _ _ h => .val (h _)) rfl rfl <|
                  .cons [75] [] (fun _ _ h => .val (h _)) rfl rfl <|
                  .cons [74, 76] [] (fun _ _ h => .maxL (h _)) rfl rfl <|
                  .cons [68, 69] [] (fun _ _ h => .idxL (f := pv124) hx377 (h _)) rfl rfl <|
                  .cons [78] [] (fun _ _ h => .val (h _)) rfl rfl <|
                  .nil)
                  (.cons (PV.sub (oneSub (.row 9330 0) (.upd (w64 ((v329.length : Int) - (1 : Int)) : Int).toNat (pv124 (⟨x377.Lo, iMax x376.Hi x367.Hi⟩ : Span))))) [79, 77] [] (fun _ _ h => .stL hx377 (z' := (⟨x377.Lo, iMax x376.Hi x367.Hi⟩ : Span)) (h _ _ (.cons rfl (.nil)))) rfl (.old rfl (.old rfl (.old rfl (.old rfl (.old rfl (.old rfl (.old rfl (.old rfl (.old rfl (.old rfl (.old rfl (.old rfl (.old rfl (.old rfl (.old rfl (.old rfl (.old rfl (.old rfl (.nil))))))))))))))))))) rfl rfl <|
                  .nil)
                  (by kernel_rfl) rfl (.cons rfl (.cons rfl (.cons rfl (.cons rfl (.cons rfl (.cons rfl (.nil))))))) (.nil) (.cons rfl (.nil)) ?_
                exact ⟨_, ⟨_, rfl, h⟩, (Imp.trans (Imp.swap (.row 9330 0) (.row 9365 0) rfl rfl rfl) (imp_of (.cons (congrArg (PV.sl 124 (.own (.row 9365 0))) (List.map_set (f := pv124)).symm) (.cons rfl (.cons rfl (.cons rfl (.nil))))) (.nil)))⟩
              · replace h := (if_neg (nt hc375)).symm.trans h
                refine .region ?_
                refine .move ?_
                refine .val (v := .agg [.int .i64 x367.Lo, .int .i64 x367.Hi]) ?_
                refine .litR (f := pv124) ([(⟨x367.Lo, x367.Hi⟩ : Span)] : List Span) ?_
                obtain ⟨x378, hx378, h⟩ := bindE h
                refine .appL (f := pv124) hx378 ?_
                refine .assign ?_
                refine .nil ?_
                exact ⟨_, ⟨_, rfl, h⟩, (Imp.trans (Imp.swap (.row 16 3) (.row 9365 0) rfl rfl rfl) (imp_of (.cons rfl (.cons rfl (.cons rfl (.cons rfl (.nil))))) (.nil)))⟩
            · subst hj372
              refine .condF ?_
              refine .region ?_
              refine .move ?_
              refine .val (v := .agg [.int .i64 x367.Lo, .int .i64 x367.Hi]) ?_
              refine .litR (f := pv124) ([(⟨x367.Lo, x367.Hi⟩ : Span)] : List Span) ?_
              obtain ⟨x379, hx379, h⟩ := bindE h
              refine .appL (f := pv124) hx379 ?_
              refine .assign ?_
              refine .nil ?_
              exact ⟨_, ⟨_, rfl, h⟩, (Imp.trans (Imp.swap (.row 16 3) (.row 9365 0) rfl rfl rfl) (imp_of (.cons rfl (.cons rfl (.cons rfl (.cons rfl (.nil))))) (.nil)))⟩
        · rintro T ⟨v364, rfl, h⟩
          subst hj366
          refine .region ?_
          refine .val ?_
          refine .move ?_
          refine .nil ?_
          exact ⟨m350, _, Nat.lt_succ_self m350, ⟨_, _, rfl, h⟩, (Imp.trans (Imp.swap (.row 9365 0) (.row 9330 0) rfl rfl rfl) (imp_of (.cons rfl (.cons rfl (.cons rfl (.cons rfl (.nil))))) (.nil)))⟩
      · replace h := (if_neg (nt hc352)).symm.trans h
        refine .exit (.hit ?_)
        exact ⟨_, ⟨_, rfl, h⟩, (Imp.trans (Imp.swap (.row 9330 0) (.row 9310 0) rfl rfl rfl) (imp_of (.cons rfl (.nil)) (.nil)))⟩
    · rintro T ⟨v309, rfl, h⟩
      subst hj311
      refine .seq ?_
      refine .region ?_
      refine .move ?_
      refine .assign ?_
      refine .nil ?_
      cases h
      exact .ret (fin_gen0 (some (.row 9310 0)))
theorem g134r {n : Nat} {a0 : (List Span)} {r : (List Span)} (h : f134 n a0 = some r) :
    Ab.Can Try.prog 134 [.sl 124 .ro (a0.map pv124)] H0 (.sl 124 .ro (r.map pv124)) H0 := Can.frzR (hq := []) (g134 h)

/- soundservice/soundserviceref09.Make -/
def f128_l1 (n : Nat) (a0 : (List Span)) (j24 : Unit → Option (IntSet × Int)) : Nat → Int → Option (IntSet × Int)
  | 0, _ => none
  | m41 + 1, v32 =>
    if decide (v32 < (a0.length : Int)) then (
    (lAt a0 v32).bind fun x50 =>
    joinK (fun (_ : Unit) =>
    some ((⟨([] : List Span)⟩ : IntSet), 2)) fun j53 =>
    joinK (fun (_ : Unit) =>
    if decide (x50.Hi > (2147483647 : Int)) then (
    some ((⟨([] : List Span)⟩ : IntSet), 2))
    else (
    f128_l1 n a0 j24 m41 (w64 (v32 + (1 : Int))))) fun j54 =>
    if decide (x50.Lo < (0 : Int)) then (
    j53 ())
    else (
    if decide (x50.Hi < x50.Lo) then (
    j53 ())
    else (
    j54 ())))
    else (
    j24 ())
def f128 (n : Nat) (a0 : (List Span)) : Option (IntSet × Int) :=
  joinK (fun (_ : Unit) =>
  (f134 n a0).bind fun y58 =>
  if decide ((y58.length : Int) > (64 : Int)) then (
  some ((⟨([] : List Span)⟩ : IntSet), 3))
  else (
  some ((⟨y58⟩ : IntSet), 0))) fun j24 =>
  f128_l1 n a0 j24 n 0
set_option maxHeartbeats 4000000 in
set_option maxRecDepth 100000 in
theorem g128 {n : Nat} {a0 : (List Span)} {r : (IntSet × Int)} (h : f128 n a0 = some r) :
    Ab.Can Try.prog 128 [.sl 124 .ro (a0.map pv124)] H0 (.tup [.agg [.sl 124 .ro (r.1.Spans.map pv124)], .int .i64 r.2]) H0 := by
  refine can_of tabOK mix Try.call128 Try.func128 rfl (by kernel_rfl) (by show _ ≤ 39; simp) fun _ => ?_
  rw [f128] at h
  refine .seq ?_
  refine .region ?_
  refine .allocL (cs := [.sl 124 .full []]) ?_
  refine .assign ?_
  refine .nil ?_
  obtain ⟨j24, hj24, h⟩ := joinE h
  refine .cutI (fun T => (T = St.of [(0, .sl 124 .ro (a0.map pv124)), (2, .ptr (.loc 0 0) 0)] [((.loc 0 0), [.sl 124 .full []])] ∧ j24 () = some r)) ?_ ?_
  · refine .seq ?_
    refine .region ?_
    refine .move ?_
    refine .lenL (f := pv124) ?_
    refine .move ?_
    refine .nil ?_
    refine .block ?_
    refine .loopI (fun m T => ∃ (v32 : Int), T = St.of [(0, .sl 124 .ro (a0.map pv124)), (2, .ptr (.loc 0 0) 0), (7, .sl 124 .ro (a0.map pv124)), (8, .int .i64 (a0.length : Int)), (9, .int .i64 v32)] [((.loc 0 0), [.sl 124 .full []])] ∧ f128_l1 n a0 j24 m v32 = some r) _ _ ⟨_, rfl, h⟩ (imp_of (.cons rfl (.cons rfl (.cons rfl (.cons rfl (.cons rfl (.nil)))))) (.cons rfl (.nil))) ?_
    rintro m41 T ⟨v32, rfl, h⟩
    obtain _ | m41 := m41
    · rw [f128_l1] at h; cases h
    rw [f128_l1] at h
    refine .seq ?_
    refine .region ?_
    refine .val ?_
    refine .nil ?_
    refine .seq ?_
    refine .cond (fun hc43 => ?_) (fun hc43 => ?_)
    · replace h := (if_pos hc43).symm.trans h
      refine .skip ?_
      refine .seq ?_
      refine .block ?_
      refine .seq ?_
      refine .region ?_
      obtain ⟨x50, hx50, h⟩ := bindE h
      refine .idxL (f := pv124) hx50 ?_
      refine .ldL hx50 (y := .agg [.int .i64 x50.Lo, .int .i64 x50.Hi]) ?_
      refine .allocL (cs := [.int .i64 0, .int .i64 0]) ?_
      refine .wrL (cs := [.int .i64 x50.Lo, .int .i64 x50.Hi]) ?_
      refine .nil ?_
      obtain ⟨j53, hj53, h⟩ := joinE h
      obtain ⟨j54, hj54, h⟩ := joinE h
      refine .cutI (fun T => (T = St.of [(0, .sl 124 .ro (a0.map pv124)), (2, .ptr (.loc 0 0) 0), (7, .sl 124 .ro (a0.map pv124)), (8, .int .i64 (a0.length : Int)), (9, .int .i64 v32), (27, .bool true)] [((.loc 0 0), [.sl 124 .full []])] ∧ j53 () = some r) ∨ (T = St.of [(0, .sl 124 .ro (a0.map pv124)), (2, .ptr (.loc 0 0) 0), (7, .sl 124 .ro (a0.map pv124)), (8, .int .i64 (a0.length : Int)), (9, .int .i64 v32), (27, .bool (decide (x50.Hi > (2147483647 : Int))))] [((.loc 0 0), [.sl 124 .full []])] ∧ j54 () = some r)) ?_ ?_
      · refine .region ?_
        refine .val ?_
        refine .val ?_
        refine .val ?_
        refine .move ?_
        refine .caseG (fun hc55 => ?_) (fun hc55 => ?_)
        · replace h := (if_pos hc55).symm.trans h
          refine .skip ?_
          refine .skip ?_
          refine .skip ?_
          refine .skip ?_
          refine .skip ?_
          refine .brT ?_
          refine .move ?_
          refine .skip ?_
          refine .skip ?_
          refine .skip ?_
          refine .brT ?_
          refine .nil ?_
          exact ⟨_, (.inl ⟨rfl, h⟩), (imp_of (.cons rfl (.cons rfl (.cons rfl (.cons rfl (.cons rfl (.cons rfl (.nil))))))) (.cons rfl (.nil)))⟩
        · replace h := (if_neg (nt hc55)).symm.trans h
          refine .val ?_
          refine .val ?_
          refine .val ?_
          refine .val ?_
          refine .val ?_
          refine .brF ?_
          refine .move ?_
          refine .caseG (fun hc56 => ?_) (fun hc56 => ?_)
          · replace h := (if_pos hc56).symm.trans h
            refine .skip ?_
            refine .skip ?_
            refine .skip ?_
            refine .brT ?_
            refine .nil ?_
            exact ⟨_, (.inl ⟨rfl, h⟩), (imp_of (.cons rfl (.cons rfl (.cons rfl (.cons rfl (.cons rfl (.cons rfl (.nil))))))) (.cons rfl (.nil)))⟩
          · replace h := (if_neg (nt hc56)).symm.trans h
            refine .val ?_
            refine .val ?_
            refine .val ?_
            refine .brF ?_
            refine .nil ?_
            exact ⟨_, (.inr (⟨rfl, h⟩)), (imp_of (.cons rfl (.cons rfl (.cons rfl (.cons rfl (.cons rfl (.cons rfl (.nil))))))) (.cons rfl (.nil)))⟩
      · rintro T (⟨rfl, h⟩ | ⟨rfl, h⟩)
        · subst hj53
          refine .condT ?_
          refine .seq ?_
          refine .region ?_
          refine .buildL (cs := [.sl 124 .full []]) ?_
          refine .wrL (cs := [.sl 124 .full []]) ?_
          refine .assign ?_
          refine .nil ?_
          cases h
          refine .imp (Imp.cell (.loc 0 0) (ds := [.sl 124 .ro (([] : List Span).map pv124)]) (.cons (.ro _ _) rfl (.nil)) rfl) ?_
          exact .ret (fin_gen0 none)
        · subst hj54
          refine .cond (fun hc57 => ?_) (fun hc57 => ?_)
          · replace h := (if_pos hc57).symm.trans h
            refine .seq ?_
            refine .region ?_
            refine .buildL (cs := [.sl 124 .full []]) ?_
            refine .wrL (cs := [.sl 124 .full []]) ?_
            refine .assign ?_
            refine .nil ?_
            cases h
            refine .imp (Imp.cell (.loc 0 0) (ds := [.sl 124 .ro (([] : List Span).map pv124)]) (.cons (.ro _ _) rfl (.nil)) rfl) ?_
            exact .ret (fin_gen0 none)
          · replace h := (if_neg (nt hc57)).symm.trans h
            refine .skip ?_
            refine .region ?_
            refine .val ?_
            refine .move ?_
            refine .nil ?_
            exact ⟨m41, _, Nat.lt_succ_self m41, ⟨_, rfl, h⟩, (imp_of (.cons rfl (.cons rfl (.cons rfl (.cons rfl (.cons rfl (.nil)))))) (.cons rfl (.nil)))⟩
    · replace h := (if_neg (nt hc43)).symm.trans h
      refine .exit (.hit ?_)
      exact ⟨_, ⟨rfl, h⟩, (imp_of (.cons rfl (.cons rfl (.nil))) (.cons rfl (.nil)))⟩
  · rintro T ⟨rfl, h⟩
    subst hj24
    refine .seq ?_
    refine .region ?_
    refine .move ?_
    obtain ⟨y58, hy58, h⟩ := bindE h
    refine .cP (g134r hy58) ?_
    refine .buildL (cs := [.sl 124 .ro (y58.map pv124)]) ?_
    refine .allocL (cs := [.sl 124 .full []]) ?_
    refine .wrL (cs := [.sl 124 .ro (y58.map pv124)]) ?_
    refine .nil ?_
    refine .seq ?_
    refine .seq ?_
    refine .region ?_
    refine .val ?_
    refine .val ?_
    refine .lenL (f := pv124) ?_
    refine .val ?_
    refine .nil ?_
    refine .cond (fun hc60 => ?_) (fun hc60 => ?_)
    · replace h := (if_pos hc60).symm.trans h
      refine .seq ?_
      refine .region ?_
      refine .buildL (cs := [.sl 124 .full []]) ?_
      refine .wrL (cs := [.sl 124 .full []]) ?_
      refine .assign ?_
      refine .nil ?_
      cases h
      refine .imp (Imp.cell (.loc 0 0) (ds := [.sl 124 .ro (([] : List Span).map pv124)]) (.cons (.ro _ _) rfl (.nil)) rfl) ?_
      exact .ret (fin_gen0 none)
    · replace h := (if_neg (nt hc60)).symm.trans h
      refine .skip ?_
      refine .seq ?_
      refine .region ?_
      refine .val (v := .agg [.sl 124 .ro (y58.map pv124)]) ?_
      refine .wrL (cs := [.sl 124 .ro (y58.map pv124)]) ?_
      refine .assign ?_
      refine .nil ?_
      cases h
      exact .ret (fin_gen0 none)

/- soundservice/soundservicemade.set -/
def f119_l1 (n : Nat) (a1 : (List Span)) (j41 : (List Int) → (List Span) → Option (IntSet × Dice)) : Nat → (List Int) → (List Span) → Int → Option (IntSet × Dice)
  | 0, _, _, _ => none
  | m70 + 1, v53, v54, v56 =>
    if decide (v56 < (a1.length : Int)) then (
    joinK (fun (v77 : (List Int)) (v78 : (List Span)) =>
    f119_l1 n a1 j41 m70 v77 v78 (w64 (v56 + (1 : Int)))) fun j80 =>
    (lAt a1 v56).bind fun x81 =>
    (f72 n (⟨v53⟩ : Dice) (2 : Int)).bind fun y82 =>
    if (y82.1 == (1 : Int)) then (
    (lApp v54 ([(⟨x81.Lo, x81.Hi⟩ : Span)] : List Span)).bind fun x84 =>
    j80 y82.2.l x84)
    else (
    j80 y82.2.l v54))
    else (
    j41 v53 v54)
def f119 (n : Nat) (a0 : Dice) (a1 : (List Span)) : Option (IntSet × Dice) :=
  joinK (fun (v38 : (List Int)) (v39 : (List Span)) =>
  joinK (fun (v89 : (List Int)) (v90 : (List Span)) =>
  (f128 n v90).bind fun y97 =>
  some ((⟨y97.1.Spans⟩ : IntSet), (⟨v89⟩ : Dice))) fun j92 =>
  if ((v39.length : Int) == (0 : Int)) then (
  (f72 n (⟨v38⟩ : Dice) (a1.length : Int)).bind fun y94 =>
  (lAt a1 y94.1).bind fun x95 =>
  (lApp v39 ([x95] : List Span)).bind fun x96 =>
  j92 y94.2.l x96)
  else (
  j92 v38 v39)) fun j41 =>
  f119_l1 n a1 j41 n a0.l ([] : List Span) 0
set_option maxHeartbeats 4000000 in
set_option maxRecDepth 100000 in
theorem g119 {n : Nat} {a0 : Dice} {a1 : (List Span)} {r : (IntSet × Dice)} (h : f119 n a0 a1 = some r) :
    Ab.Can Try.prog 119 [.ptr (.par 0) 0, .sl 124 .ro (a1.map pv124)] (lookH [(.par 0, [.sl 5 .ro (a0.l.map (PV.int .u8))])]) (.agg [.sl 124 .ro (r.1.Spans.map pv124)]) (lookH [(.par 0, [.sl 5 .ro (r.2.l.map (PV.int .u8))])]) := by
  refine can_of tabOK mix Try.call119 Try.func119 rfl (by kernel_rfl) (by show _ ≤ 43; simp) fun _ => ?_
  rw [f119] at h
  refine .seq ?_
  refine .region ?_
  refine .allocL (cs := [.sl 124 .full []]) ?_
  refine .nil ?_
  refine .seq ?_
  refine .region ?_
  refine .assign ?_
  refine .nil ?_
  obtain ⟨j41, hj41, h⟩ := joinE h
  refine .cutI (fun T => (∃ (v38 : (List Int)) (v39 : (List Span)), T = St.of [(0, .ptr (.par 0) 0), (1, .sl 124 .ro (a1.map pv124)), (4, .ptr (.loc 0 0) 0), (5, .sl 124 (.own (.row 9040 0)) (v39.map pv124))] [((.loc 0 0), [.sl 124 .full []]), ((.par 0), [.sl 5 .ro (v38.map (PV.int .u8))])] ∧ j41 v38 v39 = some r)) ?_ ?_
  · refine .seq ?_
    refine .region ?_
    refine .move ?_
    refine .lenL (f := pv124) ?_
    refine .move ?_
    refine .nil ?_
    refine .block ?_
    refine .loopI (fun m T => ∃ (v53 : (List Int)) (v54 : (List Span)) (v56 : Int), T = St.of [(0, .ptr (.par 0) 0), (1, .sl 124 .ro (a1.map pv124)), (4, .ptr (.loc 0 0) 0), (5, .sl 124 (.own (.row 9055 0)) (v54.map pv124)), (10, .sl 124 .ro (a1.map pv124)), (11, .int .i64 (a1.length : Int)), (12, .int .i64 v56)] [((.loc 0 0), [.sl 124 .full []]), ((.par 0), [.sl 5 .ro (v53.map (PV.int .u8))])] ∧ f119_l1 n a1 j41 m v53 v54 v56 = some r) _ _ ⟨_, _, _, rfl, h⟩ (imp_of (.cons rfl (.cons rfl (.cons rfl (.wk (.own _ _) rfl (.cons rfl (.cons rfl (.cons rfl (.nil)))))))) (.cons rfl (.cons rfl (.nil)))) ?_
    rintro m70 T ⟨v53, v54, v56, rfl, h⟩
    obtain _ | m70 := m70
    · rw [f119_l1] at h; cases h
    rw [f119_l1] at h
    refine .seq ?_
    refine .region ?_
    refine .val ?_
    refine .nil ?_
    refine .seq ?_
    refine .cond (fun hc72 => ?_) (fun hc72 => ?_)
    · replace h := (if_pos hc72).symm.trans h
      refine .skip ?_
      obtain ⟨j80, hj80, h⟩ := joinE h
      refine .cutI (fun T => (∃ (v77 : (List Int)) (v78 : (List Span)), T = St.of [(0, .ptr (.par 0) 0), (1, .sl 124 .ro (a1.map pv124)), (4, .ptr (.loc 0 0) 0), (5, .sl 124 (.own (.row 9079 0)) (v78.map pv124)), (10, .sl 124 .ro (a1.map pv124)), (11, .int .i64 (a1.length : Int)), (12, .int .i64 v56)] [((.loc 0 0), [.sl 124 .full []]), ((.par 0), [.sl 5 .ro (v77.map (PV.int .u8))])] ∧ j80 v77 v78 = some r)) ?_ ?_
      · refine .block ?_
        refine .seq ?_
        refine .region ?_
        obtain ⟨x81, hx81, h⟩ := bindE h
        refine .idxL (f := pv124) hx81 ?_
        refine .ldL hx81 (y := .agg [.int .i64 x81.Lo, .int .i64 x81.Hi]) ?_
        refine .allocL (cs := [.int .i64 0, .int .i64 0]) ?_
        refine .wrL (cs := [.int .i64 x81.Lo, .int .i64 x81.Hi]) ?_
        refine .nil ?_
        refine .seq ?_
        refine .region ?_
        refine .move ?_
        obtain ⟨y82, hy82, h⟩ := bindE h
        refine .cH (.par 0) (g72 hy82) ?_
        refine .val ?_
        refine .nil ?_
        refine .cond (fun hc83 => ?_) (fun hc83 => ?_)
        · replace h := (if_pos hc83).symm.trans h
          refine .region ?_
          refine .move ?_
          refine .val (v := .agg [.int .i64 x81.Lo, .int .i64 x81.Hi]) ?_
          refine .litR (f := pv124) ([(⟨x81.Lo, x81.Hi⟩ : Span)] : List Span) ?_
          obtain ⟨x84, hx84, h⟩ := bindE h
          refine .appL (f := pv124) hx84 ?_
          refine .assign ?_
          refine .nil ?_
          exact ⟨_, ⟨_, _, rfl, h⟩, (Imp.trans (Imp.swap (.row 6 3) (.row 9079 0) rfl rfl rfl) (imp_of (.cons rfl (.cons rfl (.cons rfl (.cons rfl (.cons rfl (.cons rfl (.cons rfl (.nil)))))))) (.cons rfl (.cons rfl (.nil)))))⟩
        · replace h := (if_neg (nt hc83)).symm.trans h
          refine .skip ?_
          exact ⟨_, ⟨_, _, rfl, h⟩, (Imp.trans (Imp.swap (.row 9055 0) (.row 9079 0) rfl rfl rfl) (imp_of (.cons rfl (.cons rfl (.cons rfl (.cons rfl (.cons rfl (.cons rfl (.cons rfl (.nil)))))))) (.cons rfl (.cons rfl (.nil)))))⟩
      · rintro T ⟨v77, v78, rfl, h⟩
        subst hj80
        refine .region ?_
        refine .val ?_
        refine .move ?_
        refine .nil ?_
        exact ⟨m70, _, Nat.lt_succ_self m70, ⟨_, _, _, rfl, h⟩, (Imp.trans (Imp.swap (.row 9079 0) (.row 9055 0) rfl rfl rfl) (imp_of (.cons rfl (.cons rfl (.cons rfl (.cons rfl (.cons rfl (.cons rfl (.cons rfl (.nil)))))))) (.cons rfl (.cons rfl (.nil)))))⟩
    · replace h := (if_neg (nt hc72)).symm.trans h
      refine .exit (.hit ?_)
      exact ⟨_, ⟨_, _, rfl, h⟩, (Imp.trans (Imp.swap (.row 9055 0) (.row 9040 0) rfl rfl rfl) (imp_of (.cons rfl (.cons rfl (.cons rfl (.cons rfl (.nil))))) (.cons rfl (.cons rfl (.nil)))))⟩
  · rintro T ⟨v38, v39, rfl, h⟩
    subst hj41
    obtain ⟨j92, hj92, h⟩ := joinE h
    refine .cutI (fun T => (∃ (v89 : (List Int)) (v90 : (List Span)), T = St.of [(4, .ptr (.loc 0 0) 0), (5, .sl 124 (.own (.row 9091 0)) (v90.map pv124))] [((.loc 0 0), [.sl 124 .full []]), ((.par 0), [.sl 5 .ro (v89.map (PV.int .u8))])] ∧ j92 v89 v90 = some r)) ?_ ?_
    · refine .seq ?_
      refine .region ?_
      refine .move ?_
      refine .lenL (f := pv124) ?_
      refine .val ?_
      refine .nil ?_
      refine .cond (fun hc93 => ?_) (fun hc93 => ?_)
      · replace h := (if_pos hc93).symm.trans h
        refine .region ?_
        refine .move ?_
        refine .move ?_
        refine .move ?_
        refine .move ?_
        refine .lenL (f := pv124) ?_
        obtain ⟨y94, hy94, h⟩ := bindE h
        refine .cH (.par 0) (g72 hy94) ?_
        obtain ⟨x95, hx95, h⟩ := bindE h
        refine .idxL (f := pv124) hx95 ?_
        refine .ldL hx95 (y := .agg [.int .i64 x95.Lo, .int .i64 x95.Hi]) ?_
        refine .litR (f := pv124) ([x95] : List Span) ?_
        obtain ⟨x96, hx96, h⟩ := bindE h
        refine .appL (f := pv124) hx96 ?_
        refine .assign ?_
        refine .nil ?_
        exact ⟨_, ⟨_, _, rfl, h⟩, (Imp.trans (Imp.swap (.row 9 9) (.row 9091 0) rfl rfl rfl) (imp_of (.cons rfl (.cons rfl (.nil))) (.cons rfl (.cons rfl (.nil)))))⟩
      · replace h := (if_neg (nt hc93)).symm.trans h
        refine .skip ?_
        exact ⟨_, ⟨_, _, rfl, h⟩, (Imp.trans (Imp.swap (.row 9040 0) (.row 9091 0) rfl rfl rfl) (imp_of (.cons rfl (.cons rfl (.nil))) (.cons rfl (.cons rfl (.nil)))))⟩
    · rintro T ⟨v89, v90, rfl, h⟩
      subst hj92
      refine .seq ?_
      refine .region ?_
      refine .move ?_
      obtain ⟨y97, hy97, h⟩ := bindE h
      refine .freeze (.row 9091 0) ?_
      refine .cP (g128 hy97) ?_
      refine .move ?_
      refine .val ?_
      refine .val ?_
      refine .allocL (cs := [.sl 124 .full []]) ?_
      refine .wrL (cs := [.sl 124 .ro (y97.1.Spans.map pv124)]) ?_
      refine .assign ?_
      refine .nil ?_
      refine .seq ?_
      refine .region ?_
      refine .val (v := .agg [.sl 124 .ro (y97.1.Spans.map pv124)]) ?_
      refine .wrL (cs := [.sl 124 .ro (y97.1.Spans.map pv124)]) ?_
      refine .nil ?_
      cases h
      exact .ret (fin_gen none (.par .nil))

/- soundservice/soundservicemade.Maps -/
def f129 (_n : Nat)  : Option (List (List Int)) :=
  some ([([3] : List Int), ([1, 2] : List Int), ([1, 2, 3, 4, 5, 6] : List Int), ([2, 1] : List Int), ([1, 2, 7, 8] : List Int), ([4] : List Int), ([1, 3] : List Int)] : List (List Int))
set_option maxHeartbeats 4000000 in
set_option maxRecDepth 100000 in
theorem g129 {n : Nat}  {r : (List (List Int))} (h : f129 n  = some r) :
    Ab.Can Try.prog 129 [] H0 (.sl 59 (.own (.rrow 0)) (r.map pv59)) H0 := by
  refine can_of tabOK mix Try.call129 Try.func129 rfl (by kernel_rfl) (by show _ ≤ 9; simp) fun _ => ?_
  rw [f129] at h
  refine .seq ?_
  refine .region ?_
  refine .assign ?_
  refine .nil ?_
  refine .seq ?_
  refine .region ?_
  refine .litR (f := (PV.int .i64)) ([3] : List Int) ?_
  refine .litR (f := (PV.int .i64)) ([1, 2] : List Int) ?_
  refine .litR (f := (PV.int .i64)) ([1, 2, 3, 4, 5, 6] : List Int) ?_
  refine .litR (f := (PV.int .i64)) ([2, 1] : List Int) ?_
  refine .litR (f := (PV.int .i64)) ([1, 2, 7, 8] : List Int) ?_
  refine .litR (f := (PV.int .i64)) ([4] : List Int) ?_
  refine .litR (f := (PV.int .i64)) ([1, 3] : List Int) ?_
  refine .litL (f := pv59) ([([3] : List Int), ([1, 2] : List Int), ([1, 2, 3, 4, 5, 6] : List Int), ([2, 1] : List Int), ([1, 2, 7, 8] : List Int), ([4] : List Int), ([1, 3] : List Int)] : List (List Int)) ?_
  refine .assign ?_
  refine .nil ?_
  cases h
  exact .ret (fin_gen0 (some (.row 1 7)))
theorem g129r {n : Nat}  {r : (List (List Int))} (h : f129 n  = some r) :
    Ab.Can Try.prog 129 [] H0 (.sl 59 .ro (r.map pv59)) H0 := Can.frzR (hq := []) (g129 h)

/- soundservice/soundservicemade.Map -/
def f120 (n : Nat) (a0 : Dice) : Option ((List Int) × Dice) :=
  (f129 n ).bind fun y1 =>
  (f72 n (⟨a0.l⟩ : Dice) (7 : Int)).bind fun y2 =>
  (lAt y1 y2.1).bind fun x3 =>
  some (x3, (⟨y2.2.l⟩ : Dice))
set_option maxHeartbeats 4000000 in
set_option maxRecDepth 100000 in
theorem g120 {n : Nat} {a0 : Dice} {r : ((List Int) × Dice)} (h : f120 n a0 = some r) :
    Ab.Can Try.prog 120 [.ptr (.par 0) 0] (lookH [(.par 0, [.sl 5 .ro (a0.l.map (PV.int .u8))])]) (.sl 3 .ro (r.1.map (PV.int .i64))) (lookH [(.par 0, [.sl 5 .ro (r.2.l.map (PV.int .u8))])]) := by
  refine can_of tabOK mix Try.call120 Try.func120 rfl (by kernel_rfl) (by show _ ≤ 8; simp) fun _ => ?_
  rw [f120] at h
  refine .seq ?_
  refine .region ?_
  refine .assign ?_
  refine .nil ?_
  refine .seq ?_
  refine .region ?_
  obtain ⟨y1, hy1, h⟩ := bindE h
  refine .cP (g129r hy1) ?_
  refine .move ?_
  obtain ⟨y2, hy2, h⟩ := bindE h
  refine .cH (.par 0) (g72 hy2) ?_
  obtain ⟨x3, hx3, h⟩ := bindE h
  refine .idxL (f := pv59) hx3 ?_
  refine .ldL hx3 (y := .sl 3 .ro (x3.map (PV.int .i64))) ?_
  refine .assign ?_
  refine .nil ?_
  cases h
  exact .ret (fin_gen none (.par .nil))

/- soundservice/soundservicemade.Box -/
def f109_l1 (n : Nat) (j27 : Int → (List (List Int)) → (List Int) → Option (Box × Dice)) : Nat → Int → (List (List Int)) → (List Int) → Int → Option (Box × Dice)
  | 0, _, _, _, _ => none
  | m45 + 1, v34, v35, v37, v38 =>
    if decide (v38 > (0 : Int)) then (
    (f72 n (⟨v37⟩ : Dice) (7 : Int)).bind fun y50 =>
    (iShl .i64 (1 : Int) (w64 ((1 : Int) + y50.1))).bind fun x51 =>
    f109_l1 n j27 m45 (bitsI .or .i64 v34 x51) v35 y50.2.l (w64 (v38 - (1 : Int))))
    else (
    j27 v34 v35 v37)
def f109_l3 (n : Nat) (v252 : (List (List Int))) (y354 : ((List Int) × Dice)) (j392 : Bool → Option (Box × Dice)) : Nat → Bool → Int → Option (Box × Dice)
  | 0, _, _ => none
  | m419 + 1, v401, v402 =>
    if decide (v402 < (v252.length : Int)) then (
    joinK (fun (_ : Unit) =>
    f109_l3 n v252 y354 j392 m419 true (w64 (v402 + (1 : Int)))) fun j427 =>
    joinK (fun (v428 : Bool) =>
    f109_l3 n v252 y354 j392 m419 v428 (w64 (v402 + (1 : Int)))) fun j429 =>
    joinK (fun (_ : Unit) =>
    f109_l3 n v252 y354 j392 m419 false (w64 (v402 + (1 : Int)))) fun j430 =>
    (lAt v252 v402).bind fun x431 =>
    if v401 then (
    j427 ())
    else (
    if ((x431.length : Int) == (y354.1.length : Int)) then (
    (lAt x431 (0 : Int)).bind fun x434 =>
    (lAt y354.1 (0 : Int)).bind fun x435 =>
    j429 (x434 == x435))
    else (
    j430 ())))
    else (
    j392 v401)
def f109_l2 (n : Nat) (j204 : (List (List Int)) → (List Int) → Option (Box × Dice)) : Nat → (List (List Int)) → (List Int) → Int → Option (Box × Dice)
  | 0, _, _, _ => none
  | m306 + 1, v252, v254, v255 =>
    if decide (v255 > (0 : Int)) then (
    joinK (fun (v350 : (List (List Int))) (v352 : (List Int)) =>
    f109_l2 n j204 m306 v350 v352 (w64 (v255 - (1 : Int)))) fun j353 =>
    (f120 n (⟨v254⟩ : Dice)).bind fun y354 =>
    joinK (fun (v391 : Bool) =>
    if !v391 then (
    (lApp v252 ([y354.1] : List (List Int))).bind fun x437 =>
    j353 x437 y354.2.l)
    else (
    j353 v252 y354.2.l)) fun j392 =>
    f109_l3 n v252 y354 j392 n false 0)
    else (
    j204 v252 v254)
def f109 (n : Nat) (a0 : Dice) : Option (Box × Dice) :=
  (f72 n (⟨a0.l⟩ : Dice) (7 : Int)).bind fun y1 =>
  (iShl .i64 (1 : Int) (w64 ((1 : Int) + y1.1))).bind fun x2 =>
  joinK (fun (v23 : Int) (v24 : (List (List Int))) (v26 : (List Int)) =>
  (f119 n (⟨v26⟩ : Dice) ([(⟨44100, 44100⟩ : Span), (⟨48000, 48000⟩ : Span), (⟨8000, 8000⟩ : Span), (⟨32000, 50000⟩ : Span), (⟨96000, 192000⟩ : Span)] : List Span)).bind fun y52 =>
  (f119 n (⟨y52.2.l⟩ : Dice) ([(⟨16, 64⟩ : Span), (⟨64, 1024⟩ : Span), (⟨2048, 2048⟩ : Span), (⟨1, 65536⟩ : Span)] : List Span)).bind fun y53 =>
  joinK (fun (v201 : (List (List Int))) (v203 : (List Int)) =>
  some ((⟨v23, y52.1.Spans, v201, y53.1.Spans⟩ : Box), (⟨v203⟩ : Dice))) fun j204 =>
  (f72 n (⟨y53.2.l⟩ : Dice) (3 : Int)).bind fun y205 =>
  f109_l2 n j204 n v24 y205.2.l (w64 ((1 : Int) + y205.1))) fun j27 =>
  (f72 n (⟨y1.2.l⟩ : Dice) (3 : Int)).bind fun y28 =>
  f109_l1 n j27 n x2 ([] : List (List Int)) y28.2.l y28.1
set_option maxHeartbeats 4000000 in
set_option maxRecDepth 100000 in
theorem g109 {n : Nat} {a0 : Dice} {r : (Box × Dice)} (h : f109 n a0 = some r) :
    Ab.Can Try.prog 109 [.ptr (.par 0) 0] (lookH [(.par 0, [.sl 5 .ro (a0.l.map (PV.int .u8))])]) (.agg [.int .i64 r.1.Kinds, .sl 124 .ro (r.1.Rates.map pv124), .sl 59 .ro (r.1.Maps.map pv59), .sl 124 .ro (r.1.Sizes.map pv124)]) (lookH [(.par 0, [.sl 5 .ro (r.2.l.map (PV.int .u8))])]) := by
  refine can_of tabOK mix Try.call109 Try.func109 rfl (by kernel_rfl) (by show _ ≤ 89; simp) fun _ => ?_
  rw [f109] at h
  refine .seq ?_
  refine .region ?_
  refine .allocL (cs := [.int .i64 0, .sl 124 .full [], .sl 59 .full [], .sl 124 .full []]) ?_
  refine .nil ?_
  refine .seq ?_
  refine .region ?_
  refine .move ?_
  obtain ⟨y1, hy1, h⟩ := bindE h
  refine .cH (.par 0) (g72 hy1) ?_
  refine .val ?_
  obtain ⟨x2, hx2, h⟩ := bindE h
  refine .shlL hx2 ?_
  refine .buildL (cs := [.int .i64 x2, .sl 124 .full [], .sl 59 .full [], .sl 124 .full []]) ?_
  refine .allocL (cs := [.int .i64 0, .sl 124 .full [], .sl 59 .full [], .sl 124 .full []]) ?_
  refine .wrL (cs := [.int .i64 x2, .sl 124 .full [], .sl 59 .full [], .sl 124 .full []]) ?_
  refine .nil ?_
  obtain ⟨j27, hj27, h⟩ := joinE h
  refine .cutI (fun T => (∃ (v23 : Int) (v24 : (List (List Int))) (v26 : (List Int)), T = St.of [(0, .ptr (.par 0) 0), (2, .ptr (.loc 0 0) 0), (3, .ptr (.loc 1 5) 0)] [((.loc 0 0), [.int .i64 0, .sl 124 .full [], .sl 59 .full [], .sl 124 .full []]), ((.loc 1 5), [.int .i64 v23, .sl 124 .full [], .sl 59 (.own (.row 9025 0)) (v24.map pv59), .sl 124 .full []]), ((.par 0), [.sl 5 .ro (v26.map (PV.int .u8))])] ∧ j27 v23 v24 v26 = some r)) ?_ ?_
  · refine .seq ?_
    refine .region ?_
    refine .move ?_
    obtain ⟨y28, hy28, h⟩ := bindE h
    refine .cH (.par 0) (g72 hy28) ?_
    refine .assign ?_
    refine .nil ?_
    refine .block ?_
    refine .loopI (fun m T => ∃ (v34 : Int) (v35 : (List (List Int))) (v37 : (List Int)) (v38 : Int), T = St.of [(0, .ptr (.par 0) 0), (2, .ptr (.loc 0 0) 0), (3, .ptr (.loc 1 5) 0), (4, .int .i64 v38)] [((.loc 0 0), [.int .i64 0, .sl 124 .full [], .sl 59 .full [], .sl 124 .full []]), ((.loc 1 5), [.int .i64 v34, .sl 124 .full [], .sl 59 (.own (.row 9036 0)) (v35.map pv59), .sl 124 .full []]), ((.par 0), [.sl 5 .ro (v37.map (PV.int .u8))])] ∧ f109_l1 n j27 m v34 v35 v37 v38 = some r) _ _ ⟨_, _, _, _, rfl, h⟩ (imp_of (.cons rfl (.cons rfl (.cons rfl (.cons rfl (.nil))))) (.cons rfl (.wk (.cons (.refl _) rfl (.cons (.refl _) rfl (.cons (.own _ _) rfl (.cons (.refl _) rfl (.nil))))) rfl (.cons rfl (.nil))))) ?_
    rintro m45 T ⟨v34, v35, v37, v38, rfl, h⟩
    obtain _ | m45 := m45
    · rw [f109_l1] at h; cases h
    rw [f109_l1] at h
    refine .seq ?_
    refine .seq ?_
    refine .region ?_
    refine .move ?_
    refine .val ?_
    refine .nil ?_
    refine .cond (fun hc47 => ?_) (fun hc47 => ?_)
    · replace h := (if_pos hc47).symm.trans h
      refine .skip ?_
      refine .seq ?_
      refine .block ?_
      obtain ⟨y50, hy50, h⟩ := bindE h
      obtain ⟨x51, hx51, h⟩ := bindE h
      refine .draw [3, 8] [[], [], [], [], [3], [3], [3], [3], [3]] [[8], [8], [3, 8], [8], [8], [8], [8], [8], []] [[], [3], [3, 8]]
        [(0, 0), (0, 1), (1, 0), (1, 1), (2, 0), (4, 1), (5, 1), (6, 1), (7, 1)] [(0, 3, 1), (1, 8, 2)] 2
        [⟨[(21, .ptr (.loc 1 5) 0), (22, .int .i64 v34), (23, .ptr (.par 0) 0), (0, .ptr (.par 0) 0), (2, .ptr (.loc 0 0) 0), (3, .ptr (.loc 1 5) 0), (4, .int .i64 v38)], [], [((.loc 0 0), [.int .i64 0, .sl 124 .full [], .sl 59 .full [], .sl 124 .full []]), ((.loc 1 5), [.int .i64 v34, .sl 124 .full [], .sl 59 (.own (.row 9036 0)) (v35.map pv59), .sl 124 .full []]), ((.par 0), [.sl 5 .ro (v37.map (PV.int .u8))])]⟩,
        ⟨[(21, .ptr (.loc 1 5) 0), (22, .int .i64 v34), (23, .ptr (.par 0) 0), (24, .int .i64 y50.1), (25, .int .i64 (w64 ((1 : Int) + y50.1))), (26, .int .i64 x51), (27, .int .i64 (bitsI .or .i64 v34 x51)), (28, .ptr (.loc 1 5) 0), (0, .ptr (.par 0) 0), (2, .ptr (.loc 0 0) 0), (3, .ptr (.loc 1 5) 0), (4, .int .i64 v38)], [], [((.loc 0 0), [.int .i64 0, .sl 124 .full [], .sl 59 .full [], .sl 124 .full []]), ((.loc 1 5), [.int .i64 v34, .sl 124 .full [], .sl 59 (.own (.row 9036 0)) (v35.map pv59), .sl 124 .full []]), ((.par 0), [.sl 5 .ro (y50.2.l.map (PV.int .u8))])]⟩,
        ⟨[(21, .ptr (.loc 1 5) 0), (22, .int .i64 v34), (23, .ptr (.par 0) 0), (24, .int .i64 y50.1), (25, .int .i64 (w64 ((1 : Int) + y50.1))), (26, .int .i64 x51), (27, .int .i64 (bitsI .or .i64 v34 x51)), (28, .ptr (.loc 1 5) 0), (0, .ptr (.par 0) 0), (2, .ptr (.loc 0 0) 0), (3, .ptr (.loc 1 5) 0), (4, .int .i64 v38)], [], [((.loc 0 0), [.int .i64 0, .sl 124 .full [], .sl 59 .full [], .sl 124 .full []]), ((.loc 1 5), [.int .i64 (bitsI .or .i64 v34 x51), .sl 124 .full [], .sl 59 (.own (.row 9036 0)) (v35.map pv59), .sl 124 .full []]), ((.par 0), [.sl 5 .ro (y50.2.l.map (PV.int .u8))])]⟩]
        [(0, .ptr (.par 0) 0), (2, .ptr (.loc 0 0) 0), (3, .ptr (.loc 1 5) 0), (4, .int .i64 v38)]
        (.cons [3] [] (fun _ _ h => .val (h _)) rfl rfl <|
        .cons [3] [] (fun _ _ h => .val (h _)) rfl rfl <|
        .cons [21] [] (fun _ _ h => .val (h _)) rfl rfl <|
        .cons [21] [] (fun _ _ h => .val (h _)) rfl rfl <|
        .cons [0] [] (fun _ _ h => .move (h _)) rfl rfl <|
        .cons [24] [] (fun _ _ h => .val (h _)) rfl rfl <|
        .cons [25] [] (fun _ _ h => .shlL hx51 (h _)) rfl rfl <|
        .cons [22, 26] [] (fun _ _ h => .val (h _)) rfl rfl <|
        .cons [3] [] (fun _ _ h => .val (h _)) rfl rfl <|
        .nil)
        (.cons (fun x => x) [23] [] (fun _ _ h => .cH (.par 0) (g72 hy50) (h _ _ (.cons rfl (.cons rfl (.cons rfl (.nil)))))) rfl (.old rfl (.old rfl (.old rfl (.new rfl (.new rfl (.new rfl (.new rfl (.new rfl (.old rfl (.old rfl (.old rfl (.old rfl (.nil))))))))))))) rfl rfl <|
        .cons (fun x => x) [28, 27] [] (fun _ _ h => .wrL (cs := [.int .i64 (bitsI .or .i64 v34 x51), .sl 124 .full [], .sl 59 (.own (.row 9036 0)) (v35.map pv59), .sl 124 .full []]) (h _ _ (.cons rfl (.cons rfl (.cons rfl (.nil)))))) rfl (.old rfl (.old rfl (.old rfl (.old rfl (.old rfl (.old rfl (.old rfl (.old rfl (.old rfl (.old rfl (.old rfl (.old rfl (.nil))))))))))))) rfl rfl <|
        .nil)
        (by kernel_rfl) rfl (.cons rfl (.cons rfl (.cons rfl (.cons rfl (.nil))))) (.nil) (.cons rfl (.cons rfl (.cons rfl (.nil)))) ?_
      refine .imp (T := St.of [(0, .ptr (.par 0) 0), (2, .ptr (.loc 0 0) 0), (3, .ptr (.loc 1 5) 0), (4, .int .i64 v38)] [((.loc 0 0), [.int .i64 0, .sl 124 .full [], .sl 59 .full [], .sl 124 .full []]), ((.loc 1 5), [.int .i64 (bitsI .or .i64 v34 x51), .sl 124 .full [], .sl 59 (.own (.row 9036 0)) (v35.map pv59), .sl 124 .full []]), ((.par 0), [.sl 5 .ro (y50.2.l.map (PV.int .u8))])]) (imp_of (.cons rfl (.cons rfl (.cons rfl (.cons rfl (.nil))))) (.cons rfl (.cons rfl (.cons rfl (.nil))))) ?_
      refine .region ?_
      refine .move ?_
      refine .val ?_
      refine .assign ?_
      refine .nil ?_
      exact ⟨m45, _, Nat.lt_succ_self m45, ⟨_, _, _, _, rfl, h⟩, (imp_of (.cons rfl (.cons rfl (.cons rfl (.cons rfl (.nil))))) (.cons rfl (.cons rfl (.cons rfl (.nil)))))⟩
    · replace h := (if_neg (nt hc47)).symm.trans h
      refine .exit (.hit ?_)
      exact ⟨_, ⟨_, _, _, rfl, h⟩, (Imp.trans (Imp.swap (.row 9036 0) (.row 9025 0) rfl rfl rfl) (imp_of (.cons rfl (.cons rfl (.cons rfl (.nil)))) (.cons rfl (.cons rfl (.cons rfl (.nil))))))⟩
  · rintro T ⟨v23, v24, v26, rfl, h⟩
    subst hj27
    refine .seq ?_
    refine .region ?_
    refine .move ?_
    refine .buildL (cs := [.int .i64 44100, .int .i64 44100]) ?_
    refine .buildL (cs := [.int .i64 48000, .int .i64 48000]) ?_
    refine .buildL (cs := [.int .i64 8000, .int .i64 8000]) ?_
    refine .buildL (cs := [.int .i64 32000, .int .i64 50000]) ?_
    refine .buildL (cs := [.int .i64 96000, .int .i64 192000]) ?_
    refine .litR (f := pv124) ([(⟨44100, 44100⟩ : Span), (⟨48000, 48000⟩ : Span), (⟨8000, 8000⟩ : Span), (⟨32000, 50000⟩ : Span), (⟨96000, 192000⟩ : Span)] : List Span) ?_
    obtain ⟨y52, hy52, h⟩ := bindE h
    refine .cH (.par 0) (g119 hy52) ?_
    refine .val ?_
    refine .wrL (cs := [.int .i64 v23, .sl 124 .ro (y52.1.Spans.map pv124), .sl 59 (.own (.row 9025 0)) (v24.map pv59), .sl 124 .full []]) ?_
    refine .nil ?_
    refine .seq ?_
    refine .region ?_
    refine .move ?_
    refine .buildL (cs := [.int .i64 16, .int .i64 64]) ?_
    refine .buildL (cs := [.int .i64 64, .int .i64 1024]) ?_
    refine .buildL (cs := [.int .i64 2048, .int .i64 2048]) ?_
    refine .buildL (cs := [.int .i64 1, .int .i64 65536]) ?_
    refine .litR (f := pv124) ([(⟨16, 64⟩ : Span), (⟨64, 1024⟩ : Span), (⟨2048, 2048⟩ : Span), (⟨1, 65536⟩ : Span)] : List Span) ?_
    obtain ⟨y53, hy53, h⟩ := bindE h
    refine .cH (.par 0) (g119 hy53) ?_
    refine .val ?_
    refine .wrL (cs := [.int .i64 v23, .sl 124 .ro (y52.1.Spans.map pv124), .sl 59 (.own (.row 9025 0)) (v24.map pv59), .sl 124 .ro (y53.1.Spans.map pv124)]) ?_
    refine .nil ?_
    obtain ⟨j204, hj204, h⟩ := joinE h
    refine .cutI (fun T => (∃ (v201 : (List (List Int))) (v203 : (List Int)), T = St.of [(2, .ptr (.loc 0 0) 0), (3, .ptr (.loc 1 5) 0)] [((.loc 0 0), [.int .i64 0, .sl 124 .full [], .sl 59 .full [], .sl 124 .full []]), ((.loc 1 5), [.int .i64 v23, .sl 124 .ro (y52.1.Spans.map pv124), .sl 59 (.own (.row 9202 0)) (v201.map pv59), .sl 124 .ro (y53.1.Spans.map pv124)]), ((.par 0), [.sl 5 .ro (v203.map (PV.int .u8))])] ∧ j204 v201 v203 = some r)) ?_ ?_
    · refine .seq ?_
      refine .region ?_
      refine .move ?_
      obtain ⟨y205, hy205, h⟩ := bindE h
      refine .cH (.par 0) (g72 hy205) ?_
      refine .val ?_
      refine .assign ?_
      refine .nil ?_
      refine .block ?_
      refine .loopI (fun m T => ∃ (v252 : (List (List Int))) (v254 : (List Int)) (v255 : Int), T = St.of [(0, .ptr (.par 0) 0), (2, .ptr (.loc 0 0) 0), (3, .ptr (.loc 1 5) 0), (5, .int .i64 v255)] [((.loc 0 0), [.int .i64 0, .sl 124 .full [], .sl 59 .full [], .sl 124 .full []]), ((.loc 1 5), [.int .i64 v23, .sl 124 .ro (y52.1.Spans.map pv124), .sl 59 (.own (.row 9253 0)) (v252.map pv59), .sl 124 .ro (y53.1.Spans.map pv124)]), ((.par 0), [.sl 5 .ro (v254.map (PV.int .u8))])] ∧ f109_l2 n j204 m v252 v254 v255 = some r) _ _ ⟨_, _, _, rfl, h⟩ (Imp.trans (Imp.swap (.row 9025 0) (.row 9253 0) rfl rfl rfl) (imp_of (.cons rfl (.cons rfl (.cons rfl (.cons rfl (.nil))))) (.cons rfl (.cons rfl (.cons rfl (.nil)))))) ?_
      rintro m306 T ⟨v252, v254, v255, rfl, h⟩
      obtain _ | m306 := m306
      · rw [f109_l2] at h; cases h
      rw [f109_l2] at h
      refine .seq ?_
      refine .seq ?_
      refine .region ?_
      refine .move ?_
      refine .val ?_
      refine .nil ?_
      refine .cond (fun hc308 => ?_) (fun hc308 => ?_)
      · replace h := (if_pos hc308).symm.trans h
        refine .skip ?_
        obtain ⟨j353, hj353, h⟩ := joinE h
        refine .cutI (fun T => (∃ (v350 : (List (List Int))) (v352 : (List Int)), T = St.of [(0, .ptr (.par 0) 0), (2, .ptr (.loc 0 0) 0), (3, .ptr (.loc 1 5) 0), (5, .int .i64 v255)] [((.loc 0 0), [.int .i64 0, .sl 124 .full [], .sl 59 .full [], .sl 124 .full []]), ((.loc 1 5), [.int .i64 v23, .sl 124 .ro (y52.1.Spans.map pv124), .sl 59 (.own (.row 9351 0)) (v350.map pv59), .sl 124 .ro (y53.1.Spans.map pv124)]), ((.par 0), [.sl 5 .ro (v352.map (PV.int .u8))])] ∧ j353 v350 v352 = some r)) ?_ ?_
        · refine .block ?_
          refine .seq ?_
          refine .region ?_
          refine .move ?_
          obtain ⟨y354, hy354, h⟩ := bindE h
          refine .cH (.par 0) (g120 hy354) ?_
          refine .assign ?_
          refine .nil ?_
          refine .seq ?_
          refine .region ?_
          refine .assign ?_
          refine .nil ?_
          obtain ⟨j392, hj392, h⟩ := joinE h
          refine .cutI (fun T => (∃ (v391 : Bool), T = St.of [(0, .ptr (.par 0) 0), (2, .ptr (.loc 0 0) 0), (3, .ptr (.loc 1 5) 0), (5, .int .i64 v255), (6, .sl 3 .ro (y354.1.map (PV.int .i64))), (7, .bool v391)] [((.loc 0 0), [.int .i64 0, .sl 124 .full [], .sl 59 .full [], .sl 124 .full []]), ((.loc 1 5), [.int .i64 v23, .sl 124 .ro (y52.1.Spans.map pv124), .sl 59 (.own (.row 9253 0)) (v252.map pv59), .sl 124 .ro (y53.1.Spans.map pv124)]), ((.par 0), [.sl 5 .ro (y354.2.l.map (PV.int .u8))])] ∧ j392 v391 = some r)) ?_ ?_
          · refine .seq ?_
            refine .region ?_
            refine .val ?_
            refine .val ?_
            refine .lenL (f := pv59) ?_
            refine .move ?_
            refine .nil ?_
            refine .block ?_
            refine .loopI (fun m T => ∃ (v401 : Bool) (v402 : Int), T = St.of [(0, .ptr (.par 0) 0), (2, .ptr (.loc 0 0) 0), (3, .ptr (.loc 1 5) 0), (5, .int .i64 v255), (6, .sl 3 .ro (y354.1.map (PV.int .i64))), (7, .bool v401), (56, .sl 59 (.own (.row 9253 0)) (v252.map pv59)), (57, .int .i64 (v252.length : Int)), (58, .int .i64 v402)] [((.loc 0 0), [.int .i64 0, .sl 124 .full [], .sl 59 .full [], .sl 124 .full []]), ((.loc 1 5), [.int .i64 v23, .sl 124 .ro (y52.1.Spans.map pv124), .sl 59 (.own (.row 9253 0)) (v252.map pv59), .sl 124 .ro (y53.1.Spans.map pv124)]), ((.par 0), [.sl 5 .ro (y354.2.l.map (PV.int .u8))])] ∧ f109_l3 n v252 y354 j392 m v401 v402 = some r) _ _ ⟨_, _, rfl, h⟩ (imp_of (.cons rfl (.cons rfl (.cons rfl (.cons rfl (.cons rfl (.cons rfl (.cons rfl (.cons rfl (.cons rfl (.nil)))))))))) (.cons rfl (.cons rfl (.cons rfl (.nil))))) ?_
            rintro m419 T ⟨v401, v402, rfl, h⟩
            obtain _ | m419 := m419
            · rw [f109_l3] at h; cases h
            rw [f109_l3] at h
            refine .seq ?_
            refine .region ?_
            refine .val ?_
            refine .nil ?_
            refine .seq ?_
            refine .cond (fun hc421 => ?_) (fun hc421 => ?_)
            · replace h := (if_pos hc421).symm.trans h
              refine .skip ?_
              obtain ⟨j427, hj427, h⟩ := joinE h
              obtain ⟨j429, hj429, h⟩ := joinE h
              obtain ⟨j430, hj430, h⟩ := joinE h
              refine .cutI (fun T => (T = St.of [(0, .ptr (.par 0) 0), (2, .ptr (.loc 0 0) 0), (3, .ptr (.loc 1 5) 0), (5, .int .i64 v255), (6, .sl 3 .ro (y354.1.map (PV.int .i64))), (7, .bool true), (56, .sl 59 (.own (.row 9253 0)) (v252.map pv59)), (57, .int .i64 (v252.length : Int)), (58, .int .i64 v402)] [((.loc 0 0), [.int .i64 0, .sl 124 .full [], .sl 59 .full [], .sl 124 .full []]), ((.loc 1 5), [.int .i64 v23, .sl 124 .ro (y52.1.Spans.map pv124), .sl 59 (.own (.row 9253 0)) (v252.map pv59), .sl 124 .ro (y53.1.Spans.map pv124)]), ((.par 0), [.sl 5 .ro (y354.2.l.map (PV.int .u8))])] ∧ j427 () = some r) ∨ (∃ (v428 : Bool), T = St.of [(0, .ptr (.par 0) 0), (2, .ptr (.loc 0 0) 0), (3, .ptr (.loc 1 5) 0), (5, .int .i64 v255), (6, .sl 3 .ro (y354.1.map (PV.int .i64))), (7, .bool v428), (56, .sl 59 (.own (.row 9253 0)) (v252.map pv59)), (57, .int .i64 (v252.length : Int)), (58, .int .i64 v402)] [((.loc 0 0), [.int .i64 0, .sl 124 .full [], .sl 59 .full [], .sl 124 .full []]), ((.loc 1 5), [.int .i64 v23, .sl 124 .ro (y52.1.Spans.map pv124), .sl 59 (.own (.row 9253 0)) (v252.map pv59), .sl 124 .ro (y53.1.Spans.map pv124)]), ((.par 0), [.sl 5 .ro (y354.2.l.map (PV.int .u8))])] ∧ j429 v428 = some r) ∨ (T = St.of [(0, .ptr (.par 0) 0), (2, .ptr (.loc 0 0) 0), (3, .ptr (.loc 1 5) 0), (5, .int .i64 v255), (6, .sl 3 .ro (y354.1.map (PV.int .i64))), (7, .bool false), (56, .sl 59 (.own (.row 9253 0)) (v252.map pv59)), (57, .int .i64 (v252.length : Int)), (58, .int .i64 v402)] [((.loc 0 0), [.int .i64 0, .sl 124 .full [], .sl 59 .full [], .sl 124 .full []]), ((.loc 1 5), [.int .i64 v23, .sl 124 .ro (y52.1.Spans.map pv124), .sl 59 (.own (.row 9253 0)) (v252.map pv59), .sl 124 .ro (y53.1.Spans.map pv124)]), ((.par 0), [.sl 5 .ro (y354.2.l.map (PV.int .u8))])] ∧ j430 () = some r)) ?_ ?_
              · refine .block ?_
                refine .seq ?_
                refine .region ?_
                obtain ⟨x431, hx431, h⟩ := bindE h
                refine .idxL (f := pv59) hx431 ?_
                refine .ldL hx431 (y := .sl 3 .ro (x431.map (PV.int .i64))) ?_
                refine .assign ?_
                refine .nil ?_
                rcases bool_em (v401) with hc432 | hc432
                · replace h := (if_pos hc432).symm.trans h
                  refine .draw [] [[], [], [], [], [], [], [], [], [], [], [], [], [], [], [], [], [], []] [[], [], [], [], [], [], [], [], [], [], [], [], [], [], [], [], [], []] [[]]
                    [(0, 0), (1, 0), (2, 0), (3, 0), (4, 0), (5, 0), (6, 0), (7, 0), (8, 0), (9, 0), (10, 0), (11, 0), (12, 0), (13, 0), (14, 0), (15, 0), (16, 0), (17, 0)] [] 0
                    [⟨[(62, .bool true), (63, .bool true), (64, .tup []), (65, .tup []), (66, .tup []), (67, .tup []), (68, .tup []), (69, .tup []), (70, .tup []), (71, .tup []), (72, .tup []), (73, .tup []), (74, .tup []), (75, .tup []), (76, .tup []), (77, .tup []), (78, .bool true), (7, .bool true), (0, .ptr (.par 0) 0), (2, .ptr (.loc 0 0) 0), (3, .ptr (.loc 1 5) 0), (5, .int .i64 v255), (6, .sl 3 .ro (y354.1.map (PV.int .i64))), (9, .sl 3 .ro (x431.map (PV.int .i64))), (56, .sl 59 (.own (.row 9253 0)) (v252.map pv59)), (57, .int .i64 (v252.length : Int)), (58, .int .i64 v402)], [(7, .bool true)], [((.loc 0 0), [.int .i64 0, .sl 124 .full [], .sl 59 .full [], .sl 124 .full []]), ((.loc 1 5), [.int .i64 v23, .sl 124 .ro (y52.1.Spans.map pv124), .sl 59 (.own (.row 9253 0)) (v252.map pv59), .sl 124 .ro (y53.1.Spans.map pv124)]), ((.par 0), [.sl 5 .ro (y354.2.l.map (PV.int .u8))])]⟩]
                    [(0, .ptr (.par 0) 0), (2, .ptr (.loc 0 0) 0), (3, .ptr (.loc 1 5) 0), (5, .int .i64 v255), (6, .sl 3 .ro (y354.1.map (PV.int .i64))), (9, .sl 3 .ro (x431.map (PV.int .i64))), (56, .sl 59 (.own (.row 9253 0)) (v252.map pv59)), (57, .int .i64 (v252.length : Int)), (58, .int .i64 v402)]
                    (.cons [] [7] (fun _ _ h => .move (h _)) rfl rfl <|
                    .cons [62] [] (fun _ _ h => .move (h _)) rfl rfl <|
                    .cons [63] [] (fun _ _ h => .skip (h _)) rfl rfl <|
                    .cons [63] [] (fun _ _ h => .skip (h _)) rfl rfl <|
                    .cons [63] [] (fun _ _ h => .skip (h _)) rfl rfl <|
                    .cons [63] [] (fun _ _ h => .skip (h _)) rfl rfl <|
                    .cons [63] [] (fun _ _ h => .skip (h _)) rfl rfl <|
                    .cons [63] [] (fun _ _ h => .skip (h _)) rfl rfl <|
                    .cons [69] [] (fun _ _ h => .skip (h _)) rfl rfl <|
                    .cons [69] [] (fun _ _ h => .skip (h _)) rfl rfl <|
                    .cons [69] [] (fun _ _ h => .skip (h _)) rfl rfl <|
                    .cons [69] [] (fun _ _ h => .skip (h _)) rfl rfl <|
                    .cons [69] [] (fun _ _ h => .skip (h _)) rfl rfl <|
                    .cons [69] [] (fun _ _ h => .skip (h _)) rfl rfl <|
                    .cons [69] [] (fun _ _ h => .skip (h _)) rfl rfl <|
                    .cons [63] [] (fun _ _ h => .skip (h _)) rfl rfl <|
                    .cons [63, 77] [] (fun _ _ h => .brT (h _)) rfl rfl <|
                    .cons [78] [] (fun _ _ h => .assign (h _)) rfl rfl <|
                    .nil)
                    (.nil)
                    (by kernel_rfl) rfl (.cons rfl (.cons rfl (.cons rfl (.cons rfl (.cons rfl (.cons rfl (.cons rfl (.cons rfl (.cons rfl (.nil)))))))))) (.cons (congrArg PV.bool hc432) (.nil)) (.cons rfl (.cons rfl (.cons rfl (.nil)))) ?_
                  exact ⟨_, (.inl ⟨rfl, h⟩), (imp_of (.cons rfl (.cons rfl (.cons rfl (.cons rfl (.cons rfl (.cons rfl (.cons rfl (.cons rfl (.cons rfl (.nil)))))))))) (.cons rfl (.cons rfl (.cons rfl (.nil)))))⟩
                · replace h := (if_neg (nt hc432)).symm.trans h
                  rcases bool_em (((x431.length : Int) == (y354.1.length : Int))) with hc433 | hc433
                  · replace h := (if_pos hc433).symm.trans h
                    obtain ⟨x434, hx434, h⟩ := bindE h
                    obtain ⟨x435, hx435, h⟩ := bindE h
                    refine .draw [] [[], [], [], [], [], [], [], [], [], [], [], [], [], [], [], [], [], []] [[], [], [], [], [], [], [], [], [], [], [], [], [], [], [], [], [], []] [[]]
                      [(0, 0), (1, 0), (2, 0), (3, 0), (4, 0), (5, 0), (6, 0), (7, 0), (8, 0), (9, 0), (10, 0), (11, 0), (12, 0), (13, 0), (14, 0), (15, 0), (16, 0), (17, 0)] [] 0
                      [⟨[(62, .bool false), (63, .bool false), (64, .sl 3 .ro (x431.map (PV.int .i64))), (65, .int .i64 (x431.length : Int)), (66, .sl 3 .ro (y354.1.map (PV.int .i64))), (67, .int .i64 (y354.1.length : Int)), (68, .bool true), (69, .bool true), (70, .sl 3 .ro (x431.map (PV.int .i64))), (71, .ep 3 .ro (x431.map (PV.int .i64)) (0 : Int).toNat 0), (72, .int .i64 x434), (73, .sl 3 .ro (y354.1.map (PV.int .i64))), (74, .ep 3 .ro (y354.1.map (PV.int .i64)) (0 : Int).toNat 0), (75, .int .i64 x435), (76, .bool (x434 == x435)), (77, .bool (x434 == x435)), (78, .bool (x434 == x435)), (7, .bool (x434 == x435)), (0, .ptr (.par 0) 0), (2, .ptr (.loc 0 0) 0), (3, .ptr (.loc 1 5) 0), (5, .int .i64 v255), (6, .sl 3 .ro (y354.1.map (PV.int .i64))), (9, .sl 3 .ro (x431.map (PV.int .i64))), (56, .sl 59 (.own (.row 9253 0)) (v252.map pv59)), (57, .int .i64 (v252.length : Int)), (58, .int .i64 v402)], [(7, .bool false)], [((.loc 0 0), [.int .i64 0, .sl 124 .full [], .sl 59 .full [], .sl 124 .full []]), ((.loc 1 5), [.int .i64 v23, .sl 124 .ro (y52.1.Spans.map pv124), .sl 59 (.own (.row 9253 0)) (v252.map pv59), .sl 124 .ro (y53.1.Spans.map pv124)]), ((.par 0), [.sl 5 .ro (y354.2.l.map (PV.int .u8))])]⟩]
                      [(0, .ptr (.par 0) 0), (2, .ptr (.loc 0 0) 0), (3, .ptr (.loc 1 5) 0), (5, .int .i64 v255), (6, .sl 3 .ro (y354.1.map (PV.int .i64))), (9, .sl 3 .ro (x431.map (PV.int .i64))), (56, .sl 59 (.own (.row 9253 0)) (v252.map pv59)), (57, .int .i64 (v252.length : Int)), (58, .int .i64 v402)]
                      (.cons [] [7] (fun _ _ h => .move (h _)) rfl rfl <|
                      .cons [62] [] (fun _ _ h => .move (h _)) rfl rfl <|
                      .cons [9, 63] [] (fun _ _ h => .move (h _)) rfl rfl <|
                      .cons [64, 63] [] (fun _ _ h => .lenL (f := (PV.int .i64)) (h _)) rfl rfl <|
                      .cons [6, 63] [] (fun _ _ h => .move (h _)) rfl rfl <|
                      .cons [66, 63] [] (fun _ _ h => .lenL (f := (PV.int .i64)) (h _)) rfl rfl <|
                      .cons [65, 67, 63] [] (fun _ _ h => .valB hc433 (h _)) rfl rfl <|
                      .cons [68, 63] [] (fun _ _ h => .move (h _)) rfl rfl <|
                      .cons [9, 69] [] (fun _ _ h => .move (h _)) rfl rfl <|
                      .cons [70, 69] [] (fun _ _ h => .idxL (f := (PV.int .i64)) hx434 (h _)) rfl rfl <|
                      .cons [71, 69] [] (fun _ _ h => .ldL hx434 (h _)) rfl rfl <|
                      .cons [6, 69] [] (fun _ _ h => .move (h _)) rfl rfl <|
                      .cons [73, 69] [] (fun _ _ h => .idxL (f := (PV.int .i64)) hx435 (h _)) rfl rfl <|
                      .cons [74, 69] [] (fun _ _ h => .ldL hx435 (h _)) rfl rfl <|
                      .cons [72, 75, 69] [] (fun _ _ h => .val (h _)) rfl rfl <|
                      .cons [69, 76, 63] [] (fun _ _ h => .brT (h _)) rfl rfl <|
                      .cons [63, 77] [] (fun _ _ h => .brF (h _)) rfl rfl <|
                      .cons [78] [] (fun _ _ h => .assign (h _)) rfl rfl <|
                      .nil)
                      (.nil)
                      (by kernel_rfl) rfl (.cons rfl (.cons rfl (.cons rfl (.cons rfl (.cons rfl (.cons rfl (.cons rfl (.cons rfl (.cons rfl (.nil)))))))))) (.cons (congrArg PV.bool hc432) (.nil)) (.cons rfl (.cons rfl (.cons rfl (.nil)))) ?_
                    exact ⟨_, (.inr (.inl ⟨_, rfl, h⟩)), (imp_of (.cons rfl (.cons rfl (.cons rfl (.cons rfl (.cons rfl (.cons rfl (.cons rfl (.cons rfl (.cons rfl (.nil)))))))))) (.cons rfl (.cons rfl (.cons rfl (.nil)))))⟩
                  · replace h := (if_neg (nt hc433)).symm.trans h
                    refine .draw [] [[], [], [], [], [], [], [], [], [], [], [], [], [], [], [], [], [], []] [[], [], [], [], [], [], [], [], [], [], [], [], [], [], [], [], [], []] [[]]
                      [(0, 0), (1, 0), (2, 0), (3, 0), (4, 0), (5, 0), (6, 0), (7, 0), (8, 0), (9, 0), (10, 0), (11, 0), (12, 0), (13, 0), (14, 0), (15, 0), (16, 0), (17, 0)] [] 0
                      [⟨[(62, .bool false), (63, .bool false), (64, .sl 3 .ro (x431.map (PV.int .i64))), (65, .int .i64 (x431.length : Int)), (66, .sl 3 .ro (y354.1.map (PV.int .i64))), (67, .int .i64 (y354.1.length : Int)), (68, .bool false), (69, .bool false), (70, .tup []), (71, .tup []), (72, .tup []), (73, .tup []), (74, .tup []), (75, .tup []), (76, .tup []), (77, .bool false), (78, .bool false), (7, .bool false), (0, .ptr (.par 0) 0), (2, .ptr (.loc 0 0) 0), (3, .ptr (.loc 1 5) 0), (5, .int .i64 v255), (6, .sl 3 .ro (y354.1.map (PV.int .i64))), (9, .sl 3 .ro (x431.map (PV.int .i64))), (56, .sl 59 (.own (.row 9253 0)) (v252.map pv59)), (57, .int .i64 (v252.length : Int)), (58, .int .i64 v402)], [(7, .bool false)], [((.loc 0 0), [.int .i64 0, .sl 124 .full [], .sl 59 .full [], .sl 124 .full []]), ((.loc 1 5), [.int .i64 v23, .sl 124 .ro (y52.1.Spans.map pv124), .sl 59 (.own (.row 9253 0)) (v252.map pv59), .sl 124 .ro (y53.1.Spans.map pv124)]), ((.par 0), [.sl 5 .ro (y354.2.l.map (PV.int .u8))])]⟩]
                      [(0, .ptr (.par 0) 0), (2, .ptr (.loc 0 0) 0), (3, .ptr (.loc 1 5) 0), (5, .int .i64 v255), (6, .sl 3 .ro (y354.1.map (PV.int .i64))), (9, .sl 3 .ro (x431.map (PV.int .i64))), (56, .sl 59 (.own (.row 9253 0)) (v252.map pv59)), (57, .int .i64 (v252.length : Int)), (58, .int .i64 v402)]
                      (.cons [] [7] (fun _ _ h => .move (h _)) rfl rfl <|
                      .cons [62] [] (fun _ _ h => .move (h _)) rfl rfl <|
                      .cons [9, 63] [] (fun _ _ h => .move (h _)) rfl rfl <|
                      .cons [64, 63] [] (fun _ _ h => .lenL (f := (PV.int .i64)) (h _)) rfl rfl <|
                      .cons [6, 63] [] (fun _ _ h => .move (h _)) rfl rfl <|
                      .cons [66, 63] [] (fun _ _ h => .lenL (f := (PV.int .i64)) (h _)) rfl rfl <|
                      .cons [65, 67, 63] [] (fun _ _ h => .valB hc433 (h _)) rfl rfl <|
                      .cons [68, 63] [] (fun _ _ h => .move (h _)) rfl rfl <|
                      .cons [69] [] (fun _ _ h => .skip (h _)) rfl rfl <|
                      .cons [69] [] (fun _ _ h => .skip (h _)) rfl rfl <|
                      .cons [69] [] (fun _ _ h => .skip (h _)) rfl rfl <|
                      .cons [69] [] (fun _ _ h => .skip (h _)) rfl rfl <|
                      .cons [69] [] (fun _ _ h => .skip (h _)) rfl rfl <|
                      .cons [69] [] (fun _ _ h => .skip (h _)) rfl rfl <|
                      .cons [69] [] (fun _ _ h => .skip (h _)) rfl rfl <|
                      .cons [69, 76, 63] [] (fun _ _ h => .brF (h _)) rfl rfl <|
                      .cons [63, 77] [] (fun _ _ h => .brF (h _)) rfl rfl <|
                      .cons [78] [] (fun _ _ h => .assign (h _)) rfl rfl <|
                      .nil)
                      (.nil)
                      (by kernel_rfl) rfl (.cons rfl (.cons rfl (.cons rfl (.cons rfl (.cons rfl (.cons rfl (.cons rfl (.cons rfl (.cons rfl (.nil)))))))))) (.cons (congrArg PV.bool hc432) (.nil)) (.cons rfl (.cons rfl (.cons rfl (.nil)))) ?_
                    exact ⟨_, (.inr (.inr (⟨rfl, h⟩))), (imp_of (.cons rfl (.cons rfl (.cons rfl (.cons rfl (.cons rfl (.cons rfl (.cons rfl (.cons rfl (.cons rfl (.nil)))))))))) (.cons rfl (.cons rfl (.cons rfl (.nil)))))⟩
              · rintro T (⟨rfl, h⟩ | ⟨v428, rfl, h⟩ | ⟨rfl, h⟩)
                · subst hj427
                  refine .region ?_
                  refine .val ?_
                  refine .move ?_
                  refine .nil ?_
                  exact ⟨m419, _, Nat.lt_succ_self m419, ⟨_, _, rfl, h⟩, (imp_of (.cons rfl (.cons rfl (.cons rfl (.cons rfl (.cons rfl (.cons rfl (.cons rfl (.cons rfl (.cons rfl (.nil)))))))))) (.cons rfl (.cons rfl (.cons rfl (.nil)))))⟩
                · subst hj429
                  refine .region ?_
                  refine .val ?_
                  refine .move ?_
                  refine .nil ?_
                  exact ⟨m419, _, Nat.lt_succ_self m419, ⟨_, _, rfl, h⟩, (imp_of (.cons rfl (.cons rfl (.cons rfl (.cons rfl (.cons rfl (.cons rfl (.cons rfl (.cons rfl (.cons rfl (.nil)))))))))) (.cons rfl (.cons rfl (.cons rfl (.nil)))))⟩
                · subst hj430
                  refine .region ?_
                  refine .val ?_
                  refine .move ?_
                  refine .nil ?_
                  exact ⟨m419, _, Nat.lt_succ_self m419, ⟨_, _, rfl, h⟩, (imp_of (.cons rfl (.cons rfl (.cons rfl (.cons rfl (.cons rfl (.cons rfl (.cons rfl (.cons rfl (.cons rfl (.nil)))))))))) (.cons rfl (.cons rfl (.cons rfl (.nil)))))⟩
            · replace h := (if_neg (nt hc421)).symm.trans h
              refine .exit (.hit ?_)
              exact ⟨_, ⟨_, rfl, h⟩, (imp_of (.cons rfl (.cons rfl (.cons rfl (.cons rfl (.cons rfl (.cons rfl (.nil))))))) (.cons rfl (.cons rfl (.cons rfl (.nil)))))⟩
          · rintro T ⟨v391, rfl, h⟩
            subst hj392
            refine .seq ?_
            refine .region ?_
            refine .move ?_
            refine .val ?_
            refine .nil ?_
            refine .cond (fun hc436 => ?_) (fun hc436 => ?_)
            · replace h := (if_pos hc436).symm.trans h
              refine .region ?_
              refine .val ?_
              refine .val ?_
              refine .move ?_
              refine .litR (f := pv59) ([y354.1] : List (List Int)) ?_
              obtain ⟨x437, hx437, h⟩ := bindE h
              refine .appL (f := pv59) hx437 ?_
              refine .val ?_
              refine .wrL (cs := [.int .i64 v23, .sl 124 .ro (y52.1.Spans.map pv124), .sl 59 (.own (.row 19 4)) (x437.map pv59), .sl 124 .ro (y53.1.Spans.map pv124)]) ?_
              refine .nil ?_
              exact ⟨_, ⟨_, _, rfl, h⟩, (Imp.trans (Imp.swap (.row 19 4) (.row 9351 0) rfl rfl rfl) (imp_of (.cons rfl (.cons rfl (.cons rfl (.cons rfl (.nil))))) (.cons rfl (.cons rfl (.cons rfl (.nil))))))⟩
            · replace h := (if_neg (nt hc436)).symm.trans h
              refine .skip ?_
              exact ⟨_, ⟨_, _, rfl, h⟩, (Imp.trans (Imp.swap (.row 9253 0) (.row 9351 0) rfl rfl rfl) (imp_of (.cons rfl (.cons rfl (.cons rfl (.cons rfl (.nil))))) (.cons rfl (.cons rfl (.cons rfl (.nil))))))⟩
        · rintro T ⟨v350, v352, rfl, h⟩
          subst hj353
          refine .region ?_
          refine .move ?_
          refine .val ?_
          refine .assign ?_
          refine .nil ?_
          exact ⟨m306, _, Nat.lt_succ_self m306, ⟨_, _, _, rfl, h⟩, (Imp.trans (Imp.swap (.row 9351 0) (.row 9253 0) rfl rfl rfl) (imp_of (.cons rfl (.cons rfl (.cons rfl (.cons rfl (.nil))))) (.cons rfl (.cons rfl (.cons rfl (.nil))))))⟩
      · replace h := (if_neg (nt hc308)).symm.trans h
        refine .exit (.hit ?_)
        exact ⟨_, ⟨_, _, rfl, h⟩, (Imp.trans (Imp.swap (.row 9253 0) (.row 9202 0) rfl rfl rfl) (imp_of (.cons rfl (.cons rfl (.nil))) (.cons rfl (.cons rfl (.cons rfl (.nil))))))⟩
    · rintro T ⟨v201, v203, rfl, h⟩
      subst hj204
      refine .seq ?_
      refine .region ?_
      refine .val (v := .agg [.int .i64 v23, .sl 124 .ro (y52.1.Spans.map pv124), .sl 59 (.own (.row 9202 0)) (v201.map pv59), .sl 124 .ro (y53.1.Spans.map pv124)]) ?_
      refine .wrL (cs := [.int .i64 v23, .sl 124 .ro (y52.1.Spans.map pv124), .sl 59 (.own (.row 9202 0)) (v201.map pv59), .sl 124 .ro (y53.1.Spans.map pv124)]) ?_
      refine .nil ?_
      cases h
      exact .ret (fin_gen none (.par .nil))

/- soundservice/soundservicemade.Boxes -/
def f99_l1 (n : Nat) (j24 : (List Int) → (List Box) → Option ((List Box) × Dice)) : Nat → (List Int) → (List Box) → Int → Option ((List Box) × Dice)
  | 0, _, _, _ => none
  | m42 + 1, v31, v32, v34 =>
    if decide (v34 > (0 : Int)) then (
    (f109 n (⟨v31⟩ : Dice)).bind fun y47 =>
    (lApp v32 ([y47.1] : List Box)).bind fun x48 =>
    f99_l1 n j24 m42 y47.2.l x48 (w64 (v34 - (1 : Int))))
    else (
    j24 v31 v32)
def f99 (n : Nat) (a0 : Dice) (a1 : Int) (a2 : Int) : Option ((List Box) × Dice) :=
  joinK (fun (v21 : (List Int)) (v22 : (List Box)) =>
  some (v22, (⟨v21⟩ : Dice))) fun j24 =>
  (f72 n (⟨a0.l⟩ : Dice) (w64 ((w64 (a2 - a1)) + (1 : Int)))).bind fun y25 =>
  f99_l1 n j24 n y25.2.l ([] : List Box) (w64 (a1 + y25.1))
set_option maxHeartbeats 4000000 in
set_option maxRecDepth 100000 in
theorem g99 {n : Nat} {a0 : Dice} {a1 : Int} {a2 : Int} {r : ((List Box) × Dice)} (h : f99 n a0 a1 a2 = some r) :
    Ab.Can Try.prog 99 [.ptr (.par 0) 0, .int .i64 a1, .int .i64 a2] (lookH [(.par 0, [.sl 5 .ro (a0.l.map (PV.int .u8))])]) (.sl 94 (.own (.rrow 0)) (r.1.map pv94)) (lookH [(.par 0, [.sl 5 .ro (r.2.l.map (PV.int .u8))])]) := by
  refine can_of tabOK mix Try.call99 Try.func99 rfl (by kernel_rfl) (by show _ ≤ 27; simp) fun _ => ?_
  rw [f99] at h
  refine .seq ?_
  refine .region ?_
  refine .assign ?_
  refine .nil ?_
  refine .seq ?_
  refine .region ?_
  refine .assign ?_
  refine .nil ?_
  obtain ⟨j24, hj24, h⟩ := joinE h
  refine .cutI (fun T => (∃ (v21 : (List Int)) (v22 : (List Box)), T = St.of [(7, .sl 94 (.own (.row 9023 0)) (v22.map pv94))] [((.par 0), [.sl 5 .ro (v21.map (PV.int .u8))])] ∧ j24 v21 v22 = some r)) ?_ ?_
  · refine .seq ?_
    refine .region ?_
    refine .move ?_
    refine .move ?_
    refine .move ?_
    refine .move ?_
    refine .val ?_
    refine .val ?_
    obtain ⟨y25, hy25, h⟩ := bindE h
    refine .cH (.par 0) (g72 hy25) ?_
    refine .val ?_
    refine .assign ?_
    refine .nil ?_
    refine .block ?_
    refine .loopI (fun m T => ∃ (v31 : (List Int)) (v32 : (List Box)) (v34 : Int), T = St.of [(0, .ptr (.par 0) 0), (7, .sl 94 (.own (.row 9033 0)) (v32.map pv94)), (8, .int .i64 v34)] [((.par 0), [.sl 5 .ro (v31.map (PV.int .u8))])] ∧ f99_l1 n j24 m v31 v32 v34 = some r) _ _ ⟨_, _, _, rfl, h⟩ (imp_of (.cons rfl (.wk (.own _ _) rfl (.cons rfl (.nil)))) (.cons rfl (.nil))) ?_
    rintro m42 T ⟨v31, v32, v34, rfl, h⟩
    obtain _ | m42 := m42
    · rw [f99_l1] at h; cases h
    rw [f99_l1] at h
    refine .seq ?_
    refine .seq ?_
    refine .region ?_
    refine .move ?_
    refine .val ?_
    refine .nil ?_
    refine .cond (fun hc44 => ?_) (fun hc44 => ?_)
    · replace h := (if_pos hc44).symm.trans h
      refine .skip ?_
      refine .seq ?_
      refine .block ?_
      refine .region ?_
      refine .move ?_
      refine .move ?_
      obtain ⟨y47, hy47, h⟩ := bindE h
      refine .cH (.par 0) (g109 hy47) ?_
      refine .litR (f := pv94) ([y47.1] : List Box) ?_
      obtain ⟨x48, hx48, h⟩ := bindE h
      refine .appL (f := pv94) hx48 ?_
      refine .assign ?_
      refine .nil ?_
      refine .region ?_
      refine .move ?_
      refine .val ?_
      refine .assign ?_
      refine .nil ?_
      exact ⟨m42, _, Nat.lt_succ_self m42, ⟨_, _, _, rfl, h⟩, (Imp.trans (Imp.swap (.row 5 4) (.row 9033 0) rfl rfl rfl) (imp_of (.cons rfl (.cons rfl (.cons rfl (.nil)))) (.cons rfl (.nil))))⟩
    · replace h := (if_neg (nt hc44)).symm.trans h
      refine .exit (.hit ?_)
      exact ⟨_, ⟨_, _, rfl, h⟩, (Imp.trans (Imp.swap (.row 9033 0) (.row 9023 0) rfl rfl rfl) (imp_of (.cons rfl (.nil)) (.cons rfl (.nil))))⟩
  · rintro T ⟨v21, v22, rfl, h⟩
    subst hj24
    refine .seq ?_
    refine .region ?_
    refine .move ?_
    refine .assign ?_
    refine .nil ?_
    cases h
    exact .ret (fin_gen (some (.row 9023 0)) (.par .nil))
theorem g99r {n : Nat} {a0 : Dice} {a1 : Int} {a2 : Int} {r : ((List Box) × Dice)} (h : f99 n a0 a1 a2 = some r) :
    Ab.Can Try.prog 99 [.ptr (.par 0) 0, .int .i64 a1, .int .i64 a2] (lookH [(.par 0, [.sl 5 .ro (a0.l.map (PV.int .u8))])]) (.sl 94 .ro (r.1.map pv94)) (lookH [(.par 0, [.sl 5 .ro (r.2.l.map (PV.int .u8))])]) := Can.frzR (hq := [(.par 0, [.sl 5 .ro (r.2.l.map (PV.int .u8))])]) (g99 h)

/- soundservice/soundservicemade.Descriptor -/
def f68 (n : Nat) (a0 : Dice) (a1 : Int) : Option (Descriptor × Dice) :=
  (f72 n (⟨a0.l⟩ : Dice) (256 : Int)).bind fun y1 =>
  (f72 n (⟨y1.2.l⟩ : Dice) (3 : Int)).bind fun y2 =>
  (lAt ([(⟨#[100, 97, 99]⟩ : ByteArray), (⟨#[104, 100, 109, 105, 45, 49]⟩ : ByteArray), (⟨#[77, 105, 99, 46, 50]⟩ : ByteArray)] : List ByteArray) y2.1).bind fun x3 =>
  (f72 n (⟨y2.2.l⟩ : Dice) (4 : Int)).bind fun y4 =>
  (f72 n (⟨y4.2.l⟩ : Dice) (200 : Int)).bind fun y5 =>
  (f72 n (⟨y5.2.l⟩ : Dice) (4 : Int)).bind fun y6 =>
  (lAt ([0, 66, 200, 7] : List Int) y6.1).bind fun x7 =>
  (f72 n (⟨y6.2.l⟩ : Dice) (4 : Int)).bind fun y8 =>
  (f99 n (⟨y8.2.l⟩ : Dice) (1 : Int) (2 : Int)).bind fun y9 =>
  some ((⟨IntKind.wrap .u64 (y1.1), x3, a1, y4.1, y5.1, x7, y8.1, y9.1⟩ : Descriptor), (⟨y9.2.l⟩ : Dice))
set_option maxHeartbeats 4000000 in
set_option maxRecDepth 100000 in
theorem g68 {n : Nat} {a0 : Dice} {a1 : Int} {r : (Descriptor × Dice)} (h : f68 n a0 a1 = some r) :
    Ab.Can Try.prog 68 [.ptr (.par 0) 0, .int .i64 a1] (lookH [(.par 0, [.sl 5 .ro (a0.l.map (PV.int .u8))])]) (.agg [.int .u64 r.1.ID, .str r.1.Name, .int .i64 r.1.Direction, .int .i64 r.1.Domain, .int .i64 r.1.Latency, .int .i64 r.1.Drift, .int .i64 r.1.Jitter, .sl 94 (.own (.rrow 0)) (r.1.Boxes.map pv94)]) (lookH [(.par 0, [.sl 5 .ro (r.2.l.map (PV.int .u8))])]) := by
  refine can_of tabOK mix Try.call68 Try.func68 rfl (by kernel_rfl) (by show _ ≤ 28; simp) fun _ => ?_
  rw [f68] at h
  refine .seq ?_
  refine .region ?_
  refine .allocL (cs := [.int .u64 0, .str (⟨#[]⟩ : ByteArray), .int .i64 0, .int .i64 0, .int .i64 0, .int .i64 0, .int .i64 0, .sl 94 .full []]) ?_
  refine .nil ?_
  refine .seq ?_
  obtain ⟨y1, hy1, h⟩ := bindE h
  obtain ⟨y2, hy2, h⟩ := bindE h
  obtain ⟨x3, hx3, h⟩ := bindE h
  obtain ⟨y4, hy4, h⟩ := bindE h
  obtain ⟨y5, hy5, h⟩ := bindE h
  obtain ⟨y6, hy6, h⟩ := bindE h
  obtain ⟨x7, hx7, h⟩ := bindE h
  obtain ⟨y8, hy8, h⟩ := bindE h
  obtain ⟨y9, hy9, h⟩ := bindE h
  refine .draw [1, 5, 10, 12, 15, 19, 21, 23] [[], [], [1], [], [], [1], [1, 5], [1, 5], [], [], [1, 5], [], [1, 5, 10], [], [], [1, 5, 10, 12], [1, 5, 10, 12, 15], [1, 5, 10, 12, 15], [], [1, 5, 10, 12, 15], [], [1, 5, 10, 12, 15, 19], [1, 5, 10, 12, 15, 19, 21], [1, 5, 10, 12, 15, 19, 21]] [[1, 5, 10, 12, 15, 19, 21, 23], [5, 10, 12, 15, 19, 21, 23], [23], [23], [5, 10, 12, 15, 19, 21, 23], [10, 12, 15, 19, 21, 23], [23], [23], [23], [10, 12, 15, 19, 21, 23], [12, 15, 19, 21, 23], [12, 15, 19, 21, 23], [15, 19, 21, 23], [23], [15, 19, 21, 23], [19, 21, 23], [23], [23], [19, 21, 23], [21, 23], [21, 23], [23], [23], []] [[], [1], [1, 5], [1, 5, 10], [1, 5, 10, 12], [1, 5, 10, 12, 15], [1, 5, 10, 12, 15, 19], [1, 5, 10, 12, 15, 19, 21], [1, 5, 10, 12, 15, 19, 21, 23]]
    [(0, 0), (2, 1), (2, 2), (2, 3), (2, 4), (2, 5), (2, 6), (2, 7), (3, 0), (3, 1), (3, 2), (3, 3), (3, 4), (3, 5), (3, 6), (3, 7), (4, 0), (4, 1), (6, 2), (6, 3), (6, 4), (6, 5), (6, 6), (6, 7), (7, 2), (7, 3), (7, 4), (7, 5), (7, 6), (7, 7), (8, 0), (8, 1), (8, 2), (8, 3), (8, 4), (8, 5), (8, 6), (8, 7), (9, 0), (9, 1), (9, 2), (11, 0), (11, 1), (11, 2), (11, 3), (13, 0), (13, 1), (13, 2), (13, 3), (13, 4), (13, 5), (13, 6), (13, 7), (14, 0), (14, 1), (14, 2), (14, 3), (14, 4), (16, 5), (16, 6), (16, 7), (17, 5), (17, 6), (17, 7), (18, 0), (18, 1), (18, 2), (18, 3), (18, 4), (18, 5), (20, 0), (20, 1), (20, 2), (20, 3), (20, 4), (20, 5), (20, 6), (22, 7)] [(0, 1, 1), (1, 5, 2), (2, 10, 3), (3, 12, 4), (4, 15, 5), (5, 19, 6), (6, 21, 7), (7, 23, 8)] 8
    [⟨[(5, .ptr (.par 0) 0), (8, .sl 9 .ro (([(⟨#[100, 97, 99]⟩ : ByteArray), (⟨#[104, 100, 109, 105, 45, 49]⟩ : ByteArray), (⟨#[77, 105, 99, 46, 50]⟩ : ByteArray)] : List ByteArray).map PV.str)), (9, .ptr (.par 0) 0), (13, .int .i64 a1), (14, .ptr (.par 0) 0), (16, .ptr (.par 0) 0), (18, .sl 3 .ro (([0, 66, 200, 7] : List Int).map (PV.int .i64))), (19, .ptr (.par 0) 0), (23, .ptr (.par 0) 0), (25, .ptr (.par 0) 0), (0, .ptr (.par 0) 0), (1, .int .i64 a1), (4, .ptr (.loc 0 0) 0)], [], [((.loc 0 0), [.int .u64 0, .str (⟨#[]⟩ : ByteArray), .int .i64 0, .int .i64 0, .int .i64 0, .int .i64 0, .int .i64 0, .sl 94 .full []]), ((.par 0), [.sl 5 .ro (a0.l.map (PV.int .u8))])]⟩,
    ⟨[(5, .ptr (.par 0) 0), (6, .int .i64 y1.1), (7, .int .u64 (IntKind.wrap .u64 (y1.1))), (8, .sl 9 .ro (([(⟨#[100, 97, 99]⟩ : ByteArray), (⟨#[104, 100, 109, 105, 45, 49]⟩ : ByteArray), (⟨#[77, 105, 99, 46, 50]⟩ : ByteArray)] : List ByteArray).map PV.str)), (9, .ptr (.par 0) 0), (13, .int .i64 a1), (14, .ptr (.par 0) 0), (16, .ptr (.par 0) 0), (18, .sl 3 .ro (([0, 66, 200, 7] : List Int).map (PV.int .i64))), (19, .ptr (.par 0) 0), (23, .ptr (.par 0) 0), (25, .ptr (.par 0) 0), (0, .ptr (.par 0) 0), (1, .int .i64 a1), (4, .ptr (.loc 0 0) 0)], [], [((.loc 0 0), [.int .u64 0, .str (⟨#[]⟩ : ByteArray), .int .i64 0, .int .i64 0, .int .i64 0, .int .i64 0, .int .i64 0, .sl 94 .full []]), ((.par 0), [.sl 5 .ro (y1.2.l.map (PV.int .u8))])]⟩,
    ⟨[(5, .ptr (.par 0) 0), (6, .int .i64 y1.1), (7, .int .u64 (IntKind.wrap .u64 (y1.1))), (8, .sl 9 .ro (([(⟨#[100, 97, 99]⟩ : ByteArray), (⟨#[104, 100, 109, 105, 45, 49]⟩ : ByteArray), (⟨#[77, 105, 99, 46, 50]⟩ : ByteArray)] : List ByteArray).map PV.str)), (9, .ptr (.par 0) 0), (10, .int .i64 y2.1), (11, .ep 9 .ro (([(⟨#[100, 97, 99]⟩ : ByteArray), (⟨#[104, 100, 109, 105, 45, 49]⟩ : ByteArray), (⟨#[77, 105, 99, 46, 50]⟩ : ByteArray)] : List ByteArray).map PV.str) (y2.1 : Int).toNat 0), (12, .str x3), (13, .int .i64 a1), (14, .ptr (.par 0) 0), (16, .ptr (.par 0) 0), (18, .sl 3 .ro (([0, 66, 200, 7] : List Int).map (PV.int .i64))), (19, .ptr (.par 0) 0), (23, .ptr (.par 0) 0), (25, .ptr (.par 0) 0), (0, .ptr (.par 0) 0), (1, .int .i64 a1), (4, .ptr (.loc 0 0) 0)], [], [((.loc 0 0), [.int .u64 0, .str (⟨#[]⟩ : ByteArray), .int .i64 0, .int .i64 0, .int .i64 0, .int .i64 0, .int .i64 0, .sl 94 .full []]), ((.par 0), [.sl 5 .ro (y2.2.l.map (PV.int .u8))])]⟩,
    ⟨[(5, .ptr (.par 0) 0), (6, .int .i64 y1.1), (7, .int .u64 (IntKind.wrap .u64 (y1.1))), (8, .sl 9 .ro (([(⟨#[100, 97, 99]⟩ : ByteArray), (⟨#[104, 100, 109, 105, 45, 49]⟩ : ByteArray), (⟨#[77, 105, 99, 46, 50]⟩ : ByteArray)] : List ByteArray).map PV.str)), (9, .ptr (.par 0) 0), (10, .int .i64 y2.1), (11, .ep 9 .ro (([(⟨#[100, 97, 99]⟩ : ByteArray), (⟨#[104, 100, 109, 105, 45, 49]⟩ : ByteArray), (⟨#[77, 105, 99, 46, 50]⟩ : ByteArray)] : List ByteArray).map PV.str) (y2.1 : Int).toNat 0), (12, .str x3), (13, .int .i64 a1), (14, .ptr (.par 0) 0), (15, .int .i64 y4.1), (16, .ptr (.par 0) 0), (18, .sl 3 .ro (([0, 66, 200, 7] : List Int).map (PV.int .i64))), (19, .ptr (.par 0) 0), (23, .ptr (.par 0) 0), (25, .ptr (.par 0) 0), (0, .ptr (.par 0) 0), (1, .int .i64 a1), (4, .ptr (.loc 0 0) 0)], [], [((.loc 0 0), [.int .u64 0, .str (⟨#[]⟩ : ByteArray), .int .i64 0, .int .i64 0, .int .i64 0, .int .i64 0, .int .i64 0, .sl 94 .full []]), ((.par 0), [.sl 5 .ro (y4.2.l.map (PV.int .u8))])]⟩,
    ⟨[(5, .ptr (.par 0) 0), (6, .int .i64 y1.1), (7, .int .u64 (IntKind.wrap .u64 (y1.1))), (8, .sl 9 .ro (([(⟨#[100, 97, 99]⟩ : ByteArray), (⟨#[104, 100, 109, 105, 45, 49]⟩ : ByteArray), (⟨#[77, 105, 99, 46, 50]⟩ : ByteArray)] : List ByteArray).map PV.str)), (9, .ptr (.par 0) 0), (10, .int .i64 y2.1), (11, .ep 9 .ro (([(⟨#[100, 97, 99]⟩ : ByteArray), (⟨#[104, 100, 109, 105, 45, 49]⟩ : ByteArray), (⟨#[77, 105, 99, 46, 50]⟩ : ByteArray)] : List ByteArray).map PV.str) (y2.1 : Int).toNat 0), (12, .str x3), (13, .int .i64 a1), (14, .ptr (.par 0) 0), (15, .int .i64 y4.1), (16, .ptr (.par 0) 0), (17, .int .i64 y5.1), (18, .sl 3 .ro (([0, 66, 200, 7] : List Int).map (PV.int .i64))), (19, .ptr (.par 0) 0), (23, .ptr (.par 0) 0), (25, .ptr (.par 0) 0), (0, .ptr (.par 0) 0), (1, .int .i64 a1), (4, .ptr (.loc 0 0) 0)], [], [((.loc 0 0), [.int .u64 0, .str (⟨#[]⟩ : ByteArray), .int .i64 0, .int .i64 0, .int .i64 0, .int .i64 0, .int .i64 0, .sl 94 .full []]), ((.par 0), [.sl 5 .ro (y5.2.l.map (PV.int .u8))])]⟩,
    ⟨[(5, .ptr (.par 0) 0), (6, .int .i64 y1.1), (7, .int .u64 (IntKind.wrap .u64 (y1.1))), (8, .sl 9 .ro (([(⟨#[100, 97, 99]⟩ : ByteArray), (⟨#[104, 100, 109, 105, 45, 49]⟩ : ByteArray), (⟨#[77, 105, 99, 46, 50]⟩ : ByteArray)] : List ByteArray).map PV.str)), (9, .ptr (.par 0) 0), (10, .int .i64 y2.1), (11, .ep 9 .ro (([(⟨#[100, 97, 99]⟩ : ByteArray), (⟨#[104, 100, 109, 105, 45, 49]⟩ : ByteArray), (⟨#[77, 105, 99, 46, 50]⟩ : ByteArray)] : List ByteArray).map PV.str) (y2.1 : Int).toNat 0), (12, .str x3), (13, .int .i64 a1), (14, .ptr (.par 0) 0), (15, .int .i64 y4.1), (16, .ptr (.par 0) 0), (17, .int .i64 y5.1), (18, .sl 3 .ro (([0, 66, 200, 7] : List Int).map (PV.int .i64))), (19, .ptr (.par 0) 0), (20, .int .i64 y6.1), (21, .ep 3 .ro (([0, 66, 200, 7] : List Int).map (PV.int .i64)) (y6.1 : Int).toNat 0), (22, .int .i64 x7), (23, .ptr (.par 0) 0), (25, .ptr (.par 0) 0), (0, .ptr (.par 0) 0), (1, .int .i64 a1), (4, .ptr (.loc 0 0) 0)], [], [((.loc 0 0), [.int .u64 0, .str (⟨#[]⟩ : ByteArray), .int .i64 0, .int .i64 0, .int .i64 0, .int .i64 0, .int .i64 0, .sl 94 .full []]), ((.par 0), [.sl 5 .ro (y6.2.l.map (PV.int .u8))])]⟩,
    ⟨[(5, .ptr (.par 0) 0), (6, .int .i64 y1.1), (7, .int .u64 (IntKind.wrap .u64 (y1.1))), (8, .sl 9 .ro (([(⟨#[100, 97, 99]⟩ : ByteArray), (⟨#[104, 100, 109, 105, 45, 49]⟩ : ByteArray), (⟨#[77, 105, 99, 46, 50]⟩ : ByteArray)] : List ByteArray).map PV.str)), (9, .ptr (.par 0) 0), (10, .int .i64 y2.1), (11, .ep 9 .ro (([(⟨#[100, 97, 99]⟩ : ByteArray), (⟨#[104, 100, 109, 105, 45, 49]⟩ : ByteArray), (⟨#[77, 105, 99, 46, 50]⟩ : ByteArray)] : List ByteArray).map PV.str) (y2.1 : Int).toNat 0), (12, .str x3), (13, .int .i64 a1), (14, .ptr (.par 0) 0), (15, .int .i64 y4.1), (16, .ptr (.par 0) 0), (17, .int .i64 y5.1), (18, .sl 3 .ro (([0, 66, 200, 7] : List Int).map (PV.int .i64))), (19, .ptr (.par 0) 0), (20, .int .i64 y6.1), (21, .ep 3 .ro (([0, 66, 200, 7] : List Int).map (PV.int .i64)) (y6.1 : Int).toNat 0), (22, .int .i64 x7), (23, .ptr (.par 0) 0), (24, .int .i64 y8.1), (25, .ptr (.par 0) 0), (0, .ptr (.par 0) 0), (1, .int .i64 a1), (4, .ptr (.loc 0 0) 0)], [], [((.loc 0 0), [.int .u64 0, .str (⟨#[]⟩ : ByteArray), .int .i64 0, .int .i64 0, .int .i64 0, .int .i64 0, .int .i64 0, .sl 94 .full []]), ((.par 0), [.sl 5 .ro (y8.2.l.map (PV.int .u8))])]⟩,
    ⟨[(5, .ptr (.par 0) 0), (6, .int .i64 y1.1), (7, .int .u64 (IntKind.wrap .u64 (y1.1))), (8, .sl 9 .ro (([(⟨#[100, 97, 99]⟩ : ByteArray), (⟨#[104, 100, 109, 105, 45, 49]⟩ : ByteArray), (⟨#[77, 105, 99, 46, 50]⟩ : ByteArray)] : List ByteArray).map PV.str)), (9, .ptr (.par 0) 0), (10, .int .i64 y2.1), (11, .ep 9 .ro (([(⟨#[100, 97, 99]⟩ : ByteArray), (⟨#[104, 100, 109, 105, 45, 49]⟩ : ByteArray), (⟨#[77, 105, 99, 46, 50]⟩ : ByteArray)] : List ByteArray).map PV.str) (y2.1 : Int).toNat 0), (12, .str x3), (13, .int .i64 a1), (14, .ptr (.par 0) 0), (15, .int .i64 y4.1), (16, .ptr (.par 0) 0), (17, .int .i64 y5.1), (18, .sl 3 .ro (([0, 66, 200, 7] : List Int).map (PV.int .i64))), (19, .ptr (.par 0) 0), (20, .int .i64 y6.1), (21, .ep 3 .ro (([0, 66, 200, 7] : List Int).map (PV.int .i64)) (y6.1 : Int).toNat 0), (22, .int .i64 x7), (23, .ptr (.par 0) 0), (24, .int .i64 y8.1), (25, .ptr (.par 0) 0), (26, .sl 94 (.own (.row 1 21)) (y9.1.map pv94)), (27, .agg [.int .u64 (IntKind.wrap .u64 (y1.1)), .str x3, .int .i64 a1, .int .i64 y4.1, .int .i64 y5.1, .int .i64 x7, .int .i64 y8.1, .sl 94 (.own (.row 1 21)) (y9.1.map pv94)]), (0, .ptr (.par 0) 0), (1, .int .i64 a1), (4, .ptr (.loc 0 0) 0)], [], [((.loc 0 0), [.int .u64 0, .str (⟨#[]⟩ : ByteArray), .int .i64 0, .int .i64 0, .int .i64 0, .int .i64 0, .int .i64 0, .sl 94 .full []]), ((.par 0), [.sl 5 .ro (y9.2.l.map (PV.int .u8))])]⟩,
    ⟨[(5, .ptr (.par 0) 0), (6, .int .i64 y1.1), (7, .int .u64 (IntKind.wrap .u64 (y1.1))), (8, .sl 9 .ro (([(⟨#[100, 97, 99]⟩ : ByteArray), (⟨#[104, 100, 109, 105, 45, 49]⟩ : ByteArray), (⟨#[77, 105, 99, 46, 50]⟩ : ByteArray)] : List ByteArray).map PV.str)), (9, .ptr (.par 0) 0), (10, .int .i64 y2.1), (11, .ep 9 .ro (([(⟨#[100, 97, 99]⟩ : ByteArray), (⟨#[104, 100, 109, 105, 45, 49]⟩ : ByteArray), (⟨#[77, 105, 99, 46, 50]⟩ : ByteArray)] : List ByteArray).map PV.str) (y2.1 : Int).toNat 0), (12, .str x3), (13, .int .i64 a1), (14, .ptr (.par 0) 0), (15, .int .i64 y4.1), (16, .ptr (.par 0) 0), (17, .int .i64 y5.1), (18, .sl 3 .ro (([0, 66, 200, 7] : List Int).map (PV.int .i64))), (19, .ptr (.par 0) 0), (20, .int .i64 y6.1), (21, .ep 3 .ro (([0, 66, 200, 7] : List Int).map (PV.int .i64)) (y6.1 : Int).toNat 0), (22, .int .i64 x7), (23, .ptr (.par 0) 0), (24, .int .i64 y8.1), (25, .ptr (.par 0) 0), (26, .sl 94 (.own (.row 1 21)) (y9.1.map pv94)), (27, .agg [.int .u64 (IntKind.wrap .u64 (y1.1)), .str x3, .int .i64 a1, .int .i64 y4.1, .int .i64 y5.1, .int .i64 x7, .int .i64 y8.1, .sl 94 (.own (.row 1 21)) (y9.1.map pv94)]), (0, .ptr (.par 0) 0), (1, .int .i64 a1), (4, .ptr (.loc 0 0) 0)], [], [((.loc 0 0), [.int .u64 (IntKind.wrap .u64 (y1.1)), .str x3, .int .i64 a1, .int .i64 y4.1, .int .i64 y5.1, .int .i64 x7, .int .i64 y8.1, .sl 94 (.own (.row 1 21)) (y9.1.map pv94)]), ((.par 0), [.sl 5 .ro (y9.2.l.map (PV.int .u8))])]⟩]
    [(0, .ptr (.par 0) 0), (1, .int .i64 a1), (4, .ptr (.loc 0 0) 0)]
    (.cons [0] [] (fun _ _ h => .move (h _)) rfl rfl <|
    .cons [6] [] (fun _ _ h => .val (h _)) rfl rfl <|
    .cons [6] [] (fun _ _ h => .val (h _)) rfl rfl <|
    .cons [6] [] (fun _ _ h => .val (h _)) rfl rfl <|
    .cons [6] [] (fun _ _ h => .val (h _)) rfl rfl <|
    .cons [6] [] (fun _ _ h => .val (h _)) rfl rfl <|
    .cons [6] [] (fun _ _ h => .val (h _)) rfl rfl <|
    .cons [6] [] (fun _ _ h => .val (h _)) rfl rfl <|
    .cons [] [] (fun _ _ h => .litR (f := PV.str) ([(⟨#[100, 97, 99]⟩ : ByteArray), (⟨#[104, 100, 109, 105, 45, 49]⟩ : ByteArray), (⟨#[77, 105, 99, 46, 50]⟩ : ByteArray)] : List ByteArray) (h _)) rfl rfl <|
    .cons [] [] (fun _ _ h => .litR (f := PV.str) ([(⟨#[100, 97, 99]⟩ : ByteArray), (⟨#[104, 100, 109, 105, 45, 49]⟩ : ByteArray), (⟨#[77, 105, 99, 46, 50]⟩ : ByteArray)] : List ByteArray) (h _)) rfl rfl <|
    .cons [] [] (fun _ _ h => .litR (f := PV.str) ([(⟨#[100, 97, 99]⟩ : ByteArray), (⟨#[104, 100, 109, 105, 45, 49]⟩ : ByteArray), (⟨#[77, 105, 99, 46, 50]⟩ : ByteArray)] : List ByteArray) (h _)) rfl rfl <|
    .cons [] [] (fun _ _ h => .litR (f := PV.str) ([(⟨#[100, 97, 99]⟩ : ByteArray), (⟨#[104, 100, 109, 105, 45, 49]⟩ : ByteArray), (⟨#[77, 105, 99, 46, 50]⟩ : ByteArray)] : List ByteArray) (h _)) rfl rfl <|
    .cons [] [] (fun _ _ h => .litR (f := PV.str) ([(⟨#[100, 97, 99]⟩ : ByteArray), (⟨#[104, 100, 109, 105, 45, 49]⟩ : ByteArray), (⟨#[77, 105, 99, 46, 50]⟩ : ByteArray)] : List ByteArray) (h _)) rfl rfl <|
    .cons [] [] (fun _ _ h => .litR (f := PV.str) ([(⟨#[100, 97, 99]⟩ : ByteArray), (⟨#[104, 100, 109, 105, 45, 49]⟩ : ByteArray), (⟨#[77, 105, 99, 46, 50]⟩ : ByteArray)] : List ByteArray) (h _)) rfl rfl <|
    .cons [] [] (fun _ _ h => .litR (f := PV.str) ([(⟨#[100, 97, 99]⟩ : ByteArray), (⟨#[104, 100, 109, 105, 45, 49]⟩ : ByteArray), (⟨#[77, 105, 99, 46, 50]⟩ : ByteArray)] : List ByteArray) (h _)) rfl rfl <|
    .cons [] [] (fun _ _ h => .litR (f := PV.str) ([(⟨#[100, 97, 99]⟩ : ByteArray), (⟨#[104, 100, 109, 105, 45, 49]⟩ : ByteArray), (⟨#[77, 105, 99, 46, 50]⟩ : ByteArray)] : List ByteArray) (h _)) rfl rfl <|
    .cons [0] [] (fun _ _ h => .move (h _)) rfl rfl <|
    .cons [0] [] (fun _ _ h => .move (h _)) rfl rfl <|
    .cons [8, 10] [] (fun _ _ h => .idxL (f := PV.str) hx3 (h _)) rfl rfl <|
    .cons [8, 10] [] (fun _ _ h => .idxL (f := PV.str) hx3 (h _)) rfl rfl <|
    .cons [8, 10] [] (fun _ _ h => .idxL (f := PV.str) hx3 (h _)) rfl rfl <|
    .cons [8, 10] [] (fun _ _ h => .idxL (f := PV.str) hx3 (h _)) rfl rfl <|
    .cons [8, 10] [] (fun _ _ h => .idxL (f := PV.str) hx3 (h _)) rfl rfl <|
    .cons [8, 10] [] (fun _ _ h => .idxL (f := PV.str) hx3 (h _)) rfl rfl <|
    .cons [11] [] (fun _ _ h => .ldL hx3 (h _)) rfl rfl <|
    .cons [11] [] (fun _ _ h => .ldL hx3 (h _)) rfl rfl <|
    .cons [11] [] (fun _ _ h => .ldL hx3 (h _)) rfl rfl <|
    .cons [11] [] (fun _ _ h => .ldL hx3 (h _)) rfl rfl <|
    .cons [11] [] (fun _ _ h => .ldL hx3 (h _)) rfl rfl <|
    .cons [11] [] (fun _ _ h => .ldL hx3 (h _)) rfl rfl <|
    .cons [1] [] (fun _ _ h => .move (h _)) rfl rfl <|
    .cons [1] [] (fun _ _ h => .move (h _)) rfl rfl <|
    .cons [1] [] (fun _ _ h => .move (h _)) rfl rfl <|
    .cons [1] [] (fun _ _ h => .move (h _)) rfl rfl <|
    .cons [1] [] (fun _ _ h => .move (h _)) rfl rfl <|
    .cons [1] [] (fun _ _ h => .move (h _)) rfl rfl <|
    .cons [1] [] (fun _ _ h => .move (h _)) rfl rfl <|
    .cons [1] [] (fun _ _ h => .move (h _)) rfl rfl <|
    .cons [0] [] (fun _ _ h => .move (h _)) rfl rfl <|
    .cons [0] [] (fun _ _ h => .move (h _)) rfl rfl <|
    .cons [0] [] (fun _ _ h => .move (h _)) rfl rfl <|
    .cons [0] [] (fun _ _ h => .move (h _)) rfl rfl <|
    .cons [0] [] (fun _ _ h => .move (h _)) rfl rfl <|
    .cons [0] [] (fun _ _ h => .move (h _)) rfl rfl <|
    .cons [0] [] (fun _ _ h => .move (h _)) rfl rfl <|
    .cons [] [] (fun _ _ h => .litR (f := (PV.int .i64)) ([0, 66, 200, 7] : List Int) (h _)) rfl rfl <|
    .cons [] [] (fun _ _ h => .litR (f := (PV.int .i64)) ([0, 66, 200, 7] : List Int) (h _)) rfl rfl <|
    .cons [] [] (fun _ _ h => .litR (f := (PV.int .i64)) ([0, 66, 200, 7] : List Int) (h _)) rfl rfl <|
    .cons [] [] (fun _ _ h => .litR (f := (PV.int .i64)) ([0, 66, 200, 7] : List Int) (h _)) rfl rfl <|
    .cons [] [] (fun _ _ h => .litR (f := (PV.int .i64)) ([0, 66, 200, 7] : List Int) (h _)) rfl rfl <|
    .cons [] [] (fun _ _ h => .litR (f := (PV.int .i64)) ([0, 66, 200, 7] : List Int) (h _)) rfl rfl <|
    .cons [] [] (fun _ _ h => .litR (f := (PV.int .i64)) ([0, 66, 200, 7] : List Int) (h _)) rfl rfl <|
    .cons [] [] (fun _ _ h => .litR (f := (PV.int .i64)) ([0, 66, 200, 7] : List Int) (h _)) rfl rfl <|
    .cons [0] [] (fun _ _ h => .move (h _)) rfl rfl <|
    .cons [0] [] (fun _ _ h => .move (h _)) rfl rfl <|
    .cons [0] [] (fun _ _ h => .move (h _)) rfl rfl <|
    .cons [0] [] (fun _ _ h => .move (h _)) rfl rfl <|
    .cons [0] [] (fun _ _ h => .move (h _)) rfl rfl <|
    .cons [18, 20] [] (fun _ _ h => .idxL (f := (PV.int .i64)) hx7 (h _)) rfl rfl <|
    .cons [18, 20] [] (fun _ _ h => .idxL (f := (PV.int .i64)) hx7 (h _)) rfl rfl <|
    .cons [18, 20] [] (fun _ _ h => .idxL (f := (PV.int .i64)) hx7 (h _)) rfl rfl <|
    .cons [21] [] (fun _ _ h => .ldL hx7 (h _)) rfl rfl <|
    .cons [21] [] (fun _ _ h => .ldL hx7 (h _)) rfl rfl <|
    .cons [21] [] (fun _ _ h => .ldL hx7 (h _)) rfl rfl <|
    .cons [0] [] (fun _ _ h => .move (h _)) rfl rfl <|
    .cons [0] [] (fun _ _ h => .move (h _)) rfl rfl <|
    .cons [0] [] (fun _ _ h => .move (h _)) rfl rfl <|
    .cons [0] [] (fun _ _ h => .move (h _)) rfl rfl <|
    .cons [0] [] (fun _ _ h => .move (h _)) rfl rfl <|
    .cons [0] [] (fun _ _ h => .move (h _)) rfl rfl <|
    .cons [0] [] (fun _ _ h => .move (h _)) rfl rfl <|
    .cons [0] [] (fun _ _ h => .move (h _)) rfl rfl <|
    .cons [0] [] (fun _ _ h => .move (h _)) rfl rfl <|
    .cons [0] [] (fun _ _ h => .move (h _)) rfl rfl <|
    .cons [0] [] (fun _ _ h => .move (h _)) rfl rfl <|
    .cons [0] [] (fun _ _ h => .move (h _)) rfl rfl <|
    .cons [0] [] (fun _ _ h => .move (h _)) rfl rfl <|
    .cons [7, 12, 13, 15, 17, 22, 24, 26] [] (fun _ _ h => .buildL (cs := [.int .u64 (IntKind.wrap .u64 (y1.1)), .str x3, .int .i64 a1, .int .i64 y4.1, .int .i64 y5.1, .int .i64 x7, .int .i64 y8.1, .sl 94 (.own (.row 1 21)) (y9.1.map pv94)]) (h _) (hf := by kernel_rfl)) rfl rfl <|
    .nil)
    (.cons (fun x => x) [5] [] (fun _ _ h => .cH (.par 0) (g72 hy1) (h _ _ (.cons rfl (.cons rfl (.nil))))) rfl (.old rfl (.new rfl (.new rfl (.old rfl (.old rfl (.old rfl (.old rfl (.old rfl (.old rfl (.old rfl (.old rfl (.old rfl (.old rfl (.old rfl (.old rfl (.nil)))))))))))))))) rfl rfl <|
    .cons (fun x => x) [9] [] (fun _ _ h => .cH (.par 0) (g72 hy2) (h _ _ (.cons rfl (.cons rfl (.nil))))) rfl (.old rfl (.old rfl (.old rfl (.old rfl (.old rfl (.new rfl (.new rfl (.new rfl (.old rfl (.old rfl (.old rfl (.old rfl (.old rfl (.old rfl (.old rfl (.old rfl (.old rfl (.old rfl (.nil))))))))))))))))))) rfl rfl <|
    .cons (fun x => x) [14] [] (fun _ _ h => .cH (.par 0) (g72 hy4) (h _ _ (.cons rfl (.cons rfl (.nil))))) rfl (.old rfl (.old rfl (.old rfl (.old rfl (.old rfl (.old rfl (.old rfl (.old rfl (.old rfl (.old rfl (.new rfl (.old rfl (.old rfl (.old rfl (.old rfl (.old rfl (.old rfl (.old rfl (.old rfl (.nil)))))))))))))))))))) rfl rfl <|
    .cons (fun x => x) [16] [] (fun _ _ h => .cH (.par 0) (g72 hy5) (h _ _ (.cons rfl (.cons rfl (.nil))))) rfl (.old rfl (.old rfl (.old rfl (.old rfl (.old rfl (.old rfl (.old rfl (.old rfl (.old rfl (.old rfl (.old rfl (.old rfl (.new rfl (.old rfl (.old rfl (.old rfl (.old rfl (.old rfl (.old rfl (.old rfl (.nil))))))))))))))))))))) rfl rfl <|
    .cons (fun x => x) [19] [] (fun _ _ h => .cH (.par 0) (g72 hy6) (h _ _ (.cons rfl (.cons rfl (.nil))))) rfl (.old rfl (.old rfl (.old rfl (.old rfl (.old rfl (.old rfl (.old rfl (.old rfl (.old rfl (.old rfl (.old rfl (.old rfl (.old rfl (.old rfl (.old rfl (.new rfl (.new rfl (.new rfl (.old rfl (.old rfl (.old rfl (.old rfl (.old rfl (.nil)))))))))))))))))))))))) rfl rfl <|
    .cons (fun x => x) [23] [] (fun _ _ h => .cH (.par 0) (g72 hy8) (h _ _ (.cons rfl (.cons rfl (.nil))))) rfl (.old rfl (.old rfl (.old rfl (.old rfl (.old rfl (.old rfl (.old rfl (.old rfl (.old rfl (.old rfl (.old rfl (.old rfl (.old rfl (.old rfl (.old rfl (.old rfl (.old rfl (.old rfl (.old rfl (.new rfl (.old rfl (.old rfl (.old rfl (.old rfl (.nil))))))))))))))))))))))))) rfl rfl <|
    .cons (PV.sub (frzKill [] (.row 1 21))) [25] [] (fun _ _ h => .cHO (.par 0) (.row 1 21) (g99 hy9) (u := .sl 94 (.own (.row 1 21)) (y9.1.map pv94)) (h _ _ (.cons rfl (.cons rfl (.nil))))) rfl (.old rfl (.old rfl (.old rfl (.old rfl (.old rfl (.old rfl (.old rfl (.old rfl (.old rfl (.old rfl (.old rfl (.old rfl (.old rfl (.old rfl (.old rfl (.old rfl (.old rfl (.old rfl (.old rfl (.old rfl (.old rfl (.new rfl (.new rfl (.old rfl (.old rfl (.old rfl (.nil))))))))))))))))))))))))))) rfl rfl <|
    .cons (fun x => x) [4, 27] [] (fun _ _ h => .wrL (cs := [.int .u64 (IntKind.wrap .u64 (y1.1)), .str x3, .int .i64 a1, .int .i64 y4.1, .int .i64 y5.1, .int .i64 x7, .int .i64 y8.1, .sl 94 (.own (.row 1 21)) (y9.1.map pv94)]) (h _ _ (.cons rfl (.cons rfl (.nil))))) rfl (.old rfl (.old rfl (.old rfl (.old rfl (.old rfl (.old rfl (.old rfl (.old rfl (.old rfl (.old rfl (.old rfl (.old rfl (.old rfl (.old rfl (.old rfl (.old rfl (.old rfl (.old rfl (.old rfl (.old rfl (.old rfl (.old rfl (.old rfl (.old rfl (.old rfl (.old rfl (.nil))))))))))))))))))))))))))) rfl rfl <|
    .nil)
    (by kernel_rfl) rfl (.cons rfl (.cons rfl (.cons rfl (.nil)))) (.nil) (.cons rfl (.cons rfl (.nil))) ?_
  cases h
  exact .ret (fin_gen (some (.row 1 21)) (.par .nil))
theorem g68r {n : Nat} {a0 : Dice} {a1 : Int} {r : (Descriptor × Dice)} (h : f68 n a0 a1 = some r) :
    Ab.Can Try.prog 68 [.ptr (.par 0) 0, .int .i64 a1] (lookH [(.par 0, [.sl 5 .ro (a0.l.map (PV.int .u8))])]) (.agg [.int .u64 r.1.ID, .str r.1.Name, .int .i64 r.1.Direction, .int .i64 r.1.Domain, .int .i64 r.1.Latency, .int .i64 r.1.Drift, .int .i64 r.1.Jitter, .sl 94 .ro (r.1.Boxes.map pv94)]) (lookH [(.par 0, [.sl 5 .ro (r.2.l.map (PV.int .u8))])]) := Can.frzR (hq := [(.par 0, [.sl 5 .ro (r.2.l.map (PV.int .u8))])]) (g68 h)

/- soundservice/soundservicelaw11.made -/
def f40 (n : Nat) (a0 : (List Int)) : Option Descriptor :=
  (f69 n a0).bind fun y1 =>
  (f72 n (⟨y1.l⟩ : Dice) (2 : Int)).bind fun y2 =>
  (f68 n (⟨y2.2.l⟩ : Dice) (w64 ((1 : Int) + y2.1))).bind fun y3 =>
  some (⟨y3.1.ID, y3.1.Name, y3.1.Direction, y3.1.Domain, y3.1.Latency, y3.1.Drift, y3.1.Jitter, y3.1.Boxes⟩ : Descriptor)
set_option maxHeartbeats 4000000 in
set_option maxRecDepth 100000 in
theorem g40 {n : Nat} {a0 : (List Int)} {r : Descriptor} (h : f40 n a0 = some r) :
    Ab.Can Try.prog 40 [.sl 5 .ro (a0.map (PV.int .u8))] H0 (.agg [.int .u64 r.ID, .str r.Name, .int .i64 r.Direction, .int .i64 r.Domain, .int .i64 r.Latency, .int .i64 r.Drift, .int .i64 r.Jitter, .sl 94 (.own (.rrow 0)) (r.Boxes.map pv94)]) H0 := by
  refine can_of tabOK mix Try.call40 Try.func40 rfl (by kernel_rfl) (by show _ ≤ 11; simp) fun _ => ?_
  rw [f40] at h
  refine .seq ?_
  refine .region ?_
  refine .allocL (cs := [.int .u64 0, .str (⟨#[]⟩ : ByteArray), .int .i64 0, .int .i64 0, .int .i64 0, .int .i64 0, .int .i64 0, .sl 94 .full []]) ?_
  refine .nil ?_
  refine .seq ?_
  refine .region ?_
  refine .move ?_
  obtain ⟨y1, hy1, h⟩ := bindE h
  refine .cB (.loc 1 1) (g69 hy1) ?_
  refine .assign ?_
  refine .nil ?_
  refine .seq ?_
  refine .region ?_
  refine .move ?_
  refine .move ?_
  obtain ⟨y2, hy2, h⟩ := bindE h
  refine .cH (.loc 1 1) (g72 hy2) ?_
  refine .val ?_
  obtain ⟨y3, hy3, h⟩ := bindE h
  refine .cHO (.loc 1 1) (.row 2 4) (g68 hy3) (u := .agg [.int .u64 y3.1.ID, .str y3.1.Name, .int .i64 y3.1.Direction, .int .i64 y3.1.Domain, .int .i64 y3.1.Latency, .int .i64 y3.1.Drift, .int .i64 y3.1.Jitter, .sl 94 (.own (.row 2 4)) (y3.1.Boxes.map pv94)]) ?_
  refine .wrL (cs := [.int .u64 y3.1.ID, .str y3.1.Name, .int .i64 y3.1.Direction, .int .i64 y3.1.Domain, .int .i64 y3.1.Latency, .int .i64 y3.1.Drift, .int .i64 y3.1.Jitter, .sl 94 (.own (.row 2 4)) (y3.1.Boxes.map pv94)]) ?_
  refine .nil ?_
  cases h
  exact .ret (fin_gen0 (some (.row 2 4)))
theorem g40r {n : Nat} {a0 : (List Int)} {r : Descriptor} (h : f40 n a0 = some r) :
    Ab.Can Try.prog 40 [.sl 5 .ro (a0.map (PV.int .u8))] H0 (.agg [.int .u64 r.ID, .str r.Name, .int .i64 r.Direction, .int .i64 r.Domain, .int .i64 r.Latency, .int .i64 r.Drift, .int .i64 r.Jitter, .sl 94 .ro (r.Boxes.map pv94)]) H0 := Can.frzR (hq := []) (g40 h)
end Go.Proofs.Ytcahjpkmldmjdaa
