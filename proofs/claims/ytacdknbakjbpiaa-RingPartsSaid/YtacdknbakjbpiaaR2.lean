/-
  Plain laws of the ring: rings that are made; the sanity check; what is written and read stays valid.
-/
import Derived.Test.YtacdknbakjbpiaaR1
namespace Go.Proofs.Ytacdknbakjbpiaa
open Go Ab

/-! ### dice -/

theorem f26_is {n : Nat} (d : Dice) (hd : AreBytes d.l) (hl : d.l.length ≤ 1000) (k : Int) (hk : 1 ≤ k ∧ k ≤ 1000) : ∃ (v : Int) (d' : Dice), f26 n d k = some (v, d') ∧ 0 ≤ v ∧ v < k ∧ AreBytes d'.l ∧ d'.l.length ≤ 1000 := by
  rw [f26, joinK, joinK]
  by_cases h1 : (d.l.length : Int) = 0
  · rw [if_pos (by simpa using h1)]
    exact ⟨0, d, rfl, by omega, by omega, hd, hl⟩
  rw [if_neg (by simpa using h1)]
  by_cases h2 : k ≤ 1
  · rw [if_pos (by simpa using h2)]
    exact ⟨0, d, rfl, by omega, by omega, hd, hl⟩
  rw [if_neg (by simpa using h2), lAt_eq (by omega), Option.bind_some, lPart_eq (by omega), Option.bind_some, iRem_eq (by omega), Option.bind_some]
  have hb := hd _ (List.getElem_mem (show (0 : Int).toNat < d.l.length by omega))
  rw [w64_id (by omega), Int.tmod_eq_emod_of_nonneg hb.1]
  exact ⟨_, _, rfl, Int.emod_nonneg _ (by omega), Int.emod_lt_of_pos _ (by omega), drop_bytes (take_bytes hd _) _, by simp; omega⟩

theorem f20_is {n : Nat} (l : List Int) (hl : AreBytes l) (hll : l.length ≤ 9223372036854775807) : ∃ d : Dice, f20 n l = some d ∧ AreBytes d.l ∧ d.l.length ≤ 1000 := by
  rw [f20, iMin_eq, lPart_eq (by omega), Option.bind_some]
  exact ⟨_, rfl, drop_bytes (take_bytes hl _) _, by simp; omega⟩

/-! ### waves -/

def AreSmp (l : List Int) : Prop := ∀ x ∈ l, -8388608 ≤ x ∧ x ≤ 8388607

theorem tmod_rng (a : Int) : -4001 < Int.tmod a 4001 ∧ Int.tmod a 4001 < 4001 := by
  have h1 := Int.tmod_lt_of_pos a (show (0 : Int) < 4001 by omega)
  have h2 := Int.tmod_lt_of_pos (-a) (show (0 : Int) < 4001 by omega)
  rw [Int.neg_tmod] at h2
  omega

theorem f21_l2_is {n : Nat} (s c v : Int) : ∀ (d m i : Nat) (acc : List Int), (i : Int) + d = c → d < m → c ≤ 8 → AreSmp acc → acc.length + d ≤ 100000 →
    ∃ acc' : List Int, AreSmp acc' ∧ acc'.length = acc.length + d ∧ ∀ j, f21_l2 n s c v j m acc (i : Int) = j acc' := by
  intro d
  induction d with
  | zero =>
    intro m i acc h1 h2 h3 h4 h5
    obtain ⟨m, rfl⟩ : ∃ q, m = q + 1 := ⟨m - 1, by omega⟩
    exact ⟨acc, h4, rfl, fun j => by rw [f21_l2, if_neg (by simp; omega)]⟩
  | succ d ih =>
    intro m i acc h1 h2 h3 h4 h5
    obtain ⟨m, rfl⟩ : ∃ q, m = q + 1 := ⟨m - 1, by omega⟩
    generalize hx : IntKind.wrap .i32 (w64 ((w64 ((Int.tmod (w64 ((w64 ((w64 (v * (7919 : Int))) + (w64 ((i : Int) * (104729 : Int))))) + (w64 (s * (15485863 : Int))))) (4001 : Int)) - (2000 : Int))) * (1000 : Int))) = x
    have hxr : -8388608 ≤ x ∧ x ≤ 8388607 := by
      subst hx
      have := tmod_rng (w64 ((w64 ((w64 (v * (7919 : Int))) + (w64 ((i : Int) * (104729 : Int))))) + (w64 (s * (15485863 : Int)))))
      rw [w64_id (x := Int.tmod _ _ - 2000) (by omega), w64_id (by omega), IntKind.wrap_i32, Int.emod_eq_of_lt (by omega) (by omega)]
      omega
    obtain ⟨acc', k1, k2, k3⟩ := ih m (i + 1) (acc ++ [x]) (by omega) (by omega) h3 (fun y hy => by
      rcases List.mem_append.1 hy with hy | hy
      · exact h4 y hy
      · rw [List.mem_singleton.1 hy]; exact hxr) (by simp; omega)
    refine ⟨acc', k1, by rw [k2]; simp; omega, fun j => ?_⟩
    rw [f21_l2, if_pos (by simp; omega), hx, lApp_eq (by simp; omega), Option.bind_some, w64_id (by omega), show (i : Int) + 1 = ((i + 1 : Nat) : Int) by omega, k3]

theorem f21_l1_is {n : Nat} (hn : 1000 ≤ n) (s c : Int) (hc : 1 ≤ c ∧ c ≤ 8) (fr cn : Int) (h1 : fr + cn ≤ 1000) : ∀ (d m : Nat) (v : Int) (acc : List Int), v + d = fr + cn → d < m → 0 ≤ v → AreSmp acc → acc.length + 8 * d ≤ 10000 →
    ∃ acc' : List Int, AreSmp acc' ∧ (acc'.length : Int) = acc.length + c * d ∧ ∀ j, f21_l1 n s c fr cn j m acc v = j acc' := by
  intro d
  induction d with
  | zero =>
    intro m v acc h2 h3 h4 h5 h6
    obtain ⟨m, rfl⟩ : ∃ q, m = q + 1 := ⟨m - 1, by omega⟩
    exact ⟨acc, h5, by simp, fun j => by rw [f21_l1, w64_id (by omega), if_neg (by simp; omega)]⟩
  | succ d ih =>
    intro m v acc h2 h3 h4 h5 h6
    obtain ⟨m, rfl⟩ : ∃ q, m = q + 1 := ⟨m - 1, by omega⟩
    obtain ⟨c', rfl⟩ := Int.eq_ofNat_of_zero_le (show 0 ≤ c by omega)
    obtain ⟨a1, p1, p2, p3⟩ := f21_l2_is (n := n) s (c' : Int) v c' n 0 acc (by omega) (by omega) hc.2 h5 (by omega)
    obtain ⟨a2, q1, q2, q3⟩ := ih m (v + 1) a1 (by omega) (by omega) (by omega) p1 (by omega)
    refine ⟨a2, q1, by rw [q2, p2]; simp only [Int.natCast_add, Int.mul_add, Int.natCast_one]; omega, fun j => ?_⟩
    have p3' := p3
    rw [show ((0 : Nat) : Int) = 0 from rfl] at p3'
    rw [f21_l1, w64_id (by omega), if_pos (by simp; omega), joinK, p3', w64_id (by omega), q3]

theorem f21_is {n : Nat} (hn : 2000 ≤ n) (s c fr cn : Int) (hc : 1 ≤ c ∧ c ≤ 8) (h0 : 0 ≤ fr) (h1 : fr + cn ≤ 1000) (h2 : 0 ≤ cn) : ∃ b : Block, f21 n s c fr cn = some b ∧ b.Channels = c ∧ (b.Data.length : Int) = c * cn ∧ BlkV b := by
  obtain ⟨k, rfl⟩ := Int.eq_ofNat_of_zero_le h2
  obtain ⟨a, p1, p2, p3⟩ := f21_l1_is (n := n) (by omega) s c hc fr k h1 k n fr [] (by omega) (by omega) h0 (fun x hx => by cases hx) (by simp; omega)
  have p2' : (a.length : Int) = c * k := by simpa using p2
  refine ⟨⟨c, a⟩, ?_, rfl, p2', ?_⟩
  · rw [f21, joinK, p3]
  · have e : (a.length : Int) / c = k := by rw [p2']; exact Int.mul_ediv_cancel_left _ (by omega)
    exact ⟨hc.1, hc.2, by show (a.length : Int) % c = 0; rw [p2', Int.mul_emod_right], by show (a.length : Int) / c ≤ 65536; rw [e]; omega, p1⟩

/-! ### what is written and read stays valid -/

theorem RngV.mk' {c k w r : Int} {d : List Int} (hc : 1 ≤ c ∧ c ≤ 8) (hk : 1 ≤ k ∧ k ≤ 65536) (hr : 0 ≤ r) (hw : r ≤ w) (hw2 : w ≤ 1125899906842624) (hf : w - r ≤ k) (hd : (d.length : Int) = (w - r) * c) (hs : AreSmp d) : RngV ⟨c, k, w, r, d⟩ := by
  have e : (d.length : Int) / c = w - r := by rw [hd]; exact Int.mul_ediv_cancel _ (by omega)
  exact ⟨hk.1, hk.2, hr, hw, hw2, ⟨hc.1, hc.2, by show (d.length : Int) % c = 0; rw [hd, Int.mul_emod_left], by show (d.length : Int) / c ≤ 65536; rw [e]; omega, hs⟩, by show w - r = (d.length : Int) / c; rw [e], hf⟩

theorem wr_ok {r : Ring} {b : Block} (hr : RngV r) (hb : BlkV b) (hc : b.Channels = r.Channels) (hw : r.Written + wK r b ≤ 1125899906842624) :
    wrR r b = (⟨r.Channels, r.Capacity, r.Written + wK r b, r.Read, r.Data ++ b.Data.take (wK r b * b.Channels).toNat⟩, wA b - wK r b, 0) := by
  rw [wrR, if_pos ⟨hr, hb⟩, if_neg (by simpa using hc), if_neg (by omega)]

theorem wr_valid {r : Ring} {b : Block} (hr : RngV r) (hb : BlkV b) (hc : b.Channels = r.Channels) (hw : r.Written + wK r b ≤ 1125899906842624) : RngV (wrR r b).1 := by
  rw [wr_ok hr hb hc hw]
  have hl := hr.len
  have hk := wK_rng hr hb
  have hbl := hb.len
  have hm := mul_part hk.1 hk.2 (by omega) hbl.1
  obtain ⟨r1, r2, r3, r4, r5, r6, r7, r8⟩ := hr
  refine RngV.mk' ⟨hl.2.1, hl.2.2.1⟩ ⟨r1, r2⟩ r3 (by omega) hw (by unfold wK; omega) ?_ ?_
  · rw [List.length_append, List.length_take, Nat.min_eq_left (by omega), Int.natCast_add, hl.1, Int.toNat_of_nonneg hm.1, hc, ← Int.add_mul]
    congr 1
    omega
  · intro x hx
    rcases List.mem_append.1 hx with hx | hx
    · exact r6.2.2.2.2 x hx
    · exact hb.2.2.2.2 x (List.mem_of_mem_take hx)

theorem rd_ok {r : Ring} {m : Int} (hr : RngV r) (hm : 0 ≤ m ∧ m ≤ 65536) : rdR r m = (⟨r.Channels, r.Data.take (rK r m * r.Channels).toNat ++ List.replicate ((m - rK r m) * r.Channels).toNat 0⟩, m - rK r m, ⟨r.Channels, r.Capacity, r.Written, r.Read + rK r m, r.Data.drop (rK r m * r.Channels).toNat⟩, 0) := by
  rw [rdR, if_pos hr, if_neg (by omega)]

theorem rd_valid {r : Ring} {m : Int} (hr : RngV r) (hm : 0 ≤ m ∧ m ≤ 65536) : RngV (rdR r m).2.2.1 := by
  rw [rd_ok hr hm]
  have hl := hr.len
  obtain ⟨p1, p2, p3, p4, p5, p6, p7, p8⟩ := rd_parts hr (show ¬ (m < 0 ∨ m > 65536) by omega)
  obtain ⟨r1, r2, r3, r4, r5, r6, r7, r8⟩ := hr
  refine RngV.mk' ⟨hl.2.1, hl.2.2.1⟩ ⟨r1, r2⟩ (by omega) (by omega) r5 (by omega) ?_ ?_
  · rw [List.length_drop, show r.Written - (r.Read + rK r m) = (r.Written - r.Read) - rK r m by omega, Int.sub_mul]
    omega
  · intro x hx
    exact r6.2.2.2.2 x (List.mem_of_mem_drop hx)

theorem cl_ok {r : Ring} (hr : RngV r) : clR r = (⟨r.Channels, r.Capacity, r.Written, r.Written, []⟩, 0) := by rw [clR, if_pos hr]
theorem cl_valid {r : Ring} (hr : RngV r) : RngV (clR r).1 := by
  rw [cl_ok hr]
  obtain ⟨r1, r2, r3, r4, r5, r6, r7, r8⟩ := hr
  exact RngV.mk' ⟨r6.1, r6.2.1⟩ ⟨r1, r2⟩ (by omega) (by omega) r5 (by omega) (by simp) (fun x hx => by cases hx)

theorem nw_ok {c k : Int} (hc : 1 ≤ c ∧ c ≤ 8) (hk : 1 ≤ k ∧ k ≤ 65536) : nwR c k = (⟨c, k, 0, 0, []⟩, 0) ∧ RngV ⟨c, k, 0, 0, []⟩ := by
  have h : RngV ⟨c, k, 0, 0, []⟩ := RngV.mk' hc hk (by omega) (by omega) (by omega) (by omega) (by simp) (fun x hx => by cases hx)
  exact ⟨by rw [nwR, if_pos h], h⟩

theorem wr_len' {r : Ring} {b : Block} : (wrR r b).1.Data.length ≤ r.Data.length + b.Data.length := by
  unfold wrR
  split
  · split
    · simp
    · split
      · simp
      · simp only [List.length_append, List.length_take]; omega
  · simp

theorem rd_len' {r : Ring} {m : Int} (hm : m ≤ 500 ∨ m > 65536) : (rdR r m).1.Data.length ≤ 4000 ∧ (rdR r m).2.2.1.Data.length ≤ r.Data.length := by
  by_cases hr : RngV r
  · by_cases h : m < 0 ∨ m > 65536
    · rw [rdR, if_pos hr, if_pos h]; simp
    · rw [rd_ok hr (by omega)]
      obtain ⟨p1, p2, p3, p4, p5, p6, p7, p8⟩ := rd_parts hr h
      have h2 : m * r.Channels ≤ 500 * 8 := Int.mul_le_mul (by omega) hr.len.2.2.1 (by have := hr.len; omega) (by omega)
      simp only [List.length_append, List.length_take, List.length_replicate, List.length_drop]
      omega
  · rw [rdR, if_neg hr]; simp

/-! ### rings that are made -/

def MadeOK (r : Ring) : Prop := RngV r ∧ r.Channels ≤ 2 ∧ r.Capacity ≤ 12

theorem MadeOK.len {r : Ring} (h : MadeOK r) : r.Data.length ≤ 24 := by
  have hl := h.1.len
  have h8 := h.1.2.2.2.2.2.2.2
  have : (r.Written - r.Read) * r.Channels ≤ 12 * 2 := Int.mul_le_mul (by have := h.2.2; omega) h.2.1 (by omega) (by omega)
  omega

theorem f19_l1_is {n : Nat} (hn : 10000 ≤ n) : ∀ (d m : Nat) (r : Ring) (di : Dice), MadeOK r → r.Written + 9 * d ≤ 1000 → d ≤ 900 → d < m → AreBytes di.l → di.l.length ≤ 1000 →
    ∃ (r' : Ring) (di' : Dice), MadeOK r' ∧ r'.Written ≤ 1000 ∧ AreBytes di'.l ∧ di'.l.length ≤ 1000 ∧ ∀ j, f19_l1 n j m r.Channels r.Capacity r.Written r.Read r.Data di.l (d : Int) = j r'.Channels r'.Capacity r'.Written r'.Read r'.Data di'.l := by
  intro d
  induction d with
  | zero =>
    intro m r di h1 h2 h3 h4 h5 h6
    obtain ⟨m, rfl⟩ : ∃ q, m = q + 1 := ⟨m - 1, by omega⟩
    exact ⟨r, di, h1, by omega, h5, h6, fun j => by rw [f19_l1, if_neg (by simp)]⟩
  | succ d ih =>
    intro m r di h1 h2 h3 h4 h5 h6
    obtain ⟨m, rfl⟩ : ∃ q, m = q + 1 := ⟨m - 1, by omega⟩
    obtain ⟨v1, d1, e1, a1, a2, a3, a4⟩ := f26_is (n := n) di h5 h6 9 (by omega)
    have hl := h1.1.len
    obtain ⟨b, e2, b1, b2, b3⟩ := f21_is (n := n) (by omega) ((d + 1 : Nat) : Int) r.Channels 0 v1 ⟨hl.2.1, hl.2.2.1⟩ (by omega) (by omega) a1
    have hrl := h1.len
    have hbl : b.Data.length ≤ 72 := by
      have : r.Channels * v1 ≤ 8 * 9 := Int.mul_le_mul hl.2.2.1 (by omega) a1 (by omega)
      omega
    have hA : wA b = v1 := by
      show (b.Data.length : Int) / b.Channels = v1
      rw [b2, b1]
      exact Int.mul_ediv_cancel_left _ (by omega)
    have hk := wK_rng h1.1 b3
    have hw := wr_valid h1.1 b3 b1 (by omega)
    have hwo := wr_ok h1.1 b3 b1 (by omega)
    have hM1 : MadeOK (wrR r b).1 := ⟨hw, by rw [hwo]; exact h1.2.1, by rw [hwo]; exact h1.2.2⟩
    obtain ⟨v2, d2, e3, c1, c2, c3, c4⟩ := f26_is (n := n) d1 a3 a4 6 (by omega)
    have hrv := rd_valid (m := v2) hM1.1 (by omega)
    have hro := rd_ok (m := v2) hM1.1 (by omega)
    have hM2 : MadeOK (rdR (wrR r b).1 v2).2.2.1 := ⟨hrv, by rw [hro]; exact hM1.2.1, by rw [hro]; exact hM1.2.2⟩
    have hW : (rdR (wrR r b).1 v2).2.2.1.Written = r.Written + wK r b := by rw [hro, hwo]
    obtain ⟨r', di', k1, k2, k3, k4, k5⟩ := ih m (rdR (wrR r b).1 v2).2.2.1 d2 hM2 (by rw [hW]; omega) (by omega) (by omega) c3 c4
    refine ⟨r', di', k1, k2, k3, k4, fun j => ?_⟩
    have hl1 := hM1.len
    rw [f19_l1, if_pos (by simp), show f26 n (⟨di.l⟩ : Dice) 9 = some (v1, d1) from e1, Option.bind_some, e2, Option.bind_some]
    rw [show f27 n (⟨r.Channels, r.Capacity, r.Written, r.Read, r.Data⟩ : Ring) b = some (wrR r b) from f27_is r b (by omega) (by omega) (by omega), Option.bind_some]
    rw [show f26 n (⟨d1.l⟩ : Dice) 6 = some (v2, d2) from e3, Option.bind_some]
    rw [show f28 n (⟨(wrR r b).1.Channels, (wrR r b).1.Capacity, (wrR r b).1.Written, (wrR r b).1.Read, (wrR r b).1.Data⟩ : Ring) v2 = some (rdR (wrR r b).1 v2) from f28_is (wrR r b).1 v2 (by omega) (by omega), Option.bind_some]
    rw [show ((d + 1 : Nat) : Int) - 1 = (d : Int) by omega, w64_id (by omega), k5]

theorem f19_is {n : Nat} (hn : 10000 ≤ n) (di : Dice) (h1 : AreBytes di.l) (h2 : di.l.length ≤ 1000) : ∃ (r : Ring) (di' : Dice), f19 n di = some (r, di') ∧ MadeOK r ∧ r.Written ≤ 1000 ∧ AreBytes di'.l ∧ di'.l.length ≤ 1000 := by
  obtain ⟨v1, d1, e1, a1, a2, a3, a4⟩ := f26_is (n := n) di h1 h2 2 (by omega)
  obtain ⟨v2, d2, e2, b1, b2, b3, b4⟩ := f26_is (n := n) d1 a3 a4 12 (by omega)
  obtain ⟨v3, d3, e3, c1, c2, c3, c4⟩ := f26_is (n := n) d2 b3 b4 5 (by omega)
  obtain ⟨v3, rfl⟩ := Int.eq_ofNat_of_zero_le c1
  have hnw := nw_ok (c := 1 + v1) (k := 1 + v2) (by omega) (by omega)
  obtain ⟨r', di', k1, k2, k3, k4, k5⟩ := f19_l1_is hn v3 n ⟨1 + v1, 1 + v2, 0, 0, []⟩ d3 ⟨hnw.2, by show 1 + v1 ≤ 2; omega, by show 1 + v2 ≤ 12; omega⟩ (by show (0 : Int) + 9 * (v3 : Int) ≤ 1000; omega) (by omega) (by omega) c3 c4
  refine ⟨r', di', ?_, k1, k2, k3, k4⟩
  rw [f19, show f26 n (⟨di.l⟩ : Dice) 2 = some (v1, d1) from e1, Option.bind_some, show f26 n (⟨d1.l⟩ : Dice) 12 = some (v2, d2) from e2, Option.bind_some, w64_id (by omega), w64_id (by omega), f34_is (by omega), Option.bind_some, joinK, show f26 n (⟨d2.l⟩ : Dice) 5 = some ((v3 : Int), d3) from e3, Option.bind_some, hnw.1]
  exact k5 _

/-! ### the sanity check -/

theorem f14_is {n : Nat} (hn : 10000 ≤ n) : f14 n = some true := by
  have h1 := nw_ok (c := 1) (k := 2) (by omega) (by omega)
  have hb : BlkV ⟨1, [1, 2, 3]⟩ := by decide
  have h2 := wr_ok (r := ⟨1, 2, 0, 0, []⟩) (b := ⟨1, [1, 2, 3]⟩) h1.2 hb rfl (by decide)
  have e2 : wrR ⟨1, 2, 0, 0, []⟩ ⟨1, [1, 2, 3]⟩ = (⟨1, 2, 2, 0, [1, 2]⟩, 1, 0) := h2
  have hv : RngV ⟨1, 2, 2, 0, [1, 2]⟩ := by decide
  have h3 := rd_ok (r := ⟨1, 2, 2, 0, [1, 2]⟩) (m := 3) hv (by omega)
  have e3 : rdR ⟨1, 2, 2, 0, [1, 2]⟩ 3 = (⟨1, [1, 2, 0]⟩, 1, ⟨1, 2, 2, 2, []⟩, 0) := h3
  rw [f14, f15_is (by omega), Option.bind_some, h1.1]
  dsimp only
  rw [f16_is _ _ (by simp) (by simp) (by simp; omega), Option.bind_some, e2]
  dsimp only
  rw [f17_is _ _ (by simp) (by simp; omega), Option.bind_some, e3]
  dsimp only
  rw [f18_is _ (by simp) (by simp; omega), f31_is _ (by simp) (by simp; omega), flR, if_pos hv, decide_eq_true hv]
  rfl

end Go.Proofs.Ytacdknbakjbpiaa
