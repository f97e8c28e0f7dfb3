/-
  The law RingOrder, plain.
-/
import Derived.Test.YtacdknbakjbpiaaR4
namespace Go.Proofs.Ytacdknbakjbpiaa
open Go Ab

/-- The numbers behind a, k of them. -/
def sq (a k : Nat) : List Int := (List.range' (a + 1) k).map fun x : Nat => (x : Int)
theorem sq_length (a k : Nat) : (sq a k).length = k := by simp [sq]
theorem sq_append (a k m : Nat) : sq a k ++ sq (a + k) m = sq a (k + m) := by
  simp only [sq, ← List.map_append]
  congr 1
  rw [show a + k + 1 = a + 1 + k by omega, List.range'_append_1]
theorem sq_get (a k i : Nat) (h : i < (sq a k).length) : (sq a k)[i] = (a : Int) + i + 1 := by
  simp only [sq, List.getElem_map, List.getElem_range']
  omega
theorem sq_one (a : Nat) : sq a 1 = [(a : Int) + 1] := by simp [sq]
theorem sq_take (a k q : Nat) (h : q ≤ k) : (sq a k).take q = sq a q := by
  obtain ⟨m, rfl⟩ : ∃ m, k = q + m := ⟨k - q, by omega⟩
  rw [← sq_append]
  exact List.take_left' (sq_length a q)
theorem sq_drop (a k q : Nat) (h : q ≤ k) : (sq a k).drop q = sq (a + q) (k - q) := by
  obtain ⟨m, rfl⟩ : ∃ m, k = q + m := ⟨k - q, by omega⟩
  rw [← sq_append, List.drop_left' (sq_length a q)]
  congr 1
  omega
theorem sq_smp (a k : Nat) (h : a + k ≤ 8000000) : AreSmp (sq a k) := by
  intro x hx
  obtain ⟨i, hi, rfl⟩ := List.mem_iff_getElem.1 hx
  rw [sq_get]
  rw [sq_length] at hi
  omega

theorem shr_rng {x : Int} (h : 0 ≤ x ∧ x < 256) : w64 (iShrT .u8 x 1) = x / 2 := by
  have e : iShrT .u8 x 1 = x / 2 := by
    show x.fdiv (2 ^ (min (1 : Int).toNat (IntKind.bits .u8))) = x / 2
    rw [Int.fdiv_eq_ediv_of_nonneg _ (by decide)]
    rfl
  rw [e, w64_id (by omega)]

theorem f3_l2_is {n : Nat} (v N : Nat) (x : Int) (hx : Int.tmod (w64 (iShrT .u8 x 1)) 16 = N) (hv : v ≤ 100000) (hN : N < 16) (j : List Int → Option Bool) : ∀ (d m i : Nat), i + d = N → d < m → f3_l2 n (v : Int) x j m (sq v i) (i : Int) = j (sq v N) := by
  intro d
  induction d with
  | zero =>
    intro m i h1 h2
    obtain ⟨m, rfl⟩ : ∃ q, m = q + 1 := ⟨m - 1, by omega⟩
    rw [f3_l2, hx, if_neg (by simp; omega), show i = N by omega]
  | succ d ih =>
    intro m i h1 h2
    obtain ⟨m, rfl⟩ : ∃ q, m = q + 1 := ⟨m - 1, by omega⟩
    rw [f3_l2, hx, if_pos (by simp; omega), w64_id (x := (v : Int) + i) (by omega), w64_id (x := (v : Int) + i + 1) (by omega), IntKind.wrap_i32, Int.emod_eq_of_lt (by omega) (by omega), lApp_eq (by simp [sq_length]; omega), Option.bind_some]
    have e : sq v i ++ [(v : Int) + i + 1 + 2147483648 - 2147483648] = sq v (i + 1) := by
      rw [show (v : Int) + i + 1 + 2147483648 - 2147483648 = ((v + i : Nat) : Int) + 1 by omega, ← sq_one, sq_append]
    rw [e, w64_id (by omega), show (i : Int) + 1 = ((i + 1 : Nat) : Int) by omega, ih _ _ (by omega) (by omega)]

theorem f3_l3_is {n : Nat} (o N q : Nat) (x : Int) (hx : Int.tmod (w64 (iShrT .u8 x 1)) 16 = N) (ho : o ≤ 100000) (hN : N < 16) (hq : q ≤ N) (R : Ring) (c : Int) (j : Unit → Option Bool) : ∀ (d m i : Nat), i + d = N → d < m → f3_l3 n (o : Int) x (⟨c, sq o q ++ List.replicate (N - q) 0⟩, ((N - q : Nat) : Int), R, 0) j m (i : Int) = j () := by
  intro d
  induction d with
  | zero =>
    intro m i h1 h2
    obtain ⟨m, rfl⟩ : ∃ q, m = q + 1 := ⟨m - 1, by omega⟩
    rw [f3_l3, if_neg (by simp [sq_length]; omega)]
  | succ d ih =>
    intro m i h1 h2
    obtain ⟨m, rfl⟩ : ∃ q, m = q + 1 := ⟨m - 1, by omega⟩
    rw [f3_l3, if_pos (by simp [sq_length]; omega)]
    dsimp only
    rw [lAt_nat (by simp [sq_length]; omega), Option.bind_some, joinK, hx, w64_id (x := (N : Int) - _) (by omega), w64_id (x := (i : Int) + 1) (by omega), show (i : Int) + 1 = ((i + 1 : Nat) : Int) by omega, ih _ _ (by omega) (by omega)]
    by_cases h : q ≤ i
    · rw [if_pos (by simp; omega), List.getElem_append_right (by rw [sq_length]; exact h), List.getElem_replicate]
      simp
    · rw [if_neg (by simp; omega), List.getElem_append_left (by rw [sq_length]; omega), sq_get, w64_id (x := (o : Int) + i) (by omega), w64_id (x := (o : Int) + i + 1) (by omega), IntKind.wrap_i32, Int.emod_eq_of_lt (by omega) (by omega), show (o : Int) + i + 1 + 2147483648 - 2147483648 = o + i + 1 by omega]
      simp

def ordR (cp o f : Nat) : Ring := ⟨1, cp, ((o + f : Nat) : Int), o, sq o f⟩
theorem ordR_valid {cp o f : Nat} (h1 : 1 ≤ cp ∧ cp ≤ 20) (h2 : f ≤ cp) (h3 : o + f ≤ 100000) : RngV (ordR cp o f) :=
  RngV.mk' (by omega) (by omega) (by omega) (by omega) (by omega) (by omega) (by rw [sq_length]; omega) (sq_smp o f (by omega))

theorem ord_wr {cp o f k : Nat} (h1 : 1 ≤ cp ∧ cp ≤ 20) (h2 : f ≤ cp) (h3 : o + f ≤ 10000) (hk : k < 16) : wrR (ordR cp o f) ⟨1, sq (o + f) k⟩ = (ordR cp o (f + min k (cp - f)), ((k - min k (cp - f) : Nat) : Int), 0) := by
  have hb : BlkV ⟨1, sq (o + f) k⟩ := ⟨by show (1 : Int) ≤ 1; omega, by show (1 : Int) ≤ 8; omega, Int.emod_one _, by rw [sq_length, Int.ediv_one]; omega, sq_smp _ _ (by omega)⟩
  have hA : wA ⟨1, sq (o + f) k⟩ = k := by
    show ((sq (o + f) k).length : Int) / 1 = k
    rw [sq_length, Int.ediv_one]
  have hK : wK (ordR cp o f) ⟨1, sq (o + f) k⟩ = ((min k (cp - f) : Nat) : Int) := by
    unfold wK
    rw [hA]
    show min (k : Int) ((cp : Int) - (((o + f : Nat) : Int) - o)) = _
    omega
  rw [wr_ok (ordR_valid h1 h2 (by omega)) hb rfl (by rw [hK]; show ((o + f : Nat) : Int) + _ ≤ _; omega), hA, hK]
  show ((⟨1, cp, ((o + f : Nat) : Int) + ((min k (cp - f) : Nat) : Int), o, sq o f ++ (sq (o + f) k).take (((min k (cp - f) : Nat) : Int) * 1).toNat⟩ : Ring), (k : Int) - ((min k (cp - f) : Nat) : Int), (0 : Int)) = _
  rw [Int.mul_one, Int.toNat_natCast, sq_take _ _ _ (by omega), sq_append]
  unfold ordR
  congr 2 <;> omega

theorem ord_rd {cp o f k : Nat} (h1 : 1 ≤ cp ∧ cp ≤ 20) (h2 : f ≤ cp) (h3 : o + f ≤ 10000) (hk : k < 16) : rdR (ordR cp o f) k = (⟨1, sq o (min k f) ++ List.replicate (k - min k f) 0⟩, ((k - min k f : Nat) : Int), ordR cp (o + min k f) (f - min k f), 0) := by
  have hK : rK (ordR cp o f) k = ((min k f : Nat) : Int) := by
    show min (k : Int) (((o + f : Nat) : Int) - o) = _
    omega
  rw [rd_ok (ordR_valid h1 h2 (by omega)) (by omega), hK]
  show ((⟨1, (sq o f).take (((min k f : Nat) : Int) * 1).toNat ++ List.replicate (((k : Int) - ((min k f : Nat) : Int)) * 1).toNat 0⟩ : Block), (k : Int) - ((min k f : Nat) : Int), (⟨1, cp, ((o + f : Nat) : Int), (o : Int) + ((min k f : Nat) : Int), (sq o f).drop (((min k f : Nat) : Int) * 1).toNat⟩ : Ring), (0 : Int)) = _
  rw [Int.mul_one, Int.mul_one, Int.toNat_natCast, sq_take _ _ _ (by omega), sq_drop _ _ _ (by omega), show ((k : Int) - ((min k f : Nat) : Int)).toNat = k - min k f by omega, show (k : Int) - ((min k f : Nat) : Int) = ((k - min k f : Nat) : Int) by omega]
  unfold ordR
  rw [show o + min k f + (f - min k f) = o + f by omega]
  simp only [Int.natCast_add]

theorem f3_l1_is {n : Nat} (hn : 10000 ≤ n) (a : List Int) (ha : AreBytes a) (hal : a.length ≤ 40) (cp : Nat) (hc : 1 ≤ cp ∧ cp ≤ 20) : ∀ (d m i o f : Nat), i + d = a.length → d < m → f ≤ cp → o + f ≤ 16 * i →
    ∃ o' f' : Nat, f' ≤ cp ∧ o' + f' ≤ 16 * a.length ∧ ∀ j, f3_l1 n a j m 1 cp ((o + f : Nat) : Int) o (sq o f) ((o + f : Nat) : Int) o (i : Int) = j 1 cp ((o' + f' : Nat) : Int) o' (sq o' f') ((o' + f' : Nat) : Int) o' := by
  intro d
  induction d with
  | zero =>
    intro m i o f h1 h2 h3 h4
    obtain ⟨m, rfl⟩ : ∃ q, m = q + 1 := ⟨m - 1, by omega⟩
    exact ⟨o, f, h3, by omega, fun j => by rw [f3_l1, if_neg (by simp; omega)]⟩
  | succ d ih =>
    intro m i o f h1 h2 h3 h4
    obtain ⟨m, rfl⟩ : ∃ q, m = q + 1 := ⟨m - 1, by omega⟩
    have hb := ha _ (List.getElem_mem (show i < a.length by omega))
    generalize hx : a[i] = x at hb
    have hxl : lAt a (i : Int) = some x := by rw [lAt_nat (by omega), hx]
    have hN0 : Int.tmod (w64 (iShrT .u8 x 1)) 16 = x / 2 % 16 := by rw [shr_rng (by omega), Int.tmod_eq_emod_of_nonneg (by omega)]
    obtain ⟨k, hk⟩ := Int.eq_ofNat_of_zero_le (show 0 ≤ x / 2 % 16 by omega)
    have hk16 : k < 16 := by omega
    rw [hk] at hN0
    by_cases hodd : Int.tmod x 2 = 0
    · obtain ⟨o', f', p1, p2, p3⟩ := ih m (i + 1) o (f + min k (cp - f)) (by omega) (by omega) (by omega) (by omega)
      refine ⟨o', f', p1, p2, fun j => ?_⟩
      rw [f3_l1, if_pos (by simp; omega)]
      simp only [joinK]
      rw [hxl, Option.bind_some, if_pos (by simpa using hodd)]
      have hl2 := fun j => f3_l2_is (n := n) (o + f) k x hN0 (by omega) hk16 j k n 0 (by omega) (by omega)
      rw [show sq (o + f) 0 = [] from rfl, show ((0 : Nat) : Int) = 0 from rfl] at hl2
      rw [hl2]
      have hw := ord_wr (cp := cp) (o := o) (f := f) (k := k) hc h3 (by omega) hk16
      rw [show f16 n (⟨1, cp, ((o + f : Nat) : Int), o, sq o f⟩ : Ring) (⟨1, sq (o + f) k⟩ : Block) = some (wrR (ordR cp o f) ⟨1, sq (o + f) k⟩) from f16_is (ordR cp o f) _ (by show (sq o f).length ≤ _; rw [sq_length]; omega) (by rw [sq_length]; omega) (by show _ ∧ (sq o f).length < n ∧ (sq (o + f) k).length < n; rw [sq_length, sq_length]; omega), Option.bind_some, hw]
      dsimp only
      rw [if_neg (by simp), if_neg (by simp), hN0, if_neg (by simp)]
      show f3_l1 n a j m 1 cp ((o + (f + min k (cp - f)) : Nat) : Int) o (sq o (f + min k (cp - f))) _ _ _ = _
      rw [w64_id (x := ((o + f : Nat) : Int) + k) (by omega), w64_id (x := ((o + f : Nat) : Int) + k - _) (by omega), w64_id (x := (i : Int) + 1) (by omega), show (i : Int) + 1 = ((i + 1 : Nat) : Int) by omega, show ((o + f : Nat) : Int) + k - ((k - min k (cp - f) : Nat) : Int) = ((o + (f + min k (cp - f)) : Nat) : Int) by omega, p3]
    · obtain ⟨o', f', p1, p2, p3⟩ := ih m (i + 1) (o + min k f) (f - min k f) (by omega) (by omega) (by omega) (by omega)
      refine ⟨o', f', p1, p2, fun j => ?_⟩
      rw [f3_l1, if_pos (by simp; omega)]
      simp only [joinK]
      rw [hxl, Option.bind_some, if_neg (by simpa using hodd), hN0]
      have hr := ord_rd (cp := cp) (o := o) (f := f) (k := k) hc h3 (by omega) hk16
      rw [show f17 n (⟨1, cp, ((o + f : Nat) : Int), o, sq o f⟩ : Ring) (k : Int) = some (rdR (ordR cp o f) k) from f17_is (ordR cp o f) _ (by show (sq o f).length ≤ _; rw [sq_length]; omega) (by show (sq o f).length < n; rw [sq_length]; omega), Option.bind_some, hr]
      dsimp only
      rw [if_neg (by simp), if_neg (by simp [sq_length]; omega), if_neg (by simp), if_neg (by simp), iMax_eq, w64_id (x := ((o + f : Nat) : Int) - o) (by omega), w64_id (x := (k : Int) - _) (by omega), if_neg (by simp; omega)]
      have hl3 := fun R j => f3_l3_is (n := n) o k (min k f) x hN0 (by omega) hk16 (by omega) R 1 j k n 0 (by omega) (by omega)
      rw [show ((0 : Nat) : Int) = 0 from rfl] at hl3
      rw [hl3]
      show f3_l1 n a j m 1 cp ((o + min k f + (f - min k f) : Nat) : Int) ((o + min k f : Nat) : Int) (sq (o + min k f) (f - min k f)) _ _ _ = _
      rw [w64_id (x := (o : Int) + k) (by omega), w64_id (x := (o : Int) + k - _) (by omega), w64_id (x := (i : Int) + 1) (by omega), show (i : Int) + 1 = ((i + 1 : Nat) : Int) by omega, show (o : Int) + k - ((k - min k f : Nat) : Int) = ((o + min k f : Nat) : Int) by omega, show ((o + f : Nat) : Int) = ((o + min k f + (f - min k f) : Nat) : Int) by omega, p3]

theorem f3_is {n : Nat} (hn : 10000 ≤ n) (a : List Int) (ha : AreBytes a) (c : Int) (hc : 0 ≤ c ∧ c < 256) : f3 n a c = some true := by
  rw [f3, f14_is hn]
  simp only [Option.bind_some, joinK, Bool.not_true, Bool.false_eq_true, if_false]
  by_cases h1 : (a.length : Int) > 40
  · rw [if_pos (by simpa using h1)]
  rw [if_neg (by simpa using h1)]
  have c1 := Int.tmod_lt_of_pos c (show (0 : Int) < 20 by omega)
  have c0 := Int.tmod_nonneg 20 hc.1
  rw [w64_id (x := Int.tmod c 20) (by omega), w64_id (x := 1 + Int.tmod c 20) (by omega)]
  obtain ⟨cp, hcp⟩ := Int.eq_ofNat_of_zero_le (show 0 ≤ 1 + Int.tmod c 20 by omega)
  rw [hcp]
  have hnw := nw_ok (c := 1) (k := cp) (by omega) (by omega)
  rw [f15_is (by omega), Option.bind_some, hnw.1]
  dsimp only
  rw [if_neg (by simp)]
  obtain ⟨o, f, p1, p2, p3⟩ := f3_l1_is hn a ha (by omega) cp (by omega) a.length n 0 0 0 (by omega) (by omega) (by omega) (by omega)
  have hq := p3 (fun v218 v219 v220 v221 v222 v223 v224 => (f18 n (⟨v218, v219, v220, v221, v222⟩ : Ring)).bind fun y582 =>
  if (y582 == (w64 (v223 - v224))) = true then (
  if decide ((w64 (v223 - v224)) ≤ (cp : Int)) = true then (
  if (v223 == v220) = true then (
  some (v224 == v221))
  else (
  some false))
  else (
  some false))
  else (
  some false))
  refine Eq.trans hq ?_
  rw [show f18 n (⟨1, cp, ((o + f : Nat) : Int), o, sq o f⟩ : Ring) = some (flR (ordR cp o f)) from f18_is (ordR cp o f) (by show (sq o f).length ≤ _; rw [sq_length]; omega) (by show (sq o f).length < n; rw [sq_length]; omega), Option.bind_some, flR, if_pos (ordR_valid (by omega) p1 (by omega)), w64_id (by omega)]
  show (if ((((o + f : Nat) : Int) - o) == ((o + f : Nat) : Int) - o) = true then _ else _) = _
  rw [if_pos (by simp), if_pos (by simp; omega), if_pos (by simp)]
  simp

end Go.Proofs.Ytacdknbakjbpiaa
