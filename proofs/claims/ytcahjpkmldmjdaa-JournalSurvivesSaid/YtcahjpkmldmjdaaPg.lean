/-
  The law JournalSurvives, plain.
-/
import Derived.Test.YtcahjpkmldmjdaaPf
namespace Go.Proofs.Ytcahjpkmldmjdaa
open Go Ab

theorem lPart_pre {α : Type} (x y : List α) : lPart (x ++ y) 0 (x.length : Int) = some x := by
  rw [lPart_eq (by simp; omega)]
  simp

theorem f13_is {n : Nat} (hn : 5000 ≤ n) (l rec : List Int) (k : Int) (hl : l.length ≤ 9223372036854775807) (hrec : AreBytes rec) : f13 n l k rec = some true := by
  rw [f13, f43_is hn]
  simp only [Option.bind_some, joinK, Bool.not_true, Bool.false_eq_true, if_false]
  by_cases h1 : (rec.length : Int) > 200
  · rw [if_pos (by simpa using h1)]
  rw [if_neg (by simpa using h1)]
  obtain ⟨rs, hr1, hr2, e⟩ := f44_is hn l hl
  rw [e]
  simp only [Option.bind_some]
  have hb := jEnc_bytes rs 0 fun x hx => (hr1 x hx).1
  have hbl := jEnc_length rs 0 hr1
  have hsm : ∀ r ∈ rs, r.length ≤ 4096 := fun r hr => by have := (hr1 r hr).2; omega
  have hP := jP_enc0 rs 0 hsm
  rw [w64_id (by omega)]
  obtain ⟨q, eq, hq1, hq2⟩ := f45_is (n := n) k (((jEnc 0 rs).length : Int) + 1) (by omega)
  rw [eq, Option.bind_some, f48_is _ hb (by omega) (by omega), Option.bind_some, hP]
  obtain ⟨q, rfl⟩ := Int.eq_ofNat_of_zero_le hq1
  have hpart : ∀ i : Nat, i ≤ (jEnc 0 rs).length → lPart (jEnc 0 rs) 0 (i : Int) = some ((jEnc 0 rs).take i) := fun i hi => by
    rw [lPart_eq (by omega)]; rfl
  rw [hpart q (by omega), Option.bind_some]
  obtain ⟨p, hp1, hp2, hp3, hp4, hp5⟩ := jP_take rs 0 q hsm (by omega)
  have hxb := take_bytes hb q
  have hxl : ((jEnc 0 rs).take q).length ≤ 145 := by simp; omega
  rw [f48_is _ hxb (by omega) (by omega), Option.bind_some, Option.bind_some, f51_is _ hxb (by omega) (by omega), Option.bind_some, hp3, hp4, Int.toNat_natCast, hp5]
  dsimp only
  have hts : RecsOK (rs.take p) := fun r hr => hr1 r (List.mem_of_mem_take hr)
  have htl : (rs.take p).length ≤ rs.length := by simp; omega
  rw [if_neg (by simp), if_neg (by simp), f50_is rs (by omega) (by omega), Option.bind_some, if_neg (by simp), if_neg (by simp; omega), if_neg (by simp; omega)]
  have e1 : lPart rs 0 ((rs.take p).length : Int) = some (rs.take p) := by
    rw [lPart_eq (by omega), Int.toNat_natCast, show ((0 : Int).toNat) = 0 from rfl, List.drop_zero, List.length_take, ← List.take_take, List.take_length]
  rw [e1, Option.bind_some, f50_is (rs.take p) (by omega) (by omega), Option.bind_some, if_neg (by simp)]
  have e2 : (jEnc 0 rs).take (jEnc 0 (rs.take p)).length = jEnc 0 (rs.take p) := by
    rw [List.take_take, Nat.min_eq_left hp2] at hp5
    exact hp5
  rw [hpart _ (by omega), Option.bind_some, e2, sEq_self, if_neg (by simp)]
  have hfb := jEnc_bytes (rs.take p) 0 fun x hx => (hts x hx).1
  have hfl := jEnc_length (rs.take p) 0 hts
  have hsm2 : ∀ r ∈ rs.take p, r.length ≤ 4096 := fun r hr => hsm r (List.mem_of_mem_take hr)
  have hP2 := jP_enc0 (rs.take p) 0 hsm2
  have hA : jApp (jEnc 0 (rs.take p)) rec = (jEnc 0 (rs.take p ++ [rec]), 0) := by
    rw [jApp_ok (by rw [hP2]) (by omega), hP2, jEnc_snoc]
  have hP3 := jP_enc0 (rs.take p ++ [rec]) 0 fun r hr => by
    rcases List.mem_append.1 hr with hr | hr
    · exact hsm2 r hr
    · rw [List.mem_singleton.1 hr]; omega
  have hnb : AreBytes (jEnc 0 (rs.take p ++ [rec])) := jEnc_bytes _ 0 fun r hr => by
    rcases List.mem_append.1 hr with hr | hr
    · exact (hts r hr).1
    · rw [List.mem_singleton.1 hr]; exact hrec
  have hnl : (jEnc 0 (rs.take p ++ [rec])).length ≤ 400 := by rw [jEnc_snoc, List.length_append, jFrame_length]; omega
  rw [f46_is _ rec hfb (by omega) (by omega) (by omega), Option.bind_some, hA, f48_is _ hnb (by omega) (by omega), Option.bind_some, hP3]
  dsimp only
  rw [if_pos (by simp), if_pos (by simp), w64_id (by omega), if_pos (by simp)]
  have e3 := lPart_pre (rs.take p) [rec]
  rw [e3, Option.bind_some, f50_is (rs.take p) (by omega) (by omega), Option.bind_some, if_pos rfl, lAt_nat (by simp), Option.bind_some]
  simp [sEq_self]

end Go.Proofs.Ytcahjpkmldmjdaa
