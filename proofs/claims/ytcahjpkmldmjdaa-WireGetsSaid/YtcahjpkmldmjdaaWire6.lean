/-
  The walks of what gets texts.
-/
import Derived.Test.YtcahjpkmldmjdaaWire5
namespace Go.Proofs.Ytcahjpkmldmjdaa
open Go Ab

def gtN (bs : List Int) (a : Int) : Int := (bs[a.toNat]?).getD 0
def gtE (bs : List Int) (a : Int) : Int := if a < 0 ∨ a > bs.length then 2 else if a = bs.length then 4 else if gtN bs a > 64 then 3 else if (bs.length : Int) - a - 1 < gtN bs a then 4 else 0
def gtS (bs : List Int) (a : Int) : ByteArray := if gtE bs a = 0 then mkStr ((bs.take (a + 1 + gtN bs a).toNat).drop (a + 1).toNat) else ⟨#[]⟩
def gtA (bs : List Int) (a : Int) : Int := if gtE bs a = 0 then a + 1 + gtN bs a else 0
def gtR (bs : List Int) (a : Int) : PV := .tup [.str (gtS bs a), .int .i64 (gtA bs a), .int .i64 (gtE bs a)]

theorem gt_bad {bs : List Int} {a e : Int} (he : gtE bs a = e) (h0 : e ≠ 0) : (PV.tup [.str ⟨#[]⟩, .int .i64 0, .int .i64 e]) = gtR bs a := by
  rw [gtR, gtS, gtA, he, if_neg h0, if_neg h0]

theorem gt_good {bs : List Int} {a : Int} (he : gtE bs a = 0) : (PV.tup [.str (mkStr ((bs.take (a + 1 + gtN bs a).toNat).drop (a + 1).toNat)), .int .i64 (a + 1 + gtN bs a), .int .i64 0]) = gtR bs a := by
  rw [gtR, gtS, gtA, he, if_pos rfl, if_pos rfl]

set_option maxRecDepth 100000 in
theorem can31 (bs : List Int) (hbs : AreBytes bs) (a : Int) (ha : -9223372036854775808 ≤ a ∧ a ≤ 9223372036854775807) (hb : bs.length ≤ 1000000) :
    Ab.Can Try.prog 31 [.sl 5 .ro (bytesP bs), .int .i64 a] H0 (gtR bs a) H0 := by
  refine can_of tabOK mix Try.call31 Try.func31 rfl (by kernel_rfl) (by show _ ≤ 47; simp) fun hl => ?_
  have hbl : (bytesP bs).length = bs.length := by simp
  repeat' (first | refine .nil ?_ | refine .seq ?_ | refine .region ?_ | refine .move ?_ | refine .assign ?_ | refine .add ?_ | refine .sub ?_ | refine .mul ?_ | refine .conv ?_ | refine .val ?_ | refine .val ?_ (hc := by omega) | refine .skip ?_ | refine .brT ?_ | refine .brF ?_ | refine .condT ?_ | refine .condF ?_ | refine .block ?_ | refine .exit (.hit ?_) | refine .exit (.miss (.hit ?_)) | refine .exit (.miss (.miss (.hit ?_))) | refine .wr ?_ | refine .lit1 ?_ | fail)
  refine .caseG (fun h => ?_) (fun h => ?_)
  · have h := of_decide_eq_true h
    repeat' (first | refine .nil ?_ | refine .seq ?_ | refine .region ?_ | refine .move ?_ | refine .assign ?_ | refine .add ?_ | refine .sub ?_ | refine .mul ?_ | refine .conv ?_ | refine .val ?_ | refine .val ?_ (hc := by omega) | refine .skip ?_ | refine .brT ?_ | refine .brF ?_ | refine .condT ?_ | refine .condF ?_ | refine .block ?_ | refine .exit (.hit ?_) | refine .exit (.miss (.hit ?_)) | refine .exit (.miss (.miss (.hit ?_))) | refine .wr ?_ | refine .lit1 ?_ | fail)
    refine .ret ?_
    exact fin_plain rfl (gt_bad (by rw [gtE, if_pos (.inl h)]) (by decide)) rfl
  have h := of_decide_eq_false h
  repeat' (first | refine .nil ?_ | refine .seq ?_ | refine .region ?_ | refine .move ?_ | refine .assign ?_ | refine .add ?_ | refine .sub ?_ | refine .mul ?_ | refine .conv ?_ | refine .val ?_ | refine .val ?_ (hc := by omega) | refine .skip ?_ | refine .brT ?_ | refine .brF ?_ | refine .condT ?_ | refine .condF ?_ | refine .block ?_ | refine .exit (.hit ?_) | refine .exit (.miss (.hit ?_)) | refine .exit (.miss (.miss (.hit ?_))) | refine .wr ?_ | refine .lit1 ?_ | fail)
  refine .cond (fun h2 => ?_) (fun h2 => ?_)
  · have h2 := of_decide_eq_true h2
    repeat' (first | refine .nil ?_ | refine .seq ?_ | refine .region ?_ | refine .move ?_ | refine .assign ?_ | refine .add ?_ | refine .sub ?_ | refine .mul ?_ | refine .conv ?_ | refine .val ?_ | refine .val ?_ (hc := by omega) | refine .skip ?_ | refine .brT ?_ | refine .brF ?_ | refine .condT ?_ | refine .condF ?_ | refine .block ?_ | refine .exit (.hit ?_) | refine .exit (.miss (.hit ?_)) | refine .exit (.miss (.miss (.hit ?_))) | refine .wr ?_ | refine .lit1 ?_ | fail)
    refine .ret ?_
    exact fin_plain rfl (gt_bad (by rw [gtE, if_pos (.inr (by omega))]) (by decide)) rfl
  have h2 := of_decide_eq_false h2
  repeat' (first | refine .nil ?_ | refine .seq ?_ | refine .region ?_ | refine .move ?_ | refine .assign ?_ | refine .add ?_ | refine .sub ?_ | refine .mul ?_ | refine .conv ?_ | refine .val ?_ | refine .val ?_ (hc := by omega) | refine .skip ?_ | refine .brT ?_ | refine .brF ?_ | refine .condT ?_ | refine .condF ?_ | refine .block ?_ | refine .exit (.hit ?_) | refine .exit (.miss (.hit ?_)) | refine .exit (.miss (.miss (.hit ?_))) | refine .wr ?_ | refine .lit1 ?_ | fail)
  refine .cond (fun h3 => ?_) (fun h3 => ?_)
  · have h3 : a = ((bytesP bs).length : Int) := by simpa using h3
    repeat' (first | refine .nil ?_ | refine .seq ?_ | refine .region ?_ | refine .move ?_ | refine .assign ?_ | refine .add ?_ | refine .sub ?_ | refine .mul ?_ | refine .conv ?_ | refine .val ?_ | refine .val ?_ (hc := by omega) | refine .skip ?_ | refine .brT ?_ | refine .brF ?_ | refine .condT ?_ | refine .condF ?_ | refine .block ?_ | refine .exit (.hit ?_) | refine .exit (.miss (.hit ?_)) | refine .exit (.miss (.miss (.hit ?_))) | refine .wr ?_ | refine .lit1 ?_ | fail)
    refine .ret ?_
    exact fin_plain rfl (gt_bad (by rw [gtE, if_neg (by omega), if_pos (by omega)]) (by decide)) rfl
  have h3 : ¬ a = ((bytesP bs).length : Int) := by simpa using h3
  have hib : a.toNat < bs.length := by omega
  have hn : gtN bs a = bs[a.toNat] := by rw [gtN, List.getElem?_eq_getElem hib]; rfl
  have hbb := hbs _ (List.getElem_mem hib)
  repeat' (first | refine .nil ?_ | refine .seq ?_ | refine .region ?_ | refine .move ?_ | refine .assign ?_ | refine .add ?_ | refine .sub ?_ | refine .mul ?_ | refine .conv ?_ | refine .val ?_ | refine .val ?_ (hc := by omega) | refine .skip ?_ | refine .brT ?_ | refine .brF ?_ | refine .condT ?_ | refine .condF ?_ | refine .block ?_ | refine .exit (.hit ?_) | refine .exit (.miss (.hit ?_)) | refine .exit (.miss (.miss (.hit ?_))) | refine .wr ?_ | refine .lit1 ?_ | fail)
  refine .val ?_ (hc := by exact ⟨rfl, by omega, by omega⟩)
  refine .loadE (y := .int .u8 bs[a.toNat]) ?_ (hy := by simp [hib])
  rw [← hn] at hbb ⊢
  repeat' (first | refine .nil ?_ | refine .seq ?_ | refine .region ?_ | refine .move ?_ | refine .assign ?_ | refine .add ?_ | refine .sub ?_ | refine .mul ?_ | refine .conv ?_ | refine .val ?_ | refine .val ?_ (hc := by omega) | refine .skip ?_ | refine .brT ?_ | refine .brF ?_ | refine .condT ?_ | refine .condF ?_ | refine .block ?_ | refine .exit (.hit ?_) | refine .exit (.miss (.hit ?_)) | refine .exit (.miss (.miss (.hit ?_))) | refine .wr ?_ | refine .lit1 ?_ | fail)
  refine .cond (fun h4 => ?_) (fun h4 => ?_)
  · have h4 := of_decide_eq_true h4
    repeat' (first | refine .nil ?_ | refine .seq ?_ | refine .region ?_ | refine .move ?_ | refine .assign ?_ | refine .add ?_ | refine .sub ?_ | refine .mul ?_ | refine .conv ?_ | refine .val ?_ | refine .val ?_ (hc := by omega) | refine .skip ?_ | refine .brT ?_ | refine .brF ?_ | refine .condT ?_ | refine .condF ?_ | refine .block ?_ | refine .exit (.hit ?_) | refine .exit (.miss (.hit ?_)) | refine .exit (.miss (.miss (.hit ?_))) | refine .wr ?_ | refine .lit1 ?_ | fail)
    refine .ret ?_
    exact fin_plain rfl (gt_bad (by rw [gtE, if_neg (by omega), if_neg (by omega), if_pos (by omega)]) (by decide)) rfl
  have h4 := of_decide_eq_false h4
  repeat' (first | refine .nil ?_ | refine .seq ?_ | refine .region ?_ | refine .move ?_ | refine .assign ?_ | refine .add ?_ | refine .sub ?_ | refine .mul ?_ | refine .conv ?_ | refine .val ?_ | refine .val ?_ (hc := by omega) | refine .skip ?_ | refine .brT ?_ | refine .brF ?_ | refine .condT ?_ | refine .condF ?_ | refine .block ?_ | refine .exit (.hit ?_) | refine .exit (.miss (.hit ?_)) | refine .exit (.miss (.miss (.hit ?_))) | refine .wr ?_ | refine .lit1 ?_ | fail)
  refine .cond (fun h5 => ?_) (fun h5 => ?_)
  · have h5 := of_decide_eq_true h5
    repeat' (first | refine .nil ?_ | refine .seq ?_ | refine .region ?_ | refine .move ?_ | refine .assign ?_ | refine .add ?_ | refine .sub ?_ | refine .mul ?_ | refine .conv ?_ | refine .val ?_ | refine .val ?_ (hc := by omega) | refine .skip ?_ | refine .brT ?_ | refine .brF ?_ | refine .condT ?_ | refine .condF ?_ | refine .block ?_ | refine .exit (.hit ?_) | refine .exit (.miss (.hit ?_)) | refine .exit (.miss (.miss (.hit ?_))) | refine .wr ?_ | refine .lit1 ?_ | fail)
    refine .ret ?_
    exact fin_plain rfl (gt_bad (by rw [gtE, if_neg (by omega), if_neg (by omega), if_neg (by omega), if_pos (by omega)]) (by decide)) rfl
  have h5 := of_decide_eq_false h5
  repeat' (first | refine .nil ?_ | refine .seq ?_ | refine .region ?_ | refine .move ?_ | refine .assign ?_ | refine .add ?_ | refine .sub ?_ | refine .mul ?_ | refine .conv ?_ | refine .val ?_ | refine .val ?_ (hc := by omega) | refine .skip ?_ | refine .brT ?_ | refine .brF ?_ | refine .condT ?_ | refine .condF ?_ | refine .block ?_ | refine .exit (.hit ?_) | refine .exit (.miss (.hit ?_)) | refine .exit (.miss (.miss (.hit ?_))) | refine .wr ?_ | refine .lit1 ?_ | fail)
  refine .partI ?_ (hr := by omega)
  repeat' (first | refine .nil ?_ | refine .seq ?_ | refine .region ?_ | refine .move ?_ | refine .assign ?_ | refine .add ?_ | refine .sub ?_ | refine .mul ?_ | refine .conv ?_ | refine .val ?_ | refine .val ?_ (hc := by omega) | refine .skip ?_ | refine .brT ?_ | refine .brF ?_ | refine .condT ?_ | refine .condF ?_ | refine .block ?_ | refine .exit (.hit ?_) | refine .exit (.miss (.hit ?_)) | refine .exit (.miss (.miss (.hit ?_))) | refine .wr ?_ | refine .lit1 ?_ | refine .toStr ?_ | fail)
  refine .ret ?_
  exact fin_plain rfl (gt_good (by rw [gtE, if_neg (by omega), if_neg (by omega), if_neg (by omega), if_neg (by omega)])) rfl

set_option maxRecDepth 100000 in
theorem can37 (bs : List Int) (hbs : AreBytes bs) (a : Int) (ha : -9223372036854775808 ≤ a ∧ a ≤ 9223372036854775807) (hb : bs.length ≤ 1000000) :
    Ab.Can Try.prog 37 [.sl 5 .ro (bytesP bs), .int .i64 a] H0 (gtR bs a) H0 := by
  refine can_of tabOK mix Try.call37 Try.func37 rfl (by kernel_rfl) (by show _ ≤ 44; simp) fun hl => ?_
  have hbl : (bytesP bs).length = bs.length := by simp
  repeat' (first | refine .nil ?_ | refine .seq ?_ | refine .region ?_ | refine .move ?_ | refine .assign ?_ | refine .add ?_ | refine .sub ?_ | refine .mul ?_ | refine .conv ?_ | refine .callP (can66 bs hbs a 1 ha (by decide)) ?_ | refine .val ?_ | refine .val ?_ (hc := by omega) | refine .skip ?_ | refine .brT ?_ | refine .brF ?_ | refine .condT ?_ | refine .condF ?_ | refine .block ?_ | refine .exit (.hit ?_) | refine .exit (.miss (.hit ?_)) | refine .exit (.miss (.miss (.hit ?_))) | refine .wr ?_ | refine .lit1 ?_ | fail)
  by_cases hE : getE bs a 1 = 0
  · have hr : ¬ (a < 0 ∨ a > bs.length) ∧ ¬ ((bs.length : Int) - a < (1 : Nat)) := by
      unfold getE at hE
      split at hE
      · cases hE
      · split at hE
        · cases hE
        · exact ⟨by assumption, by assumption⟩
    have hib : a.toNat < bs.length := by omega
    have hn : gtN bs a = bs[a.toNat] := by rw [gtN, List.getElem?_eq_getElem hib]; rfl
    have hbb := hbs _ (List.getElem_mem hib)
    rw [← hn] at hbb
    have hV : getV bs a 1 = gtN bs a := by
      rw [getV, if_pos hE, List.drop_eq_getElem_cons hib, List.take_succ_cons, hn]
      simp [leV]
    have hA : getA bs a 1 = a + 1 := by rw [getA, if_pos hE]; rfl
    rw [hV, hA]
    refine .condF ?_ (hc := congrArg PV.bool (by rw [hE]; rfl))
    repeat' (first | refine .nil ?_ | refine .seq ?_ | refine .region ?_ | refine .move ?_ | refine .assign ?_ | refine .add ?_ | refine .sub ?_ | refine .mul ?_ | refine .conv ?_ | refine .val ?_ | refine .val ?_ (hc := by omega) | refine .skip ?_ | refine .brT ?_ | refine .brF ?_ | refine .condT ?_ | refine .condF ?_ | refine .block ?_ | refine .exit (.hit ?_) | refine .exit (.miss (.hit ?_)) | refine .exit (.miss (.miss (.hit ?_))) | refine .wr ?_ | refine .lit1 ?_ | fail)
    refine .cond (fun h4 => ?_) (fun h4 => ?_)
    · have h4 := of_decide_eq_true h4
      repeat' (first | refine .nil ?_ | refine .seq ?_ | refine .region ?_ | refine .move ?_ | refine .assign ?_ | refine .add ?_ | refine .sub ?_ | refine .mul ?_ | refine .conv ?_ | refine .val ?_ | refine .val ?_ (hc := by omega) | refine .skip ?_ | refine .brT ?_ | refine .brF ?_ | refine .condT ?_ | refine .condF ?_ | refine .block ?_ | refine .exit (.hit ?_) | refine .exit (.miss (.hit ?_)) | refine .exit (.miss (.miss (.hit ?_))) | refine .wr ?_ | refine .lit1 ?_ | fail)
      refine .ret ?_
      exact fin_plain rfl (gt_bad (by rw [gtE, if_neg (by omega), if_neg (by omega), if_pos (by omega)]) (by decide)) rfl
    have h4 := of_decide_eq_false h4
    repeat' (first | refine .nil ?_ | refine .seq ?_ | refine .region ?_ | refine .move ?_ | refine .assign ?_ | refine .add ?_ | refine .sub ?_ | refine .mul ?_ | refine .conv ?_ | refine .val ?_ | refine .val ?_ (hc := by omega) | refine .skip ?_ | refine .brT ?_ | refine .brF ?_ | refine .condT ?_ | refine .condF ?_ | refine .block ?_ | refine .exit (.hit ?_) | refine .exit (.miss (.hit ?_)) | refine .exit (.miss (.miss (.hit ?_))) | refine .wr ?_ | refine .lit1 ?_ | fail)
    have hw : IntKind.u64.wrap (((bytesP bs).length : Int) - (a + 1)) = (bs.length : Int) - a - 1 := by rw [hbl, wrap_u64, Int.emod_eq_of_lt (by omega) (by omega)]; omega
    refine .cond (fun h5 => ?_) (fun h5 => ?_)
    · have h5 := of_decide_eq_true h5
      rw [hw] at h5
      repeat' (first | refine .nil ?_ | refine .seq ?_ | refine .region ?_ | refine .move ?_ | refine .assign ?_ | refine .add ?_ | refine .sub ?_ | refine .mul ?_ | refine .conv ?_ | refine .val ?_ | refine .val ?_ (hc := by omega) | refine .skip ?_ | refine .brT ?_ | refine .brF ?_ | refine .condT ?_ | refine .condF ?_ | refine .block ?_ | refine .exit (.hit ?_) | refine .exit (.miss (.hit ?_)) | refine .exit (.miss (.miss (.hit ?_))) | refine .wr ?_ | refine .lit1 ?_ | fail)
      refine .ret ?_
      exact fin_plain rfl (gt_bad (by rw [gtE, if_neg (by omega), if_neg (by omega), if_neg (by omega), if_pos (by omega)]) (by decide)) rfl
    have h5 := of_decide_eq_false h5
    rw [hw] at h5
    repeat' (first | refine .nil ?_ | refine .seq ?_ | refine .region ?_ | refine .move ?_ | refine .assign ?_ | refine .add ?_ | refine .sub ?_ | refine .mul ?_ | refine .conv ?_ | refine .val ?_ | refine .val ?_ (hc := by omega) | refine .skip ?_ | refine .brT ?_ | refine .brF ?_ | refine .condT ?_ | refine .condF ?_ | refine .block ?_ | refine .exit (.hit ?_) | refine .exit (.miss (.hit ?_)) | refine .exit (.miss (.miss (.hit ?_))) | refine .wr ?_ | refine .lit1 ?_ | fail)
    refine .partI ?_ (hr := by omega)
    repeat' (first | refine .nil ?_ | refine .seq ?_ | refine .region ?_ | refine .move ?_ | refine .assign ?_ | refine .add ?_ | refine .sub ?_ | refine .mul ?_ | refine .conv ?_ | refine .val ?_ | refine .val ?_ (hc := by omega) | refine .skip ?_ | refine .brT ?_ | refine .brF ?_ | refine .condT ?_ | refine .condF ?_ | refine .block ?_ | refine .exit (.hit ?_) | refine .exit (.miss (.hit ?_)) | refine .exit (.miss (.miss (.hit ?_))) | refine .wr ?_ | refine .lit1 ?_ | refine .toStr ?_ | fail)
    refine .ret ?_
    exact fin_plain rfl (gt_good (by rw [gtE, if_neg (by omega), if_neg (by omega), if_neg (by omega), if_neg (by omega)])) rfl
  · refine .condT ?_ (hc := congrArg PV.bool (by simpa using hE))
    repeat' (first | refine .nil ?_ | refine .seq ?_ | refine .region ?_ | refine .move ?_ | refine .assign ?_ | refine .add ?_ | refine .sub ?_ | refine .mul ?_ | refine .conv ?_ | refine .val ?_ | refine .val ?_ (hc := by omega) | refine .skip ?_ | refine .brT ?_ | refine .brF ?_ | refine .condT ?_ | refine .condF ?_ | refine .block ?_ | refine .exit (.hit ?_) | refine .exit (.miss (.hit ?_)) | refine .exit (.miss (.miss (.hit ?_))) | refine .wr ?_ | refine .lit1 ?_ | fail)
    refine .ret ?_
    refine fin_plain rfl (gt_bad ?_ hE) rfl
    unfold getE at hE ⊢
    unfold gtE
    split
    · rfl
    · rename_i h1
      rw [if_neg h1] at hE
      split at hE
      · rename_i h2
        rw [if_pos (by omega), if_pos h2]
      · exact absurd rfl hE

end Go.Proofs.Ytcahjpkmldmjdaa
