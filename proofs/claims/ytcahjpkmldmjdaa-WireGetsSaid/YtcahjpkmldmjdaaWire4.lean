/-
  The walks of what gets numbers, as the other shelf reckons it, and of the doors to both.
-/
import Derived.Test.YtcahjpkmldmjdaaWire3
namespace Go.Proofs.Ytcahjpkmldmjdaa
open Go Ab

theorem or_shift (v b : Int) (hv : 0 ≤ v ∧ v < 72057594037927936) (hb : 0 ≤ b ∧ b ≤ 255) : bitsI .or .u64 (IntKind.u64.wrap (v * 2 ^ (min (8 : Int).toNat (IntKind.bits .u64)))) (IntKind.u64.wrap b) = b + 256 * v := by
  have e : (2 : Int) ^ (min (8 : Int).toNat (IntKind.bits .u64)) = 256 := by decide
  rw [e, wrap_u64, wrap_u64, Int.emod_eq_of_lt (by omega) (by omega), Int.emod_eq_of_lt (by omega) (by omega)]
  have := bits_join .u64 64 (Nat.le_refl _) wraps_u64' 8 (v * 256) b (by omega) (by show v * 256 % 256 = 0; omega) (by show _ < (18446744073709551616 : Int); omega) hb.1 (by show b < (256 : Int); omega) (by show b < (18446744073709551616 : Int); omega)
  rw [show bitsI .or .u64 (v * 256) b = bits .or .u64 (v * 256) b from rfl, this]
  omega

set_option maxRecDepth 100000 in
theorem can66 (bs : List Int) (hbs : AreBytes bs) (a : Int) (n : Nat) (ha : -9223372036854775808 ≤ a ∧ a ≤ 9223372036854775807) (hn : n ≤ 8) :
    Ab.Can Try.prog 66 [.sl 5 .ro (bytesP bs), .int .i64 a, .int .i64 n] H0 (.tup [.int .u64 (getV bs a n), .int .i64 (getA bs a n), .int .i64 (getE bs a n)]) H0 := by
  refine can_of tabOK mix Try.call66 Try.func66 rfl (by kernel_rfl) (by show _ ≤ 45; simp) fun hl => ?_
  have hl : (bytesP bs).length ≤ 9223372036854775807 := hl _ (.head _) _ (.head _) _ _ _ rfl
  have hbl : (bytesP bs).length = bs.length := by simp
  have bad : ∀ e : Int, getE bs a n = e → e ≠ 0 → (PV.tup [.int .u64 0, .int .i64 0, .int .i64 e]) = .tup [.int .u64 (getV bs a n), .int .i64 (getA bs a n), .int .i64 (getE bs a n)] := by
    intro e he h0
    rw [getV, getA, he, if_neg h0, if_neg h0]
  repeat' (first | refine .nil ?_ | refine .seq ?_ | refine .region ?_ | refine .move ?_ | refine .assign ?_ | refine .add ?_ | refine .sub ?_ | refine .mul ?_ | refine .val ?_ | refine .val ?_ (hc := by omega) | refine .skip ?_ | refine .brT ?_ | refine .brF ?_ | refine .condT ?_ | refine .condF ?_ | refine .block ?_ | refine .exit (.hit ?_) | refine .exit (.miss (.hit ?_)) | refine .exit (.miss (.miss (.hit ?_))) | refine .wr ?_ | refine .lit1 ?_ | fail)
  refine .caseG (fun h => ?_) (fun h => ?_)
  · have h := of_decide_eq_true h
    repeat' (first | refine .nil ?_ | refine .seq ?_ | refine .region ?_ | refine .move ?_ | refine .assign ?_ | refine .add ?_ | refine .sub ?_ | refine .mul ?_ | refine .val ?_ | refine .val ?_ (hc := by omega) | refine .skip ?_ | refine .brT ?_ | refine .brF ?_ | refine .condT ?_ | refine .condF ?_ | refine .block ?_ | refine .exit (.hit ?_) | refine .exit (.miss (.hit ?_)) | refine .exit (.miss (.miss (.hit ?_))) | refine .wr ?_ | refine .lit1 ?_ | fail)
    refine .ret ?_
    exact fin_plain rfl (bad 2 (by rw [getE, if_pos (.inl h)]) (by decide)) rfl
  · have h := of_decide_eq_false h
    repeat' (first | refine .nil ?_ | refine .seq ?_ | refine .region ?_ | refine .move ?_ | refine .assign ?_ | refine .add ?_ | refine .sub ?_ | refine .mul ?_ | refine .val ?_ | refine .val ?_ (hc := by omega) | refine .skip ?_ | refine .brT ?_ | refine .brF ?_ | refine .condT ?_ | refine .condF ?_ | refine .block ?_ | refine .exit (.hit ?_) | refine .exit (.miss (.hit ?_)) | refine .exit (.miss (.miss (.hit ?_))) | refine .wr ?_ | refine .lit1 ?_ | fail)
    refine .cond (fun h2 => ?_) (fun h2 => ?_)
    · have h2 := of_decide_eq_true h2
      repeat' (first | refine .nil ?_ | refine .seq ?_ | refine .region ?_ | refine .move ?_ | refine .assign ?_ | refine .add ?_ | refine .sub ?_ | refine .mul ?_ | refine .val ?_ | refine .val ?_ (hc := by omega) | refine .skip ?_ | refine .brT ?_ | refine .brF ?_ | refine .condT ?_ | refine .condF ?_ | refine .block ?_ | refine .exit (.hit ?_) | refine .exit (.miss (.hit ?_)) | refine .exit (.miss (.miss (.hit ?_))) | refine .wr ?_ | refine .lit1 ?_ | fail)
      refine .ret ?_
      exact fin_plain rfl (bad 2 (by rw [getE, if_pos (.inr (by omega))]) (by decide)) rfl
    · have h2 := of_decide_eq_false h2
      repeat' (first | refine .nil ?_ | refine .seq ?_ | refine .region ?_ | refine .move ?_ | refine .assign ?_ | refine .add ?_ | refine .sub ?_ | refine .mul ?_ | refine .val ?_ | refine .val ?_ (hc := by omega) | refine .skip ?_ | refine .brT ?_ | refine .brF ?_ | refine .condT ?_ | refine .condF ?_ | refine .block ?_ | refine .exit (.hit ?_) | refine .exit (.miss (.hit ?_)) | refine .exit (.miss (.miss (.hit ?_))) | refine .wr ?_ | refine .lit1 ?_ | fail)
      refine .cond (fun h3 => ?_) (fun h3 => ?_)
      · have h3 := of_decide_eq_true h3
        repeat' (first | refine .nil ?_ | refine .seq ?_ | refine .region ?_ | refine .move ?_ | refine .assign ?_ | refine .add ?_ | refine .sub ?_ | refine .mul ?_ | refine .val ?_ | refine .val ?_ (hc := by omega) | refine .skip ?_ | refine .brT ?_ | refine .brF ?_ | refine .condT ?_ | refine .condF ?_ | refine .block ?_ | refine .exit (.hit ?_) | refine .exit (.miss (.hit ?_)) | refine .exit (.miss (.miss (.hit ?_))) | refine .wr ?_ | refine .lit1 ?_ | fail)
        refine .ret ?_
        exact fin_plain rfl (bad 4 (by rw [getE, if_neg (by omega), if_pos (by omega)]) (by decide)) rfl
      · have h3 := of_decide_eq_false h3
        have he : getE bs a n = 0 := by rw [getE, if_neg (by omega), if_neg (by omega)]
        repeat' (first | refine .nil ?_ | refine .seq ?_ | refine .region ?_ | refine .move ?_ | refine .assign ?_ | refine .add ?_ | refine .sub ?_ | refine .mul ?_ | refine .val ?_ | refine .val ?_ (hc := by omega) | refine .skip ?_ | refine .brT ?_ | refine .brF ?_ | refine .condT ?_ | refine .condF ?_ | refine .block ?_ | refine .exit (.hit ?_) | refine .exit (.miss (.hit ?_)) | refine .exit (.miss (.miss (.hit ?_))) | refine .wr ?_ | refine .lit1 ?_ | fail)
        refine .loop (fun m T => ∃ (v j : Int) (q : Nat), T = St.of [(0, .sl 5 .ro (bytesP bs)), (1, .int .i64 a), (2, .int .i64 n), (9, .int .u64 v), (10, .int .i64 j)] [] ∧ q ≤ n ∧ j = (q : Int) - 1 ∧ v = leV ((bs.drop (a.toNat + q)).take (n - q)) ∧ m = q) _ _
          ⟨_, _, n, rfl, Nat.le_refl _, rfl, by simp [leV], rfl⟩ (le_of (.cons rfl (.cons rfl (.cons rfl (.cons rfl (.cons rfl .nil))))) .nil) ?_
        rintro m T ⟨v, j, q, rfl, hq, hj, hv, hm⟩
        repeat' (first | refine .nil ?_ | refine .seq ?_ | refine .region ?_ | refine .move ?_ | refine .assign ?_ | refine .add ?_ | refine .sub ?_ | refine .mul ?_ | refine .val ?_ | refine .val ?_ (hc := by omega) | refine .skip ?_ | refine .brT ?_ | refine .brF ?_ | refine .condT ?_ | refine .condF ?_ | refine .block ?_ | refine .exit (.hit ?_) | refine .exit (.miss (.hit ?_)) | refine .exit (.miss (.miss (.hit ?_))) | refine .wr ?_ | refine .lit1 ?_ | fail)
        refine .cond (fun h4 => ?_) (fun h4 => ?_)
        · have h4 := of_decide_eq_true h4
          obtain ⟨p, rfl⟩ : ∃ p, q = p + 1 := ⟨q - 1, by omega⟩
          have hib : a.toNat + p < bs.length := by omega
          have hx : (a + j).toNat = a.toNat + p := by omega
          have hbb := hbs _ (List.getElem_mem hib)
          repeat' (first | refine .nil ?_ | refine .seq ?_ | refine .region ?_ | refine .move ?_ | refine .assign ?_ | refine .add ?_ | refine .sub ?_ | refine .mul ?_ | refine .val ?_ | refine .val ?_ (hc := by omega) | refine .skip ?_ | refine .brT ?_ | refine .brF ?_ | refine .condT ?_ | refine .condF ?_ | refine .block ?_ | refine .exit (.hit ?_) | refine .exit (.miss (.hit ?_)) | refine .exit (.miss (.miss (.hit ?_))) | refine .wr ?_ | refine .lit1 ?_ | fail)
          refine .val ?_ (hc := by exact ⟨rfl, by omega, by omega⟩)
          refine .loadE (y := .int .u8 bs[a.toNat + p]) ?_ (hy := by rw [hx]; simp [hib])
          repeat' (first | refine .nil ?_ | refine .seq ?_ | refine .region ?_ | refine .move ?_ | refine .assign ?_ | refine .add ?_ | refine .sub ?_ | refine .mul ?_ | refine .val ?_ | refine .val ?_ (hc := by omega) | refine .skip ?_ | refine .brT ?_ | refine .brF ?_ | refine .condT ?_ | refine .condF ?_ | refine .block ?_ | refine .exit (.hit ?_) | refine .exit (.miss (.hit ?_)) | refine .exit (.miss (.miss (.hit ?_))) | refine .wr ?_ | refine .lit1 ?_ | fail)
          have hvr : 0 ≤ v ∧ v < 72057594037927936 := by
            have h5 := leV_range ((bs.drop (a.toNat + (p + 1))).take (n - (p + 1))) fun n hn => hbs n (List.mem_of_mem_drop (List.mem_of_mem_take hn))
            rw [← hv] at h5
            have h6 : ((bs.drop (a.toNat + (p + 1))).take (n - (p + 1))).length ≤ 7 := by simp; omega
            have h7 : (256 : Int) ^ ((bs.drop (a.toNat + (p + 1))).take (n - (p + 1))).length ≤ 256 ^ 7 := by exact_mod_cast Nat.pow_le_pow_right (by decide : 0 < 256) h6
            exact ⟨h5.1, Int.lt_of_lt_of_le h5.2 h7⟩
          refine ⟨_, _, ?_, ⟨_, _, p, rfl, ?_, ?_, ?_, rfl⟩, (le_of (.cons rfl (.cons rfl (.cons rfl (.cons rfl (.cons rfl .nil))))) .nil)⟩
          · omega
          · omega
          · omega
          · refine (or_shift v bs[a.toNat + p] hvr hbb).trans ?_
            rw [show n - p = (n - (p + 1)) + 1 by omega, List.drop_eq_getElem_cons hib, List.take_succ_cons, leV, hv, Nat.add_assoc]
        · have h4 := of_decide_eq_false h4
          have hq0 : q = 0 := by omega
          repeat' (first | refine .nil ?_ | refine .seq ?_ | refine .region ?_ | refine .move ?_ | refine .assign ?_ | refine .add ?_ | refine .sub ?_ | refine .mul ?_ | refine .val ?_ | refine .val ?_ (hc := by omega) | refine .skip ?_ | refine .brT ?_ | refine .brF ?_ | refine .condT ?_ | refine .condF ?_ | refine .block ?_ | refine .exit (.hit ?_) | refine .exit (.miss (.hit ?_)) | refine .exit (.miss (.miss (.hit ?_))) | refine .wr ?_ | refine .lit1 ?_ | fail)
          refine .ret ?_
          refine fin_plain rfl ?_ rfl
          have e1 : v = getV bs a n := by rw [getV, he, if_pos rfl, hv, hq0]; rfl
          have e2 : a + (n : Int) = getA bs a n := by rw [getA, he, if_pos rfl]
          rw [← e1, ← e2, he]
          rfl

set_option maxRecDepth 100000 in
theorem getV_range (bs : List Int) (hbs : AreBytes bs) (a : Int) (n : Nat) : 0 ≤ getV bs a n ∧ getV bs a n < 256 ^ n := by
  unfold getV
  have hp : (0 : Int) < 256 ^ n := Int.pow_pos (by decide)
  split
  · have h5 := leV_range ((bs.drop a.toNat).take n) fun n hn => hbs n (List.mem_of_mem_drop (List.mem_of_mem_take hn))
    have h7 : (256 : Int) ^ ((bs.drop a.toNat).take n).length ≤ 256 ^ n := by exact_mod_cast Nat.pow_le_pow_right (by decide : 0 < 256) (by rw [List.length_take]; exact Nat.min_le_left _ _)
    exact ⟨h5.1, Int.lt_of_lt_of_le h5.2 h7⟩
  · exact ⟨Int.le_refl _, hp⟩

set_option maxRecDepth 100000 in
theorem can30 (bs : List Int) (hbs : AreBytes bs) (a : Int) (ha : -9223372036854775808 ≤ a ∧ a ≤ 9223372036854775807) :
    Ab.Can Try.prog 30 [.sl 5 .ro (bytesP bs), .int .i64 a] H0 (.tup [.int .u32 (getV bs a 4), .int .i64 (getA bs a 4), .int .i64 (getE bs a 4)]) H0 := by
  refine can_of tabOK mix Try.call30 Try.func30 rfl (by kernel_rfl) (by show _ ≤ 13; simp) fun hl => ?_
  repeat' (first | refine .nil ?_ | refine .seq ?_ | refine .region ?_ | refine .move ?_ | refine .assign ?_ | refine .add ?_ | refine .sub ?_ | refine .mul ?_ | refine .callP (can64 bs hbs a 4 ha (by decide)) ?_ | refine .val ?_ | refine .val ?_ (hc := by omega) | refine .skip ?_ | refine .brT ?_ | refine .brF ?_ | refine .condT ?_ | refine .condF ?_ | refine .block ?_ | refine .exit (.hit ?_) | refine .exit (.miss (.hit ?_)) | refine .exit (.miss (.miss (.hit ?_))) | refine .wr ?_ | refine .lit1 ?_ | fail)
  refine .ret ?_
  exact fin_plain rfl rfl rfl

set_option maxRecDepth 100000 in
theorem can32 (bs : List Int) (hbs : AreBytes bs) (a : Int) (ha : -9223372036854775808 ≤ a ∧ a ≤ 9223372036854775807) :
    Ab.Can Try.prog 32 [.sl 5 .ro (bytesP bs), .int .i64 a] H0 (.tup [.int .u16 (getV bs a 2), .int .i64 (getA bs a 2), .int .i64 (getE bs a 2)]) H0 := by
  refine can_of tabOK mix Try.call32 Try.func32 rfl (by kernel_rfl) (by show _ ≤ 13; simp) fun hl => ?_
  repeat' (first | refine .nil ?_ | refine .seq ?_ | refine .region ?_ | refine .move ?_ | refine .assign ?_ | refine .add ?_ | refine .sub ?_ | refine .mul ?_ | refine .callP (can65 bs hbs a 2 ha (by decide)) ?_ | refine .val ?_ | refine .val ?_ (hc := by omega) | refine .skip ?_ | refine .brT ?_ | refine .brF ?_ | refine .condT ?_ | refine .condF ?_ | refine .block ?_ | refine .exit (.hit ?_) | refine .exit (.miss (.hit ?_)) | refine .exit (.miss (.miss (.hit ?_))) | refine .wr ?_ | refine .lit1 ?_ | fail)
  refine .ret ?_
  exact fin_plain rfl rfl rfl

set_option maxRecDepth 100000 in
theorem can35 (bs : List Int) (hbs : AreBytes bs) (a : Int) (ha : -9223372036854775808 ≤ a ∧ a ≤ 9223372036854775807) :
    Ab.Can Try.prog 35 [.sl 5 .ro (bytesP bs), .int .i64 a] H0 (.tup [.int .u64 (getV bs a 8), .int .i64 (getA bs a 8), .int .i64 (getE bs a 8)]) H0 := by
  refine can_of tabOK mix Try.call35 Try.func35 rfl (by kernel_rfl) (by show _ ≤ 13; simp) fun hl => ?_
  repeat' (first | refine .nil ?_ | refine .seq ?_ | refine .region ?_ | refine .move ?_ | refine .assign ?_ | refine .add ?_ | refine .sub ?_ | refine .mul ?_ | refine .callP (can67 bs hbs a 8 ha (by decide)) ?_ | refine .val ?_ | refine .val ?_ (hc := by omega) | refine .skip ?_ | refine .brT ?_ | refine .brF ?_ | refine .condT ?_ | refine .condF ?_ | refine .block ?_ | refine .exit (.hit ?_) | refine .exit (.miss (.hit ?_)) | refine .exit (.miss (.miss (.hit ?_))) | refine .wr ?_ | refine .lit1 ?_ | fail)
  refine .ret ?_
  exact fin_plain rfl rfl rfl

set_option maxRecDepth 100000 in
theorem can36 (bs : List Int) (hbs : AreBytes bs) (a : Int) (ha : -9223372036854775808 ≤ a ∧ a ≤ 9223372036854775807) :
    Ab.Can Try.prog 36 [.sl 5 .ro (bytesP bs), .int .i64 a] H0 (.tup [.int .u64 (getV bs a 8), .int .i64 (getA bs a 8), .int .i64 (getE bs a 8)]) H0 := by
  refine can_of tabOK mix Try.call36 Try.func36 rfl (by kernel_rfl) (by show _ ≤ 13; simp) fun hl => ?_
  repeat' (first | refine .nil ?_ | refine .seq ?_ | refine .region ?_ | refine .move ?_ | refine .assign ?_ | refine .add ?_ | refine .sub ?_ | refine .mul ?_ | refine .callP (can66 bs hbs a 8 ha (by decide)) ?_ | refine .val ?_ | refine .val ?_ (hc := by omega) | refine .skip ?_ | refine .brT ?_ | refine .brF ?_ | refine .condT ?_ | refine .condF ?_ | refine .block ?_ | refine .exit (.hit ?_) | refine .exit (.miss (.hit ?_)) | refine .exit (.miss (.miss (.hit ?_))) | refine .wr ?_ | refine .lit1 ?_ | fail)
  refine .ret ?_
  exact fin_plain rfl rfl rfl

set_option maxRecDepth 100000 in
theorem can33 (bs : List Int) (hbs : AreBytes bs) (a : Int) (ha : -9223372036854775808 ≤ a ∧ a ≤ 9223372036854775807) :
    Ab.Can Try.prog 33 [.sl 5 .ro (bytesP bs), .int .i64 a] H0 (.tup [.int .u16 (getV bs a 2), .int .i64 (getA bs a 2), .int .i64 (getE bs a 2)]) H0 := by
  refine can_of tabOK mix Try.call33 Try.func33 rfl (by kernel_rfl) (by show _ ≤ 21; simp) fun hl => ?_
  repeat' (first | refine .nil ?_ | refine .seq ?_ | refine .region ?_ | refine .move ?_ | refine .assign ?_ | refine .add ?_ | refine .sub ?_ | refine .mul ?_ | refine .callP (can66 bs hbs a 2 ha (by decide)) ?_ | refine .val ?_ | refine .val ?_ (hc := by omega) | refine .skip ?_ | refine .brT ?_ | refine .brF ?_ | refine .condT ?_ | refine .condF ?_ | refine .block ?_ | refine .exit (.hit ?_) | refine .exit (.miss (.hit ?_)) | refine .exit (.miss (.miss (.hit ?_))) | refine .wr ?_ | refine .lit1 ?_ | fail)
  refine .ret ?_
  refine fin_plain rfl (congrArg (fun x => PV.tup [.int .u16 x, .int .i64 (getA bs a 2), .int .i64 (getE bs a 2)]) ?_) rfl
  have := getV_range bs hbs a 2
  exact wraps_u16' _ this.1 this.2

set_option maxRecDepth 100000 in
theorem can34 (bs : List Int) (hbs : AreBytes bs) (a : Int) (ha : -9223372036854775808 ≤ a ∧ a ≤ 9223372036854775807) :
    Ab.Can Try.prog 34 [.sl 5 .ro (bytesP bs), .int .i64 a] H0 (.tup [.int .u32 (getV bs a 4), .int .i64 (getA bs a 4), .int .i64 (getE bs a 4)]) H0 := by
  refine can_of tabOK mix Try.call34 Try.func34 rfl (by kernel_rfl) (by show _ ≤ 21; simp) fun hl => ?_
  repeat' (first | refine .nil ?_ | refine .seq ?_ | refine .region ?_ | refine .move ?_ | refine .assign ?_ | refine .add ?_ | refine .sub ?_ | refine .mul ?_ | refine .callP (can66 bs hbs a 4 ha (by decide)) ?_ | refine .val ?_ | refine .val ?_ (hc := by omega) | refine .skip ?_ | refine .brT ?_ | refine .brF ?_ | refine .condT ?_ | refine .condF ?_ | refine .block ?_ | refine .exit (.hit ?_) | refine .exit (.miss (.hit ?_)) | refine .exit (.miss (.miss (.hit ?_))) | refine .wr ?_ | refine .lit1 ?_ | fail)
  refine .ret ?_
  refine fin_plain rfl (congrArg (fun x => PV.tup [.int .u32 x, .int .i64 (getA bs a 4), .int .i64 (getE bs a 4)]) ?_) rfl
  have := getV_range bs hbs a 4
  exact wraps_u32' _ this.1 this.2

end Go.Proofs.Ytcahjpkmldmjdaa
