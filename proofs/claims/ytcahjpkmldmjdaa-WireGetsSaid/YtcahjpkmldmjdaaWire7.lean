/-
  The law of the gets.
-/
import Derived.Test.YtcahjpkmldmjdaaWire6
import Derived.Test.YtcahjpkmldmjdaaWire2
namespace Go.Proofs.Ytcahjpkmldmjdaa
open Go Ab

set_option maxRecDepth 100000 in
theorem can7 (bs : List Int) (hbs : AreBytes bs) (a : Int) (ha : -9223372036854775808 ≤ a ∧ a ≤ 9223372036854775807) : Ab.Can Try.prog 7 [.sl 5 .ro (bytesP bs), .int .i64 a] H0 (.bool true) H0 := by
  refine can_of tabOK mix Try.call7 Try.func7 rfl (by kernel_rfl) (by show _ ≤ 142; simp) fun hl => ?_
  have hbl : (bytesP bs).length = bs.length := by simp
  repeat' (first | refine .nil ?_ | refine .seq ?_ | refine .region ?_ | refine .move ?_ | refine .assign ?_ | refine .add ?_ | refine .sub ?_ | refine .mul ?_ | refine .conv ?_ | refine .callP (can17) ?_ | refine .val ?_ | refine .val ?_ (hc := by omega) | refine .skip ?_ | refine .brT ?_ | refine .brF ?_ | refine .condT ?_ | refine .condF ?_ | refine .block ?_ | refine .exit (.hit ?_) | refine .exit (.miss (.hit ?_)) | refine .exit (.miss (.miss (.hit ?_))) | refine .wr ?_ | refine .lit1 ?_ | fail)
  refine .cond (fun h => ?_) (fun h => ?_)
  · repeat' (first | refine .nil ?_ | refine .seq ?_ | refine .region ?_ | refine .move ?_ | refine .assign ?_ | refine .add ?_ | refine .sub ?_ | refine .mul ?_ | refine .conv ?_ | refine .val ?_ | refine .val ?_ (hc := by omega) | refine .skip ?_ | refine .brT ?_ | refine .brF ?_ | refine .condT ?_ | refine .condF ?_ | refine .block ?_ | refine .exit (.hit ?_) | refine .exit (.miss (.hit ?_)) | refine .exit (.miss (.miss (.hit ?_))) | refine .wr ?_ | refine .lit1 ?_ | fail)
    refine .ret ?_
    exact fin_plain rfl rfl rfl
  have h := of_decide_eq_false h
  have hb : bs.length ≤ 1000000 := by omega
  repeat' (first | refine .nil ?_ | refine .seq ?_ | refine .region ?_ | refine .move ?_ | refine .assign ?_ | refine .add ?_ | refine .sub ?_ | refine .mul ?_ | refine .conv ?_ | refine .callP (can32 bs hbs a ha) ?_ | refine .callP (can33 bs hbs a ha) ?_ | refine .callP (can30 bs hbs a ha) ?_ | refine .callP (can34 bs hbs a ha) ?_ | refine .val ?_ | refine .val ?_ (hc := by omega) | refine .skip ?_ | refine .brT ?_ | refine .brF ?_ | refine .condT ?_ | refine .condF ?_ | refine .block ?_ | refine .exit (.hit ?_) | refine .exit (.miss (.hit ?_)) | refine .exit (.miss (.miss (.hit ?_))) | refine .wr ?_ | refine .lit1 ?_ | refine .nowG false ?_ (hb := by simp) | fail)
  refine .condF ?_ (hc := congrArg PV.bool (by simp))
  repeat' (first | refine .nil ?_ | refine .seq ?_ | refine .region ?_ | refine .move ?_ | refine .assign ?_ | refine .add ?_ | refine .sub ?_ | refine .mul ?_ | refine .conv ?_ | refine .callP (can35 bs hbs a ha) ?_ | refine .callP (can36 bs hbs a ha) ?_ | refine .callP (can31 bs hbs a ha hb) ?_ | refine .callP (can37 bs hbs a ha hb) ?_ | refine .val ?_ | refine .val ?_ (hc := by omega) | refine .skip ?_ | refine .brT ?_ | refine .brF ?_ | refine .condT ?_ | refine .condF ?_ | refine .block ?_ | refine .exit (.hit ?_) | refine .exit (.miss (.hit ?_)) | refine .exit (.miss (.miss (.hit ?_))) | refine .wr ?_ | refine .lit1 ?_ | refine .nowG true ?_ (hb := by simp) | fail)
  refine .ret ?_
  exact fin_plain rfl (congrArg PV.bool (by simp)) rfl

end Go.Proofs.Ytcahjpkmldmjdaa
