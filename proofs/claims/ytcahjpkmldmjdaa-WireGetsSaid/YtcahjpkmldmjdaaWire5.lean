/-
  The walks of what puts and gets texts.
-/
import Derived.Test.YtcahjpkmldmjdaaWire4
import Derived.Test.YtcahjpkmldmjdaaAb25
namespace Go.Proofs.Ytcahjpkmldmjdaa
open Go Ab

def textB (s : ByteArray) : List Int := (s.size : Int) :: strNums s

set_option maxRecDepth 100000 in
theorem can22_long (bs : List Int) (s : ByteArray) (h : 64 < s.size) : Ab.Can Try.prog 22 [.sl 5 .ro (bytesP bs), .str s] H0 (.tup [.sl 5 .full [], .int .i64 3]) H0 := by
  refine can_of tabOK mix Try.call22 Try.func22 rfl (by kernel_rfl) (by show _ ≤ 27; simp) fun hl => ?_
  repeat' (first | refine .nil ?_ | refine .seq ?_ | refine .region ?_ | refine .move ?_ | refine .assign ?_ | refine .add ?_ | refine .sub ?_ | refine .mul ?_ | refine .conv ?_ | refine .val ?_ | refine .val ?_ (hc := by omega) | refine .skip ?_ | refine .brT ?_ | refine .brF ?_ | refine .condT ?_ | refine .condF ?_ | refine .block ?_ | refine .exit (.hit ?_) | refine .exit (.miss (.hit ?_)) | refine .exit (.miss (.miss (.hit ?_))) | refine .wr ?_ | refine .lit1 ?_ | fail)
  refine .condT ?_ (hc := congrArg PV.bool (decide_eq_true (by omega)))
  repeat' (first | refine .nil ?_ | refine .seq ?_ | refine .region ?_ | refine .move ?_ | refine .assign ?_ | refine .add ?_ | refine .sub ?_ | refine .mul ?_ | refine .conv ?_ | refine .val ?_ | refine .val ?_ (hc := by omega) | refine .skip ?_ | refine .brT ?_ | refine .brF ?_ | refine .condT ?_ | refine .condF ?_ | refine .block ?_ | refine .exit (.hit ?_) | refine .exit (.miss (.hit ?_)) | refine .exit (.miss (.miss (.hit ?_))) | refine .wr ?_ | refine .lit1 ?_ | fail)
  refine .ret ?_
  exact fin_plain rfl rfl rfl

set_option maxRecDepth 100000 in
theorem can23_long (bs : List Int) (s : ByteArray) (h : 64 < s.size) : Ab.Can Try.prog 23 [.sl 5 .ro (bytesP bs), .str s] H0 (.tup [.sl 5 .full [], .int .i64 3]) H0 := by
  refine can_of tabOK mix Try.call23 Try.func23 rfl (by kernel_rfl) (by show _ ≤ 16; simp) fun hl => ?_
  repeat' (first | refine .nil ?_ | refine .seq ?_ | refine .region ?_ | refine .move ?_ | refine .assign ?_ | refine .add ?_ | refine .sub ?_ | refine .mul ?_ | refine .conv ?_ | refine .val ?_ | refine .val ?_ (hc := by omega) | refine .skip ?_ | refine .brT ?_ | refine .brF ?_ | refine .condT ?_ | refine .condF ?_ | refine .block ?_ | refine .exit (.hit ?_) | refine .exit (.miss (.hit ?_)) | refine .exit (.miss (.miss (.hit ?_))) | refine .wr ?_ | refine .lit1 ?_ | fail)
  refine .condT ?_ (hc := congrArg PV.bool (decide_eq_true (by omega)))
  repeat' (first | refine .nil ?_ | refine .seq ?_ | refine .region ?_ | refine .move ?_ | refine .assign ?_ | refine .add ?_ | refine .sub ?_ | refine .mul ?_ | refine .conv ?_ | refine .val ?_ | refine .val ?_ (hc := by omega) | refine .skip ?_ | refine .brT ?_ | refine .brF ?_ | refine .condT ?_ | refine .condF ?_ | refine .block ?_ | refine .exit (.hit ?_) | refine .exit (.miss (.hit ?_)) | refine .exit (.miss (.miss (.hit ?_))) | refine .wr ?_ | refine .lit1 ?_ | fail)
  refine .ret ?_
  exact fin_plain rfl rfl rfl

set_option maxRecDepth 100000 in
theorem can22_ok (bs : List Int) (s : ByteArray) (hb : bs.length ≤ 1000000) (h : s.size ≤ 64) : Ab.Can Try.prog 22 [.sl 5 .ro (bytesP bs), .str s] H0 (.tup [.sl 5 (.own (.rrow 0)) (bytesP (bs ++ textB s)), .int .i64 0]) H0 := by
  refine can_of tabOK mix Try.call22 Try.func22 rfl (by kernel_rfl) (by show _ ≤ 27; simp) fun hl => ?_
  have hbl : (bytesP bs).length = bs.length := by simp
  repeat' (first | refine .nil ?_ | refine .seq ?_ | refine .region ?_ | refine .move ?_ | refine .assign ?_ | refine .add ?_ | refine .sub ?_ | refine .mul ?_ | refine .conv ?_ | refine .val ?_ | refine .val ?_ (hc := by omega) | refine .skip ?_ | refine .brT ?_ | refine .brF ?_ | refine .condT ?_ | refine .condF ?_ | refine .block ?_ | refine .exit (.hit ?_) | refine .exit (.miss (.hit ?_)) | refine .exit (.miss (.miss (.hit ?_))) | refine .wr ?_ | refine .lit1 ?_ | fail)
  refine .condF ?_ (hc := congrArg PV.bool (decide_eq_false (by omega)))
  repeat' (first | refine .nil ?_ | refine .seq ?_ | refine .region ?_ | refine .move ?_ | refine .assign ?_ | refine .add ?_ | refine .sub ?_ | refine .mul ?_ | refine .conv ?_ | refine .val ?_ | refine .val ?_ (hc := by omega) | refine .skip ?_ | refine .brT ?_ | refine .brF ?_ | refine .condT ?_ | refine .condF ?_ | refine .block ?_ | refine .exit (.hit ?_) | refine .exit (.miss (.hit ?_)) | refine .exit (.miss (.miss (.hit ?_))) | refine .wr ?_ | refine .lit1 ?_ | fail)
  refine .make0 ?_ (hr := by omega)
  repeat' (first | refine .nil ?_ | refine .seq ?_ | refine .region ?_ | refine .move ?_ | refine .assign ?_ | refine .add ?_ | refine .sub ?_ | refine .mul ?_ | refine .conv ?_ | refine .val ?_ | refine .val ?_ (hc := by omega) | refine .skip ?_ | refine .brT ?_ | refine .brF ?_ | refine .condT ?_ | refine .condF ?_ | refine .block ?_ | refine .exit (.hit ?_) | refine .exit (.miss (.hit ?_)) | refine .exit (.miss (.miss (.hit ?_))) | refine .wr ?_ | refine .lit1 ?_ | fail)
  refine .app ?_ (hn := by simp; omega)
  repeat' (first | refine .nil ?_ | refine .seq ?_ | refine .region ?_ | refine .move ?_ | refine .assign ?_ | refine .add ?_ | refine .sub ?_ | refine .mul ?_ | refine .conv ?_ | refine .val ?_ | refine .val ?_ (hc := by omega) | refine .skip ?_ | refine .brT ?_ | refine .brF ?_ | refine .condT ?_ | refine .condF ?_ | refine .block ?_ | refine .exit (.hit ?_) | refine .exit (.miss (.hit ?_)) | refine .exit (.miss (.miss (.hit ?_))) | refine .wr ?_ | refine .lit1 ?_ | fail)
  refine .freeze (.row 4 4) ?_
  refine .app ?_ (hn := by simp; omega)
  repeat' (first | refine .nil ?_ | refine .seq ?_ | refine .region ?_ | refine .move ?_ | refine .assign ?_ | refine .add ?_ | refine .sub ?_ | refine .mul ?_ | refine .conv ?_ | refine .val ?_ | refine .val ?_ (hc := by omega) | refine .skip ?_ | refine .brT ?_ | refine .brF ?_ | refine .condT ?_ | refine .condF ?_ | refine .block ?_ | refine .exit (.hit ?_) | refine .exit (.miss (.hit ?_)) | refine .exit (.miss (.miss (.hit ?_))) | refine .wr ?_ | refine .lit1 ?_ | fail)
  refine .appS ?_ (hn := by simp; omega)
  repeat' (first | refine .nil ?_ | refine .seq ?_ | refine .region ?_ | refine .move ?_ | refine .assign ?_ | refine .add ?_ | refine .sub ?_ | refine .mul ?_ | refine .conv ?_ | refine .val ?_ | refine .val ?_ (hc := by omega) | refine .skip ?_ | refine .brT ?_ | refine .brF ?_ | refine .condT ?_ | refine .condF ?_ | refine .block ?_ | refine .exit (.hit ?_) | refine .exit (.miss (.hit ?_)) | refine .exit (.miss (.miss (.hit ?_))) | refine .wr ?_ | refine .lit1 ?_ | fail)
  refine .ret ?_
  refine fin_own (.row 4 7) rfl rfl (congrArg (fun x => PV.tup [.sl 5 (.own (.rrow 0)) x, .int .i64 0]) ?_) rfl
  have e : IntKind.wrap .u8 s.size = s.size := by rw [wrap_u8_mod]; omega
  simp [textB, e]

set_option maxRecDepth 100000 in
theorem can23_ok (bs : List Int) (s : ByteArray) (hb : bs.length ≤ 1000000) (h : s.size ≤ 64) : Ab.Can Try.prog 23 [.sl 5 .ro (bytesP bs), .str s] H0 (.tup [.sl 5 (.own (.rrow 0)) (bytesP (bs ++ textB s)), .int .i64 0]) H0 := by
  refine can_of tabOK mix Try.call23 Try.func23 rfl (by kernel_rfl) (by show _ ≤ 16; simp) fun hl => ?_
  repeat' (first | refine .nil ?_ | refine .seq ?_ | refine .region ?_ | refine .move ?_ | refine .assign ?_ | refine .add ?_ | refine .sub ?_ | refine .mul ?_ | refine .conv ?_ | refine .val ?_ | refine .val ?_ (hc := by omega) | refine .skip ?_ | refine .brT ?_ | refine .brF ?_ | refine .condT ?_ | refine .condF ?_ | refine .block ?_ | refine .exit (.hit ?_) | refine .exit (.miss (.hit ?_)) | refine .exit (.miss (.miss (.hit ?_))) | refine .wr ?_ | refine .lit1 ?_ | fail)
  refine .condF ?_ (hc := congrArg PV.bool (decide_eq_false (by omega)))
  repeat' (first | refine .nil ?_ | refine .seq ?_ | refine .region ?_ | refine .move ?_ | refine .assign ?_ | refine .add ?_ | refine .sub ?_ | refine .mul ?_ | refine .conv ?_ | refine .val ?_ | refine .val ?_ (hc := by omega) | refine .skip ?_ | refine .brT ?_ | refine .brF ?_ | refine .condT ?_ | refine .condF ?_ | refine .block ?_ | refine .exit (.hit ?_) | refine .exit (.miss (.hit ?_)) | refine .exit (.miss (.miss (.hit ?_))) | refine .wr ?_ | refine .lit1 ?_ | fail)
  refine .callO' [] (.row 3 4) (can60 bs (IntKind.wrap .u64 s.size) 1 hb (by decide)) ?_
  repeat' (first | refine .nil ?_ | refine .seq ?_ | refine .region ?_ | refine .move ?_ | refine .assign ?_ | refine .add ?_ | refine .sub ?_ | refine .mul ?_ | refine .conv ?_ | refine .val ?_ | refine .val ?_ (hc := by omega) | refine .skip ?_ | refine .brT ?_ | refine .brF ?_ | refine .condT ?_ | refine .condF ?_ | refine .block ?_ | refine .exit (.hit ?_) | refine .exit (.miss (.hit ?_)) | refine .exit (.miss (.miss (.hit ?_))) | refine .wr ?_ | refine .lit1 ?_ | fail)
  refine .appS ?_ (hn := by simp [leN]; omega)
  repeat' (first | refine .nil ?_ | refine .seq ?_ | refine .region ?_ | refine .move ?_ | refine .assign ?_ | refine .add ?_ | refine .sub ?_ | refine .mul ?_ | refine .conv ?_ | refine .val ?_ | refine .val ?_ (hc := by omega) | refine .skip ?_ | refine .brT ?_ | refine .brF ?_ | refine .condT ?_ | refine .condF ?_ | refine .block ?_ | refine .exit (.hit ?_) | refine .exit (.miss (.hit ?_)) | refine .exit (.miss (.miss (.hit ?_))) | refine .wr ?_ | refine .lit1 ?_ | fail)
  refine .ret ?_
  refine fin_own (.row 3 6) rfl rfl (congrArg (fun x => PV.tup [.sl 5 (.own (.rrow 0)) x, .int .i64 0]) ?_) rfl
  have e : IntKind.wrap .u64 s.size % 256 = s.size := by rw [wrap_u64]; omega
  simp [textB, leN, e]

end Go.Proofs.Ytcahjpkmldmjdaa
