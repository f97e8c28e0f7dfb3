/-
  The walks of the sums: crc and hash, as both shelves reckon them.
-/
import Derived.Test.YtcahjpkmldmjdaaTab
import Derived.Test.YtcahjpkmldmjdaaAb21
namespace Go.Proofs.Ytcahjpkmldmjdaa
open Go Ab

def hashStep (c b : Int) : Int := IntKind.wrap .u64 (bitsI .xor .u64 c (IntKind.wrap .u64 b) * 1099511628211)
def hashOf (bs : List Int) : Int := bs.foldl hashStep 14695981039346656037

abbrev bytesP (bs : List Int) : List PV := bs.map (PV.int .u8)

def shr (k : IntKind) (a b : Int) : Int := a.fdiv (2 ^ (min b.toNat k.bits))
def crcBit (c : Int) : Int := if bitsI .and .u32 c 1 == 1 then bitsI .xor .u32 (shr .u32 c 1) 3988292384 else shr .u32 c 1
def crcN : Nat → Int → Int
  | 0, c => c
  | n + 1, c => crcN n (crcBit c)
def crcStep (c b : Int) : Int := crcN 8 (bitsI .xor .u32 c (IntKind.wrap .u32 b))
def crcAll (bs : List Int) : Int := bs.foldl crcStep 4294967295
def crcOf (bs : List Int) : Int := bitsI .xor .u32 (if IntKind.u32.signed then -1 else IntKind.u32.max) (crcAll bs)

theorem foldl_take_succ {f : Int → Int → Int} {c : Int} {bs : List Int} {i : Nat} (h : i < bs.length) : (bs.take (i + 1)).foldl f c = f ((bs.take i).foldl f c) bs[i] := by
  simp only [List.take_add_one, List.getElem?_eq_getElem h, List.foldl_append, Option.toList, List.foldl]

set_option maxRecDepth 100000 in
theorem can20 (bs : List Int) : Ab.Can Try.prog 20 [.sl 5 .ro (bytesP bs)] H0 (.int .u64 (hashOf bs)) H0 := by
  refine can_of tabOK mix Try.call20 Try.func20 rfl (by kernel_rfl) (by show _ ≤ 20; simp) fun hl => ?_
  have hl : (bytesP bs).length ≤ 9223372036854775807 := hl _ (.head _) _ (.head _) _ _ _ rfl
  repeat' (first | refine .nil ?_ | refine .seq ?_ | refine .region ?_ | refine .move ?_ | refine .assign ?_ | refine .add ?_ | refine .sub ?_ | refine .mul ?_ | refine .val ?_ | refine .val ?_ (hc := by omega) | refine .skip ?_ | refine .brT ?_ | refine .brF ?_ | refine .condT ?_ | refine .condF ?_ | refine .block ?_ | refine .exit (.hit ?_) | refine .exit (.miss (.hit ?_)) | refine .exit (.miss (.miss (.hit ?_))) | refine .wr ?_ | refine .lit1 ?_ | fail)
  refine Wp.loop (fun m T => ∃ (c : Int) (i : Nat), T = St.of [(3, .int .u64 c), (6, .sl 5 .ro (bytesP bs)), (7, .int .i64 (bytesP bs).length), (8, .int .i64 i)] [] ∧ i ≤ (bytesP bs).length ∧ c = hashOf (bs.take i) ∧ m = (bytesP bs).length - i) _ _
    ⟨_, 0, rfl, Nat.zero_le _, rfl, rfl⟩ (le_of (.cons rfl (.cons rfl (.cons rfl (.cons rfl .nil)))) .nil) ?_
  rintro m T ⟨c, i, rfl, hi, hc, hm⟩
  repeat' (first | refine .nil ?_ | refine .seq ?_ | refine .region ?_ | refine .move ?_ | refine .assign ?_ | refine .add ?_ | refine .sub ?_ | refine .mul ?_ | refine .val ?_ | refine .val ?_ (hc := by omega) | refine .skip ?_ | refine .brT ?_ | refine .brF ?_ | refine .condT ?_ | refine .condF ?_ | refine .block ?_ | refine .exit (.hit ?_) | refine .exit (.miss (.hit ?_)) | refine .exit (.miss (.miss (.hit ?_))) | refine .wr ?_ | refine .lit1 ?_ | fail)
  refine .cond (fun h => ?_) (fun h => ?_)
  · have h := of_decide_eq_true h
    have hil : i < (bytesP bs).length := by omega
    have hib : i < bs.length := by simpa using hil
    repeat' (first | refine .nil ?_ | refine .seq ?_ | refine .region ?_ | refine .move ?_ | refine .assign ?_ | refine .add ?_ | refine .sub ?_ | refine .mul ?_ | refine .val ?_ | refine .val ?_ (hc := by omega) | refine .skip ?_ | refine .brT ?_ | refine .brF ?_ | refine .condT ?_ | refine .condF ?_ | refine .block ?_ | refine .exit (.hit ?_) | refine .exit (.miss (.hit ?_)) | refine .exit (.miss (.miss (.hit ?_))) | refine .wr ?_ | refine .lit1 ?_ | fail)
    refine .val ?_ (hc := by exact ⟨rfl, by omega, by omega⟩)
    refine .loadE (y := .int .u8 bs[i]) ?_ (hy := by simp [hib])
    repeat' (first | refine .nil ?_ | refine .seq ?_ | refine .region ?_ | refine .move ?_ | refine .assign ?_ | refine .add ?_ | refine .sub ?_ | refine .mul ?_ | refine .val ?_ | refine .val ?_ (hc := by omega) | refine .skip ?_ | refine .brT ?_ | refine .brF ?_ | refine .condT ?_ | refine .condF ?_ | refine .block ?_ | refine .exit (.hit ?_) | refine .exit (.miss (.hit ?_)) | refine .exit (.miss (.miss (.hit ?_))) | refine .wr ?_ | refine .lit1 ?_ | fail)
    refine ⟨_, _, ?_, ⟨_, i + 1, rfl, ?_, ?_, rfl⟩, (le_of (.cons rfl (.cons rfl (.cons rfl (.cons rfl .nil)))) .nil)⟩
    · omega
    · omega
    · subst hc
      rw [hashOf, hashOf, foldl_take_succ hib]
      rfl
  · have h := of_decide_eq_false h
    have hil : i = (bytesP bs).length := by omega
    repeat' (first | refine .nil ?_ | refine .seq ?_ | refine .region ?_ | refine .move ?_ | refine .assign ?_ | refine .add ?_ | refine .sub ?_ | refine .mul ?_ | refine .val ?_ | refine .val ?_ (hc := by omega) | refine .skip ?_ | refine .brT ?_ | refine .brF ?_ | refine .condT ?_ | refine .condF ?_ | refine .block ?_ | refine .exit (.hit ?_) | refine .exit (.miss (.hit ?_)) | refine .exit (.miss (.miss (.hit ?_))) | refine .wr ?_ | refine .lit1 ?_ | fail)
    refine Wp.ret ?_
    refine fin_plain rfl (congrArg (PV.int .u64) ?_) rfl
    rw [hc, hil]
    simp

set_option maxRecDepth 100000 in
theorem can21 (bs : List Int) : Ab.Can Try.prog 21 [.sl 5 .ro (bytesP bs)] H0 (.int .u64 (hashOf bs)) H0 := by
  refine can_of tabOK mix Try.call21 Try.func21 rfl (by kernel_rfl) (by show _ ≤ 19; simp) fun hl => ?_
  have hl : (bytesP bs).length ≤ 9223372036854775807 := hl _ (.head _) _ (.head _) _ _ _ rfl
  repeat' (first | refine .nil ?_ | refine .seq ?_ | refine .region ?_ | refine .move ?_ | refine .assign ?_ | refine .add ?_ | refine .sub ?_ | refine .mul ?_ | refine .val ?_ | refine .val ?_ (hc := by omega) | refine .skip ?_ | refine .brT ?_ | refine .brF ?_ | refine .condT ?_ | refine .condF ?_ | refine .block ?_ | refine .exit (.hit ?_) | refine .exit (.miss (.hit ?_)) | refine .exit (.miss (.miss (.hit ?_))) | refine .wr ?_ | refine .lit1 ?_ | fail)
  refine Wp.loop (fun m T => ∃ (c : Int) (i : Nat), T = St.of [(3, .int .u64 c), (6, .sl 5 .ro (bytesP bs)), (7, .int .i64 (bytesP bs).length), (8, .int .i64 i)] [] ∧ i ≤ (bytesP bs).length ∧ c = hashOf (bs.take i) ∧ m = (bytesP bs).length - i) _ _
    ⟨_, 0, rfl, Nat.zero_le _, rfl, rfl⟩ (le_of (.cons rfl (.cons rfl (.cons rfl (.cons rfl .nil)))) .nil) ?_
  rintro m T ⟨c, i, rfl, hi, hc, hm⟩
  repeat' (first | refine .nil ?_ | refine .seq ?_ | refine .region ?_ | refine .move ?_ | refine .assign ?_ | refine .add ?_ | refine .sub ?_ | refine .mul ?_ | refine .val ?_ | refine .val ?_ (hc := by omega) | refine .skip ?_ | refine .brT ?_ | refine .brF ?_ | refine .condT ?_ | refine .condF ?_ | refine .block ?_ | refine .exit (.hit ?_) | refine .exit (.miss (.hit ?_)) | refine .exit (.miss (.miss (.hit ?_))) | refine .wr ?_ | refine .lit1 ?_ | fail)
  refine .cond (fun h => ?_) (fun h => ?_)
  · have h := of_decide_eq_true h
    have hil : i < (bytesP bs).length := by omega
    have hib : i < bs.length := by simpa using hil
    repeat' (first | refine .nil ?_ | refine .seq ?_ | refine .region ?_ | refine .move ?_ | refine .assign ?_ | refine .add ?_ | refine .sub ?_ | refine .mul ?_ | refine .val ?_ | refine .val ?_ (hc := by omega) | refine .skip ?_ | refine .brT ?_ | refine .brF ?_ | refine .condT ?_ | refine .condF ?_ | refine .block ?_ | refine .exit (.hit ?_) | refine .exit (.miss (.hit ?_)) | refine .exit (.miss (.miss (.hit ?_))) | refine .wr ?_ | refine .lit1 ?_ | fail)
    refine .val ?_ (hc := by exact ⟨rfl, by omega, by omega⟩)
    refine .loadE (y := .int .u8 bs[i]) ?_ (hy := by simp [hib])
    repeat' (first | refine .nil ?_ | refine .seq ?_ | refine .region ?_ | refine .move ?_ | refine .assign ?_ | refine .add ?_ | refine .sub ?_ | refine .mul ?_ | refine .val ?_ | refine .val ?_ (hc := by omega) | refine .skip ?_ | refine .brT ?_ | refine .brF ?_ | refine .condT ?_ | refine .condF ?_ | refine .block ?_ | refine .exit (.hit ?_) | refine .exit (.miss (.hit ?_)) | refine .exit (.miss (.miss (.hit ?_))) | refine .wr ?_ | refine .lit1 ?_ | fail)
    refine ⟨_, _, ?_, ⟨_, i + 1, rfl, ?_, ?_, rfl⟩, (le_of (.cons rfl (.cons rfl (.cons rfl (.cons rfl .nil)))) .nil)⟩
    · omega
    · omega
    · subst hc
      rw [hashOf, hashOf, foldl_take_succ hib]
      rfl
  · have h := of_decide_eq_false h
    have hil : i = (bytesP bs).length := by omega
    repeat' (first | refine .nil ?_ | refine .seq ?_ | refine .region ?_ | refine .move ?_ | refine .assign ?_ | refine .add ?_ | refine .sub ?_ | refine .mul ?_ | refine .val ?_ | refine .val ?_ (hc := by omega) | refine .skip ?_ | refine .brT ?_ | refine .brF ?_ | refine .condT ?_ | refine .condF ?_ | refine .block ?_ | refine .exit (.hit ?_) | refine .exit (.miss (.hit ?_)) | refine .exit (.miss (.miss (.hit ?_))) | refine .wr ?_ | refine .lit1 ?_ | fail)
    refine Wp.ret ?_
    refine fin_plain rfl (congrArg (PV.int .u64) ?_) rfl
    rw [hc, hil]
    simp

set_option maxRecDepth 100000 in
theorem can18 (bs : List Int) : Ab.Can Try.prog 18 [.sl 5 .ro (bytesP bs)] H0 (.int .u32 (crcOf bs)) H0 := by
  refine can_of tabOK mix Try.call18 Try.func18 rfl (by kernel_rfl) (by show _ ≤ 31; simp) fun hl => ?_
  have hl : (bytesP bs).length ≤ 9223372036854775807 := hl _ (.head _) _ (.head _) _ _ _ rfl
  repeat' (first | refine .nil ?_ | refine .seq ?_ | refine .region ?_ | refine .move ?_ | refine .assign ?_ | refine .add ?_ | refine .sub ?_ | refine .mul ?_ | refine .val ?_ | refine .val ?_ (hc := by omega) | refine .skip ?_ | refine .brT ?_ | refine .brF ?_ | refine .condT ?_ | refine .condF ?_ | refine .block ?_ | refine .exit (.hit ?_) | refine .exit (.miss (.hit ?_)) | refine .exit (.miss (.miss (.hit ?_))) | refine .wr ?_ | refine .lit1 ?_ | fail)
  refine Wp.loop (fun m T => ∃ (c : Int) (i : Nat), T = St.of [(3, .int .u32 c), (7, .sl 5 .ro (bytesP bs)), (8, .int .i64 (bytesP bs).length), (9, .int .i64 i)] [] ∧ i ≤ (bytesP bs).length ∧ c = crcAll (bs.take i) ∧ m = (bytesP bs).length - i) _ _
    ⟨_, 0, rfl, Nat.zero_le _, rfl, rfl⟩ (le_of (.cons rfl (.cons rfl (.cons rfl (.cons rfl .nil)))) .nil) ?_
  rintro m T ⟨c, i, rfl, hi, hc, hm⟩
  repeat' (first | refine .nil ?_ | refine .seq ?_ | refine .region ?_ | refine .move ?_ | refine .assign ?_ | refine .add ?_ | refine .sub ?_ | refine .mul ?_ | refine .val ?_ | refine .val ?_ (hc := by omega) | refine .skip ?_ | refine .brT ?_ | refine .brF ?_ | refine .condT ?_ | refine .condF ?_ | refine .block ?_ | refine .exit (.hit ?_) | refine .exit (.miss (.hit ?_)) | refine .exit (.miss (.miss (.hit ?_))) | refine .wr ?_ | refine .lit1 ?_ | fail)
  refine .cond (fun h => ?_) (fun h => ?_)
  · have h := of_decide_eq_true h
    have hil : i < (bytesP bs).length := by omega
    have hib : i < bs.length := by simpa using hil
    repeat' (first | refine .nil ?_ | refine .seq ?_ | refine .region ?_ | refine .move ?_ | refine .assign ?_ | refine .add ?_ | refine .sub ?_ | refine .mul ?_ | refine .val ?_ | refine .val ?_ (hc := by omega) | refine .skip ?_ | refine .brT ?_ | refine .brF ?_ | refine .condT ?_ | refine .condF ?_ | refine .block ?_ | refine .exit (.hit ?_) | refine .exit (.miss (.hit ?_)) | refine .exit (.miss (.miss (.hit ?_))) | refine .wr ?_ | refine .lit1 ?_ | fail)
    refine .val ?_ (hc := by exact ⟨rfl, by omega, by omega⟩)
    refine .loadE (y := .int .u8 bs[i]) ?_ (hy := by simp [hib])
    repeat' (first | refine .nil ?_ | refine .seq ?_ | refine .region ?_ | refine .move ?_ | refine .assign ?_ | refine .add ?_ | refine .sub ?_ | refine .mul ?_ | refine .val ?_ | refine .val ?_ (hc := by omega) | refine .skip ?_ | refine .brT ?_ | refine .brF ?_ | refine .condT ?_ | refine .condF ?_ | refine .block ?_ | refine .exit (.hit ?_) | refine .exit (.miss (.hit ?_)) | refine .exit (.miss (.miss (.hit ?_))) | refine .wr ?_ | refine .lit1 ?_ | fail)
    refine Wp.loop (fun m T => ∃ (x : Int) (j : Nat), T = St.of [(3, .int .u32 x), (7, .sl 5 .ro (bytesP bs)), (8, .int .i64 (bytesP bs).length), (9, .int .i64 i), (17, .int .i64 j)] [] ∧ j ≤ 8 ∧ crcN (8 - j) x = crcStep c bs[i] ∧ m = 8 - j) _ _
      ⟨(bitsI .xor .u32 c (IntKind.wrap .u32 bs[i])), 0, rfl, Nat.zero_le _, rfl, rfl⟩ (le_of (.cons rfl (.cons rfl (.cons rfl (.cons rfl (.cons rfl .nil))))) .nil) ?_
    rintro m' T ⟨x, j, rfl, hj, hx, hm'⟩
    repeat' (first | refine .nil ?_ | refine .seq ?_ | refine .region ?_ | refine .move ?_ | refine .assign ?_ | refine .add ?_ | refine .sub ?_ | refine .mul ?_ | refine .val ?_ | refine .val ?_ (hc := by omega) | refine .skip ?_ | refine .brT ?_ | refine .brF ?_ | refine .condT ?_ | refine .condF ?_ | refine .block ?_ | refine .exit (.hit ?_) | refine .exit (.miss (.hit ?_)) | refine .exit (.miss (.miss (.hit ?_))) | refine .wr ?_ | refine .lit1 ?_ | fail)
    refine .cond (fun h' => ?_) (fun h' => ?_)
    · have h' := of_decide_eq_true h'
      obtain ⟨q, hq⟩ : ∃ q, 8 - j = q + 1 := ⟨7 - j, by omega⟩
      rw [hq] at hx
      repeat' (first | refine .nil ?_ | refine .seq ?_ | refine .region ?_ | refine .move ?_ | refine .assign ?_ | refine .add ?_ | refine .sub ?_ | refine .mul ?_ | refine .val ?_ | refine .val ?_ (hc := by omega) | refine .skip ?_ | refine .brT ?_ | refine .brF ?_ | refine .condT ?_ | refine .condF ?_ | refine .block ?_ | refine .exit (.hit ?_) | refine .exit (.miss (.hit ?_)) | refine .exit (.miss (.miss (.hit ?_))) | refine .wr ?_ | refine .lit1 ?_ | fail)
      refine .cond (fun hb => ?_) (fun hb => ?_)
      · repeat' (first | refine .nil ?_ | refine .seq ?_ | refine .region ?_ | refine .move ?_ | refine .assign ?_ | refine .add ?_ | refine .sub ?_ | refine .mul ?_ | refine .val ?_ | refine .val ?_ (hc := by omega) | refine .skip ?_ | refine .brT ?_ | refine .brF ?_ | refine .condT ?_ | refine .condF ?_ | refine .block ?_ | refine .exit (.hit ?_) | refine .exit (.miss (.hit ?_)) | refine .exit (.miss (.miss (.hit ?_))) | refine .wr ?_ | refine .lit1 ?_ | fail)
        refine ⟨_, _, ?_, ⟨_, j + 1, rfl, ?_, ?_, rfl⟩, (le_of (.cons rfl (.cons rfl (.cons rfl (.cons rfl (.cons rfl .nil))))) .nil)⟩
        · omega
        · omega
        · rw [← hx, show 8 - (j + 1) = q by omega, crcN, crcBit, if_pos hb]
          rfl
      · repeat' (first | refine .nil ?_ | refine .seq ?_ | refine .region ?_ | refine .move ?_ | refine .assign ?_ | refine .add ?_ | refine .sub ?_ | refine .mul ?_ | refine .val ?_ | refine .val ?_ (hc := by omega) | refine .skip ?_ | refine .brT ?_ | refine .brF ?_ | refine .condT ?_ | refine .condF ?_ | refine .block ?_ | refine .exit (.hit ?_) | refine .exit (.miss (.hit ?_)) | refine .exit (.miss (.miss (.hit ?_))) | refine .wr ?_ | refine .lit1 ?_ | fail)
        refine ⟨_, _, ?_, ⟨_, j + 1, rfl, ?_, ?_, rfl⟩, (le_of (.cons rfl (.cons rfl (.cons rfl (.cons rfl (.cons rfl .nil))))) .nil)⟩
        · omega
        · omega
        · rw [← hx, show 8 - (j + 1) = q by omega, crcN, crcBit, if_neg (by rw [show (bitsI .and .u32 x 1 == 1) = false from hb]; simp)]
          rfl
    · have h' := of_decide_eq_false h'
      repeat' (first | refine .nil ?_ | refine .seq ?_ | refine .region ?_ | refine .move ?_ | refine .assign ?_ | refine .add ?_ | refine .sub ?_ | refine .mul ?_ | refine .val ?_ | refine .val ?_ (hc := by omega) | refine .skip ?_ | refine .brT ?_ | refine .brF ?_ | refine .condT ?_ | refine .condF ?_ | refine .block ?_ | refine .exit (.hit ?_) | refine .exit (.miss (.hit ?_)) | refine .exit (.miss (.miss (.hit ?_))) | refine .wr ?_ | refine .lit1 ?_ | fail)
      refine ⟨_, _, ?_, ⟨_, i + 1, rfl, ?_, ?_, rfl⟩, (le_of (.cons rfl (.cons rfl (.cons rfl (.cons rfl .nil)))) .nil)⟩
      · omega
      · omega
      · rw [show 8 - j = 0 by omega, crcN] at hx
        rw [hx, hc, crcAll, crcAll, foldl_take_succ hib]
  · have h := of_decide_eq_false h
    have hil : i = (bytesP bs).length := by omega
    repeat' (first | refine .nil ?_ | refine .seq ?_ | refine .region ?_ | refine .move ?_ | refine .assign ?_ | refine .add ?_ | refine .sub ?_ | refine .mul ?_ | refine .val ?_ | refine .val ?_ (hc := by omega) | refine .skip ?_ | refine .brT ?_ | refine .brF ?_ | refine .condT ?_ | refine .condF ?_ | refine .block ?_ | refine .exit (.hit ?_) | refine .exit (.miss (.hit ?_)) | refine .exit (.miss (.miss (.hit ?_))) | refine .wr ?_ | refine .lit1 ?_ | fail)
    refine Wp.ret ?_
    refine fin_plain rfl (congrArg (PV.int .u32) ?_) rfl
    rw [hc, hil]
    simp [crcOf]

set_option maxRecDepth 100000 in
theorem can19 (bs : List Int) : Ab.Can Try.prog 19 [.sl 5 .ro (bytesP bs)] H0 (.int .u32 (crcOf bs)) H0 := by
  refine can_of tabOK mix Try.call19 Try.func19 rfl (by kernel_rfl) (by show _ ≤ 33; simp) fun hl => ?_
  have hl : (bytesP bs).length ≤ 9223372036854775807 := hl _ (.head _) _ (.head _) _ _ _ rfl
  repeat' (first | refine .nil ?_ | refine .seq ?_ | refine .region ?_ | refine .move ?_ | refine .assign ?_ | refine .add ?_ | refine .sub ?_ | refine .mul ?_ | refine .val ?_ | refine .val ?_ (hc := by omega) | refine .skip ?_ | refine .brT ?_ | refine .brF ?_ | refine .condT ?_ | refine .condF ?_ | refine .block ?_ | refine .exit (.hit ?_) | refine .exit (.miss (.hit ?_)) | refine .exit (.miss (.miss (.hit ?_))) | refine .wr ?_ | refine .lit1 ?_ | fail)
  refine Wp.loop (fun m T => ∃ (c : Int) (i : Nat), T = St.of [(3, .int .u32 c), (8, .sl 5 .ro (bytesP bs)), (9, .int .i64 (bytesP bs).length), (10, .int .i64 i)] [] ∧ i ≤ (bytesP bs).length ∧ c = crcAll (bs.take i) ∧ m = (bytesP bs).length - i) _ _
    ⟨_, 0, rfl, Nat.zero_le _, rfl, rfl⟩ (le_of (.cons rfl (.cons rfl (.cons rfl (.cons rfl .nil)))) .nil) ?_
  rintro m T ⟨c, i, rfl, hi, hc, hm⟩
  repeat' (first | refine .nil ?_ | refine .seq ?_ | refine .region ?_ | refine .move ?_ | refine .assign ?_ | refine .add ?_ | refine .sub ?_ | refine .mul ?_ | refine .val ?_ | refine .val ?_ (hc := by omega) | refine .skip ?_ | refine .brT ?_ | refine .brF ?_ | refine .condT ?_ | refine .condF ?_ | refine .block ?_ | refine .exit (.hit ?_) | refine .exit (.miss (.hit ?_)) | refine .exit (.miss (.miss (.hit ?_))) | refine .wr ?_ | refine .lit1 ?_ | fail)
  refine .cond (fun h => ?_) (fun h => ?_)
  · have h := of_decide_eq_true h
    have hil : i < (bytesP bs).length := by omega
    have hib : i < bs.length := by simpa using hil
    repeat' (first | refine .nil ?_ | refine .seq ?_ | refine .region ?_ | refine .move ?_ | refine .assign ?_ | refine .add ?_ | refine .sub ?_ | refine .mul ?_ | refine .val ?_ | refine .val ?_ (hc := by omega) | refine .skip ?_ | refine .brT ?_ | refine .brF ?_ | refine .condT ?_ | refine .condF ?_ | refine .block ?_ | refine .exit (.hit ?_) | refine .exit (.miss (.hit ?_)) | refine .exit (.miss (.miss (.hit ?_))) | refine .wr ?_ | refine .lit1 ?_ | fail)
    refine .val ?_ (hc := by exact ⟨rfl, by omega, by omega⟩)
    refine .loadE (y := .int .u8 bs[i]) ?_ (hy := by simp [hib])
    repeat' (first | refine .nil ?_ | refine .seq ?_ | refine .region ?_ | refine .move ?_ | refine .assign ?_ | refine .add ?_ | refine .sub ?_ | refine .mul ?_ | refine .val ?_ | refine .val ?_ (hc := by omega) | refine .skip ?_ | refine .brT ?_ | refine .brF ?_ | refine .condT ?_ | refine .condF ?_ | refine .block ?_ | refine .exit (.hit ?_) | refine .exit (.miss (.hit ?_)) | refine .exit (.miss (.miss (.hit ?_))) | refine .wr ?_ | refine .lit1 ?_ | fail)
    refine Wp.loop (fun m T => ∃ (x : Int) (j : Nat), T = St.of [(3, .int .u32 x), (8, .sl 5 .ro (bytesP bs)), (9, .int .i64 (bytesP bs).length), (10, .int .i64 i), (6, .int .i64 j)] [] ∧ j ≤ 8 ∧ crcN (8 - j) x = crcStep c bs[i] ∧ m = 8 - j) _ _
      ⟨(bitsI .xor .u32 c (IntKind.wrap .u32 bs[i])), 0, rfl, Nat.zero_le _, rfl, rfl⟩ (le_of (.cons rfl (.cons rfl (.cons rfl (.cons rfl (.cons rfl .nil))))) .nil) ?_
    rintro m' T ⟨x, j, rfl, hj, hx, hm'⟩
    repeat' (first | refine .nil ?_ | refine .seq ?_ | refine .region ?_ | refine .move ?_ | refine .assign ?_ | refine .add ?_ | refine .sub ?_ | refine .mul ?_ | refine .val ?_ | refine .val ?_ (hc := by omega) | refine .skip ?_ | refine .brT ?_ | refine .brF ?_ | refine .condT ?_ | refine .condF ?_ | refine .block ?_ | refine .exit (.hit ?_) | refine .exit (.miss (.hit ?_)) | refine .exit (.miss (.miss (.hit ?_))) | refine .wr ?_ | refine .lit1 ?_ | fail)
    refine .cond (fun h' => ?_) (fun h' => ?_)
    · have h' := of_decide_eq_true h'
      obtain ⟨q, hq⟩ : ∃ q, 8 - j = q + 1 := ⟨7 - j, by omega⟩
      rw [hq] at hx
      repeat' (first | refine .nil ?_ | refine .seq ?_ | refine .region ?_ | refine .move ?_ | refine .assign ?_ | refine .add ?_ | refine .sub ?_ | refine .mul ?_ | refine .val ?_ | refine .val ?_ (hc := by omega) | refine .skip ?_ | refine .brT ?_ | refine .brF ?_ | refine .condT ?_ | refine .condF ?_ | refine .block ?_ | refine .exit (.hit ?_) | refine .exit (.miss (.hit ?_)) | refine .exit (.miss (.miss (.hit ?_))) | refine .wr ?_ | refine .lit1 ?_ | fail)
      refine .cond (fun hb => ?_) (fun hb => ?_)
      · repeat' (first | refine .nil ?_ | refine .seq ?_ | refine .region ?_ | refine .move ?_ | refine .assign ?_ | refine .add ?_ | refine .sub ?_ | refine .mul ?_ | refine .val ?_ | refine .val ?_ (hc := by omega) | refine .skip ?_ | refine .brT ?_ | refine .brF ?_ | refine .condT ?_ | refine .condF ?_ | refine .block ?_ | refine .exit (.hit ?_) | refine .exit (.miss (.hit ?_)) | refine .exit (.miss (.miss (.hit ?_))) | refine .wr ?_ | refine .lit1 ?_ | fail)
        refine ⟨_, _, ?_, ⟨_, j + 1, rfl, ?_, ?_, rfl⟩, (le_of (.cons rfl (.cons rfl (.cons rfl (.cons rfl (.cons rfl .nil))))) .nil)⟩
        · omega
        · omega
        · rw [← hx, show 8 - (j + 1) = q by omega, crcN, crcBit, if_pos hb]
          rfl
      · repeat' (first | refine .nil ?_ | refine .seq ?_ | refine .region ?_ | refine .move ?_ | refine .assign ?_ | refine .add ?_ | refine .sub ?_ | refine .mul ?_ | refine .val ?_ | refine .val ?_ (hc := by omega) | refine .skip ?_ | refine .brT ?_ | refine .brF ?_ | refine .condT ?_ | refine .condF ?_ | refine .block ?_ | refine .exit (.hit ?_) | refine .exit (.miss (.hit ?_)) | refine .exit (.miss (.miss (.hit ?_))) | refine .wr ?_ | refine .lit1 ?_ | fail)
        refine ⟨_, _, ?_, ⟨_, j + 1, rfl, ?_, ?_, rfl⟩, (le_of (.cons rfl (.cons rfl (.cons rfl (.cons rfl (.cons rfl .nil))))) .nil)⟩
        · omega
        · omega
        · rw [← hx, show 8 - (j + 1) = q by omega, crcN, crcBit, if_neg (by rw [show (bitsI .and .u32 x 1 == 1) = false from hb]; simp)]
          rfl
    · have h' := of_decide_eq_false h'
      repeat' (first | refine .nil ?_ | refine .seq ?_ | refine .region ?_ | refine .move ?_ | refine .assign ?_ | refine .add ?_ | refine .sub ?_ | refine .mul ?_ | refine .val ?_ | refine .val ?_ (hc := by omega) | refine .skip ?_ | refine .brT ?_ | refine .brF ?_ | refine .condT ?_ | refine .condF ?_ | refine .block ?_ | refine .exit (.hit ?_) | refine .exit (.miss (.hit ?_)) | refine .exit (.miss (.miss (.hit ?_))) | refine .wr ?_ | refine .lit1 ?_ | fail)
      refine ⟨_, _, ?_, ⟨_, i + 1, rfl, ?_, ?_, rfl⟩, (le_of (.cons rfl (.cons rfl (.cons rfl (.cons rfl .nil)))) .nil)⟩
      · omega
      · omega
      · rw [show 8 - j = 0 by omega, crcN] at hx
        rw [hx, hc, crcAll, crcAll, foldl_take_succ hib]
  · have h := of_decide_eq_false h
    have hil : i = (bytesP bs).length := by omega
    repeat' (first | refine .nil ?_ | refine .seq ?_ | refine .region ?_ | refine .move ?_ | refine .assign ?_ | refine .add ?_ | refine .sub ?_ | refine .mul ?_ | refine .val ?_ | refine .val ?_ (hc := by omega) | refine .skip ?_ | refine .brT ?_ | refine .brF ?_ | refine .condT ?_ | refine .condF ?_ | refine .block ?_ | refine .exit (.hit ?_) | refine .exit (.miss (.hit ?_)) | refine .exit (.miss (.miss (.hit ?_))) | refine .wr ?_ | refine .lit1 ?_ | fail)
    refine Wp.ret ?_
    refine fin_plain rfl (congrArg (PV.int .u32) ?_) rfl
    rw [hc, hil]
    simp [crcOf]

end Go.Proofs.Ytcahjpkmldmjdaa
