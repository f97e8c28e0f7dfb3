/-
  The walks of what puts numbers and texts.
-/
import Derived.Test.YtcahjpkmldmjdaaWire0
import Derived.Test.YtcahjpkmldmjdaaAb23
import Derived.IntWalk
namespace Go.Proofs.Ytcahjpkmldmjdaa
open Go Ab

/-- The bytes of a number, the lowest first. -/
def leN : Nat → Int → List Int
  | 0, _ => []
  | n + 1, x => x % 256 :: leN n (x / 256)

theorem leN_length : ∀ (n : Nat) (x : Int), (leN n x).length = n
  | 0, _ => rfl
  | n + 1, x => by simp [leN, leN_length n]

theorem leN_snoc : ∀ (n : Nat) (x : Int), leN (n + 1) x = leN n x ++ [x / 256 ^ n % 256]
  | 0, x => by simp [leN]
  | n + 1, x => by
    rw [leN, leN_snoc n (x / 256), leN]
    simp only [List.cons_append]
    congr 3
    rw [Int.pow_succ, Int.mul_comm, Int.ediv_ediv_of_nonneg (by decide)]

theorem leN_bytes : ∀ (n : Nat) (x : Int), AreBytes (leN n x)
  | 0, _ => fun n h => by cases h
  | n + 1, x => by
    intro m hm
    rw [leN] at hm
    rcases List.mem_cons.1 hm with rfl | h
    · omega
    · exact leN_bytes n _ m h

theorem wrap_u8_mod (x : Int) : IntKind.u8.wrap x = x % 256 := IntKind.wrap_u8 x

theorem fdiv256 (x : Int) : x.fdiv 256 = x / 256 := Int.fdiv_eq_ediv_of_nonneg x (by decide)

theorem shr_le (x : Int) (i : Nat) (hi : 8 * i ≤ 64) : x.fdiv (2 ^ (min ((8 : Int) * i).toNat (IntKind.bits .u64))) = x / 256 ^ i := by
  rw [Int.fdiv_eq_ediv_of_nonneg _ (Int.le_of_lt (Int.pow_pos (by decide))), show ((8 : Int) * i).toNat = 8 * i by omega, show min (8 * i) (IntKind.bits .u64) = 8 * i from Nat.min_eq_left hi, Int.pow_mul]
  rfl

set_option maxRecDepth 100000 in
theorem can61 (bs : List Int) (x : Int) (n : Nat) (hb : bs.length ≤ 1000000) (hn : n ≤ 8) : Ab.Can Try.prog 61 [.sl 5 .ro (bytesP bs), .int .u16 x, .int .i64 n] H0 (.sl 5 (.own (.rrow 0)) (bytesP (bs ++ leN n x))) H0 := by
  refine can_of tabOK mix Try.call61 Try.func61 rfl (by kernel_rfl) (by show _ ≤ 27; simp) fun hl => ?_
  have hbl : (bytesP bs).length = bs.length := by simp
  repeat' (first | refine .nil ?_ | refine .seq ?_ | refine .region ?_ | refine .move ?_ | refine .assign ?_ | refine .add ?_ | refine .sub ?_ | refine .mul ?_ | refine .val ?_ | refine .val ?_ (hc := by omega) | refine .skip ?_ | refine .brT ?_ | refine .brF ?_ | refine .condT ?_ | refine .condF ?_ | refine .block ?_ | refine .exit (.hit ?_) | refine .exit (.miss (.hit ?_)) | refine .exit (.miss (.miss (.hit ?_))) | refine .wr ?_ | refine .lit1 ?_ | fail)
  refine .make0 ?_ (hr := by omega)
  repeat' (first | refine .nil ?_ | refine .seq ?_ | refine .region ?_ | refine .move ?_ | refine .assign ?_ | refine .add ?_ | refine .sub ?_ | refine .mul ?_ | refine .val ?_ | refine .val ?_ (hc := by omega) | refine .skip ?_ | refine .brT ?_ | refine .brF ?_ | refine .condT ?_ | refine .condF ?_ | refine .block ?_ | refine .exit (.hit ?_) | refine .exit (.miss (.hit ?_)) | refine .exit (.miss (.miss (.hit ?_))) | refine .wr ?_ | refine .lit1 ?_ | fail)
  refine .app ?_ (hn := by simp; omega)
  repeat' (first | refine .nil ?_ | refine .seq ?_ | refine .region ?_ | refine .move ?_ | refine .assign ?_ | refine .add ?_ | refine .sub ?_ | refine .mul ?_ | refine .val ?_ | refine .val ?_ (hc := by omega) | refine .skip ?_ | refine .brT ?_ | refine .brF ?_ | refine .condT ?_ | refine .condF ?_ | refine .block ?_ | refine .exit (.hit ?_) | refine .exit (.miss (.hit ?_)) | refine .exit (.miss (.miss (.hit ?_))) | refine .wr ?_ | refine .lit1 ?_ | fail)
  refine .rename (.row 1 6) (.row 4 4) ?_
  refine .loop (fun m T => ∃ (y : Int) (i : Nat) (xs : List PV), T = St.of [(1, .int .u16 y), (7, .sl 5 (.own (.row 4 4)) xs), (15, .int .i64 n), (16, .int .i64 i)] [] ∧ i ≤ n ∧ xs.length = bs.length + i ∧ xs ++ bytesP (leN (n - i) y) = bytesP (bs ++ leN n x) ∧ m = n - i) _ _
    ⟨_, 0, _, rfl, Nat.zero_le _, ?_, ?_, rfl⟩ (le_of (.cons rfl (.cons rfl (.cons rfl (.cons rfl .nil)))) .nil) ?_
  · simp
  · simp
  rintro m T ⟨y, i, xs, rfl, hi, hxl, hxs, hm⟩
  repeat' (first | refine .nil ?_ | refine .seq ?_ | refine .region ?_ | refine .move ?_ | refine .assign ?_ | refine .add ?_ | refine .sub ?_ | refine .mul ?_ | refine .val ?_ | refine .val ?_ (hc := by omega) | refine .skip ?_ | refine .brT ?_ | refine .brF ?_ | refine .condT ?_ | refine .condF ?_ | refine .block ?_ | refine .exit (.hit ?_) | refine .exit (.miss (.hit ?_)) | refine .exit (.miss (.miss (.hit ?_))) | refine .wr ?_ | refine .lit1 ?_ | fail)
  refine .cond (fun h => ?_) (fun h => ?_)
  · have h := of_decide_eq_true h
    obtain ⟨q, hq⟩ : ∃ q, n - i = q + 1 := ⟨n - i - 1, by omega⟩
    repeat' (first | refine .nil ?_ | refine .seq ?_ | refine .region ?_ | refine .move ?_ | refine .assign ?_ | refine .add ?_ | refine .sub ?_ | refine .mul ?_ | refine .val ?_ | refine .val ?_ (hc := by omega) | refine .skip ?_ | refine .brT ?_ | refine .brF ?_ | refine .condT ?_ | refine .condF ?_ | refine .block ?_ | refine .exit (.hit ?_) | refine .exit (.miss (.hit ?_)) | refine .exit (.miss (.miss (.hit ?_))) | refine .wr ?_ | refine .lit1 ?_ | fail)
    refine .freeze (.row 4 3) ?_
    refine .app ?_ (hn := by simp; omega)
    repeat' (first | refine .nil ?_ | refine .seq ?_ | refine .region ?_ | refine .move ?_ | refine .assign ?_ | refine .add ?_ | refine .sub ?_ | refine .mul ?_ | refine .val ?_ | refine .val ?_ (hc := by omega) | refine .skip ?_ | refine .brT ?_ | refine .brF ?_ | refine .condT ?_ | refine .condF ?_ | refine .block ?_ | refine .exit (.hit ?_) | refine .exit (.miss (.hit ?_)) | refine .exit (.miss (.miss (.hit ?_))) | refine .wr ?_ | refine .lit1 ?_ | fail)
    refine ⟨_, _, ?_, ⟨_, i + 1, _, rfl, ?_, ?_, ?_, rfl⟩, (le_of (.cons rfl (.cons rfl (.cons rfl (.cons rfl .nil)))) .nil)⟩
    · omega
    · omega
    · simp [hxl]; omega
    · rw [← hxs, hq, show n - (i + 1) = q by omega]
      have e : y.fdiv (2 ^ min 8 (IntKind.bits .u16)) = y / 256 := fdiv256 y
      simp [leN, wrap_u8_mod, e]
  · have h := of_decide_eq_false h
    repeat' (first | refine .nil ?_ | refine .seq ?_ | refine .region ?_ | refine .move ?_ | refine .assign ?_ | refine .add ?_ | refine .sub ?_ | refine .mul ?_ | refine .val ?_ | refine .val ?_ (hc := by omega) | refine .skip ?_ | refine .brT ?_ | refine .brF ?_ | refine .condT ?_ | refine .condF ?_ | refine .block ?_ | refine .exit (.hit ?_) | refine .exit (.miss (.hit ?_)) | refine .exit (.miss (.miss (.hit ?_))) | refine .wr ?_ | refine .lit1 ?_ | fail)
    refine .ret ?_
    refine fin_own (.row 4 4) rfl rfl (congrArg (PV.sl 5 (.own (.rrow 0))) ?_) rfl
    rw [← hxs, show n - i = 0 by omega]
    simp [leN]

set_option maxRecDepth 100000 in
theorem can62 (bs : List Int) (x : Int) (n : Nat) (hb : bs.length ≤ 1000000) (hn : n ≤ 8) : Ab.Can Try.prog 62 [.sl 5 .ro (bytesP bs), .int .u32 x, .int .i64 n] H0 (.sl 5 (.own (.rrow 0)) (bytesP (bs ++ leN n x))) H0 := by
  refine can_of tabOK mix Try.call62 Try.func62 rfl (by kernel_rfl) (by show _ ≤ 27; simp) fun hl => ?_
  have hbl : (bytesP bs).length = bs.length := by simp
  repeat' (first | refine .nil ?_ | refine .seq ?_ | refine .region ?_ | refine .move ?_ | refine .assign ?_ | refine .add ?_ | refine .sub ?_ | refine .mul ?_ | refine .val ?_ | refine .val ?_ (hc := by omega) | refine .skip ?_ | refine .brT ?_ | refine .brF ?_ | refine .condT ?_ | refine .condF ?_ | refine .block ?_ | refine .exit (.hit ?_) | refine .exit (.miss (.hit ?_)) | refine .exit (.miss (.miss (.hit ?_))) | refine .wr ?_ | refine .lit1 ?_ | fail)
  refine .make0 ?_ (hr := by omega)
  repeat' (first | refine .nil ?_ | refine .seq ?_ | refine .region ?_ | refine .move ?_ | refine .assign ?_ | refine .add ?_ | refine .sub ?_ | refine .mul ?_ | refine .val ?_ | refine .val ?_ (hc := by omega) | refine .skip ?_ | refine .brT ?_ | refine .brF ?_ | refine .condT ?_ | refine .condF ?_ | refine .block ?_ | refine .exit (.hit ?_) | refine .exit (.miss (.hit ?_)) | refine .exit (.miss (.miss (.hit ?_))) | refine .wr ?_ | refine .lit1 ?_ | fail)
  refine .app ?_ (hn := by simp; omega)
  repeat' (first | refine .nil ?_ | refine .seq ?_ | refine .region ?_ | refine .move ?_ | refine .assign ?_ | refine .add ?_ | refine .sub ?_ | refine .mul ?_ | refine .val ?_ | refine .val ?_ (hc := by omega) | refine .skip ?_ | refine .brT ?_ | refine .brF ?_ | refine .condT ?_ | refine .condF ?_ | refine .block ?_ | refine .exit (.hit ?_) | refine .exit (.miss (.hit ?_)) | refine .exit (.miss (.miss (.hit ?_))) | refine .wr ?_ | refine .lit1 ?_ | fail)
  refine .rename (.row 1 6) (.row 4 4) ?_
  refine .loop (fun m T => ∃ (y : Int) (i : Nat) (xs : List PV), T = St.of [(1, .int .u32 y), (7, .sl 5 (.own (.row 4 4)) xs), (15, .int .i64 n), (16, .int .i64 i)] [] ∧ i ≤ n ∧ xs.length = bs.length + i ∧ xs ++ bytesP (leN (n - i) y) = bytesP (bs ++ leN n x) ∧ m = n - i) _ _
    ⟨_, 0, _, rfl, Nat.zero_le _, ?_, ?_, rfl⟩ (le_of (.cons rfl (.cons rfl (.cons rfl (.cons rfl .nil)))) .nil) ?_
  · simp
  · simp
  rintro m T ⟨y, i, xs, rfl, hi, hxl, hxs, hm⟩
  repeat' (first | refine .nil ?_ | refine .seq ?_ | refine .region ?_ | refine .move ?_ | refine .assign ?_ | refine .add ?_ | refine .sub ?_ | refine .mul ?_ | refine .val ?_ | refine .val ?_ (hc := by omega) | refine .skip ?_ | refine .brT ?_ | refine .brF ?_ | refine .condT ?_ | refine .condF ?_ | refine .block ?_ | refine .exit (.hit ?_) | refine .exit (.miss (.hit ?_)) | refine .exit (.miss (.miss (.hit ?_))) | refine .wr ?_ | refine .lit1 ?_ | fail)
  refine .cond (fun h => ?_) (fun h => ?_)
  · have h := of_decide_eq_true h
    obtain ⟨q, hq⟩ : ∃ q, n - i = q + 1 := ⟨n - i - 1, by omega⟩
    repeat' (first | refine .nil ?_ | refine .seq ?_ | refine .region ?_ | refine .move ?_ | refine .assign ?_ | refine .add ?_ | refine .sub ?_ | refine .mul ?_ | refine .val ?_ | refine .val ?_ (hc := by omega) | refine .skip ?_ | refine .brT ?_ | refine .brF ?_ | refine .condT ?_ | refine .condF ?_ | refine .block ?_ | refine .exit (.hit ?_) | refine .exit (.miss (.hit ?_)) | refine .exit (.miss (.miss (.hit ?_))) | refine .wr ?_ | refine .lit1 ?_ | fail)
    refine .freeze (.row 4 3) ?_
    refine .app ?_ (hn := by simp; omega)
    repeat' (first | refine .nil ?_ | refine .seq ?_ | refine .region ?_ | refine .move ?_ | refine .assign ?_ | refine .add ?_ | refine .sub ?_ | refine .mul ?_ | refine .val ?_ | refine .val ?_ (hc := by omega) | refine .skip ?_ | refine .brT ?_ | refine .brF ?_ | refine .condT ?_ | refine .condF ?_ | refine .block ?_ | refine .exit (.hit ?_) | refine .exit (.miss (.hit ?_)) | refine .exit (.miss (.miss (.hit ?_))) | refine .wr ?_ | refine .lit1 ?_ | fail)
    refine ⟨_, _, ?_, ⟨_, i + 1, _, rfl, ?_, ?_, ?_, rfl⟩, (le_of (.cons rfl (.cons rfl (.cons rfl (.cons rfl .nil)))) .nil)⟩
    · omega
    · omega
    · simp [hxl]; omega
    · rw [← hxs, hq, show n - (i + 1) = q by omega]
      have e : y.fdiv (2 ^ min 8 (IntKind.bits .u32)) = y / 256 := fdiv256 y
      simp [leN, wrap_u8_mod, e]
  · have h := of_decide_eq_false h
    repeat' (first | refine .nil ?_ | refine .seq ?_ | refine .region ?_ | refine .move ?_ | refine .assign ?_ | refine .add ?_ | refine .sub ?_ | refine .mul ?_ | refine .val ?_ | refine .val ?_ (hc := by omega) | refine .skip ?_ | refine .brT ?_ | refine .brF ?_ | refine .condT ?_ | refine .condF ?_ | refine .block ?_ | refine .exit (.hit ?_) | refine .exit (.miss (.hit ?_)) | refine .exit (.miss (.miss (.hit ?_))) | refine .wr ?_ | refine .lit1 ?_ | fail)
    refine .ret ?_
    refine fin_own (.row 4 4) rfl rfl (congrArg (PV.sl 5 (.own (.rrow 0))) ?_) rfl
    rw [← hxs, show n - i = 0 by omega]
    simp [leN]

set_option maxRecDepth 100000 in
theorem can63 (bs : List Int) (x : Int) (n : Nat) (hb : bs.length ≤ 1000000) (hn : n ≤ 8) : Ab.Can Try.prog 63 [.sl 5 .ro (bytesP bs), .int .u64 x, .int .i64 n] H0 (.sl 5 (.own (.rrow 0)) (bytesP (bs ++ leN n x))) H0 := by
  refine can_of tabOK mix Try.call63 Try.func63 rfl (by kernel_rfl) (by show _ ≤ 27; simp) fun hl => ?_
  have hbl : (bytesP bs).length = bs.length := by simp
  repeat' (first | refine .nil ?_ | refine .seq ?_ | refine .region ?_ | refine .move ?_ | refine .assign ?_ | refine .add ?_ | refine .sub ?_ | refine .mul ?_ | refine .val ?_ | refine .val ?_ (hc := by omega) | refine .skip ?_ | refine .brT ?_ | refine .brF ?_ | refine .condT ?_ | refine .condF ?_ | refine .block ?_ | refine .exit (.hit ?_) | refine .exit (.miss (.hit ?_)) | refine .exit (.miss (.miss (.hit ?_))) | refine .wr ?_ | refine .lit1 ?_ | fail)
  refine .make0 ?_ (hr := by omega)
  repeat' (first | refine .nil ?_ | refine .seq ?_ | refine .region ?_ | refine .move ?_ | refine .assign ?_ | refine .add ?_ | refine .sub ?_ | refine .mul ?_ | refine .val ?_ | refine .val ?_ (hc := by omega) | refine .skip ?_ | refine .brT ?_ | refine .brF ?_ | refine .condT ?_ | refine .condF ?_ | refine .block ?_ | refine .exit (.hit ?_) | refine .exit (.miss (.hit ?_)) | refine .exit (.miss (.miss (.hit ?_))) | refine .wr ?_ | refine .lit1 ?_ | fail)
  refine .app ?_ (hn := by simp; omega)
  repeat' (first | refine .nil ?_ | refine .seq ?_ | refine .region ?_ | refine .move ?_ | refine .assign ?_ | refine .add ?_ | refine .sub ?_ | refine .mul ?_ | refine .val ?_ | refine .val ?_ (hc := by omega) | refine .skip ?_ | refine .brT ?_ | refine .brF ?_ | refine .condT ?_ | refine .condF ?_ | refine .block ?_ | refine .exit (.hit ?_) | refine .exit (.miss (.hit ?_)) | refine .exit (.miss (.miss (.hit ?_))) | refine .wr ?_ | refine .lit1 ?_ | fail)
  refine .rename (.row 1 6) (.row 4 4) ?_
  refine .loop (fun m T => ∃ (y : Int) (i : Nat) (xs : List PV), T = St.of [(1, .int .u64 y), (7, .sl 5 (.own (.row 4 4)) xs), (15, .int .i64 n), (16, .int .i64 i)] [] ∧ i ≤ n ∧ xs.length = bs.length + i ∧ xs ++ bytesP (leN (n - i) y) = bytesP (bs ++ leN n x) ∧ m = n - i) _ _
    ⟨_, 0, _, rfl, Nat.zero_le _, ?_, ?_, rfl⟩ (le_of (.cons rfl (.cons rfl (.cons rfl (.cons rfl .nil)))) .nil) ?_
  · simp
  · simp
  rintro m T ⟨y, i, xs, rfl, hi, hxl, hxs, hm⟩
  repeat' (first | refine .nil ?_ | refine .seq ?_ | refine .region ?_ | refine .move ?_ | refine .assign ?_ | refine .add ?_ | refine .sub ?_ | refine .mul ?_ | refine .val ?_ | refine .val ?_ (hc := by omega) | refine .skip ?_ | refine .brT ?_ | refine .brF ?_ | refine .condT ?_ | refine .condF ?_ | refine .block ?_ | refine .exit (.hit ?_) | refine .exit (.miss (.hit ?_)) | refine .exit (.miss (.miss (.hit ?_))) | refine .wr ?_ | refine .lit1 ?_ | fail)
  refine .cond (fun h => ?_) (fun h => ?_)
  · have h := of_decide_eq_true h
    obtain ⟨q, hq⟩ : ∃ q, n - i = q + 1 := ⟨n - i - 1, by omega⟩
    repeat' (first | refine .nil ?_ | refine .seq ?_ | refine .region ?_ | refine .move ?_ | refine .assign ?_ | refine .add ?_ | refine .sub ?_ | refine .mul ?_ | refine .val ?_ | refine .val ?_ (hc := by omega) | refine .skip ?_ | refine .brT ?_ | refine .brF ?_ | refine .condT ?_ | refine .condF ?_ | refine .block ?_ | refine .exit (.hit ?_) | refine .exit (.miss (.hit ?_)) | refine .exit (.miss (.miss (.hit ?_))) | refine .wr ?_ | refine .lit1 ?_ | fail)
    refine .freeze (.row 4 3) ?_
    refine .app ?_ (hn := by simp; omega)
    repeat' (first | refine .nil ?_ | refine .seq ?_ | refine .region ?_ | refine .move ?_ | refine .assign ?_ | refine .add ?_ | refine .sub ?_ | refine .mul ?_ | refine .val ?_ | refine .val ?_ (hc := by omega) | refine .skip ?_ | refine .brT ?_ | refine .brF ?_ | refine .condT ?_ | refine .condF ?_ | refine .block ?_ | refine .exit (.hit ?_) | refine .exit (.miss (.hit ?_)) | refine .exit (.miss (.miss (.hit ?_))) | refine .wr ?_ | refine .lit1 ?_ | fail)
    refine ⟨_, _, ?_, ⟨_, i + 1, _, rfl, ?_, ?_, ?_, rfl⟩, (le_of (.cons rfl (.cons rfl (.cons rfl (.cons rfl .nil)))) .nil)⟩
    · omega
    · omega
    · simp [hxl]; omega
    · rw [← hxs, hq, show n - (i + 1) = q by omega]
      have e : y.fdiv (2 ^ min 8 (IntKind.bits .u64)) = y / 256 := fdiv256 y
      simp [leN, wrap_u8_mod, e]
  · have h := of_decide_eq_false h
    repeat' (first | refine .nil ?_ | refine .seq ?_ | refine .region ?_ | refine .move ?_ | refine .assign ?_ | refine .add ?_ | refine .sub ?_ | refine .mul ?_ | refine .val ?_ | refine .val ?_ (hc := by omega) | refine .skip ?_ | refine .brT ?_ | refine .brF ?_ | refine .condT ?_ | refine .condF ?_ | refine .block ?_ | refine .exit (.hit ?_) | refine .exit (.miss (.hit ?_)) | refine .exit (.miss (.miss (.hit ?_))) | refine .wr ?_ | refine .lit1 ?_ | fail)
    refine .ret ?_
    refine fin_own (.row 4 4) rfl rfl (congrArg (PV.sl 5 (.own (.rrow 0))) ?_) rfl
    rw [← hxs, show n - i = 0 by omega]
    simp [leN]

set_option maxRecDepth 100000 in
theorem can60 (bs : List Int) (x : Int) (n : Nat) (hb : bs.length ≤ 1000000) (hn : n ≤ 8) : Ab.Can Try.prog 60 [.sl 5 .ro (bytesP bs), .int .u64 x, .int .i64 n] H0 (.sl 5 (.own (.rrow 0)) (bytesP (bs ++ leN n x))) H0 := by
  refine can_of tabOK mix Try.call60 Try.func60 rfl (by kernel_rfl) (by show _ ≤ 25; simp) fun hl => ?_
  have hbl : (bytesP bs).length = bs.length := by simp
  repeat' (first | refine .nil ?_ | refine .seq ?_ | refine .region ?_ | refine .move ?_ | refine .assign ?_ | refine .add ?_ | refine .sub ?_ | refine .mul ?_ | refine .val ?_ | refine .val ?_ (hc := by omega) | refine .skip ?_ | refine .brT ?_ | refine .brF ?_ | refine .condT ?_ | refine .condF ?_ | refine .block ?_ | refine .exit (.hit ?_) | refine .exit (.miss (.hit ?_)) | refine .exit (.miss (.miss (.hit ?_))) | refine .wr ?_ | refine .lit1 ?_ | fail)
  refine .app0 ?_ (hn := by simp; omega)
  repeat' (first | refine .nil ?_ | refine .seq ?_ | refine .region ?_ | refine .move ?_ | refine .assign ?_ | refine .add ?_ | refine .sub ?_ | refine .mul ?_ | refine .val ?_ | refine .val ?_ (hc := by omega) | refine .skip ?_ | refine .brT ?_ | refine .brF ?_ | refine .condT ?_ | refine .condF ?_ | refine .block ?_ | refine .exit (.hit ?_) | refine .exit (.miss (.hit ?_)) | refine .exit (.miss (.miss (.hit ?_))) | refine .wr ?_ | refine .lit1 ?_ | fail)
  refine .rename (.row 1 1) (.row 5 7) ?_
  refine .loop (fun m T => ∃ (i : Nat) (xs : List PV), T = St.of [(1, .int .u64 x), (7, .sl 5 (.own (.row 5 7)) xs), (2, .int .i64 n), (8, .int .i64 i)] [] ∧ i ≤ n ∧ xs = bytesP (bs ++ leN i x) ∧ m = n - i) _ _
    ⟨0, _, rfl, Nat.zero_le _, ?_, rfl⟩ (le_of (.cons rfl (.cons rfl (.cons rfl (.cons rfl .nil)))) .nil) ?_
  · simp [leN]
  rintro m T ⟨i, xs, rfl, hi, hxs, hm⟩
  have hxl : xs.length = bs.length + i := by rw [hxs]; simp [leN_length]
  repeat' (first | refine .nil ?_ | refine .seq ?_ | refine .region ?_ | refine .move ?_ | refine .assign ?_ | refine .add ?_ | refine .sub ?_ | refine .mul ?_ | refine .val ?_ | refine .val ?_ (hc := by omega) | refine .skip ?_ | refine .brT ?_ | refine .brF ?_ | refine .condT ?_ | refine .condF ?_ | refine .block ?_ | refine .exit (.hit ?_) | refine .exit (.miss (.hit ?_)) | refine .exit (.miss (.miss (.hit ?_))) | refine .wr ?_ | refine .lit1 ?_ | fail)
  refine .cond (fun h => ?_) (fun h => ?_)
  · have h := of_decide_eq_true h
    repeat' (first | refine .nil ?_ | refine .seq ?_ | refine .region ?_ | refine .move ?_ | refine .assign ?_ | refine .add ?_ | refine .sub ?_ | refine .mul ?_ | refine .val ?_ | refine .val ?_ (hc := by omega) | refine .skip ?_ | refine .brT ?_ | refine .brF ?_ | refine .condT ?_ | refine .condF ?_ | refine .block ?_ | refine .exit (.hit ?_) | refine .exit (.miss (.hit ?_)) | refine .exit (.miss (.miss (.hit ?_))) | refine .wr ?_ | refine .lit1 ?_ | fail)
    refine .freeze (.row 5 6) ?_
    refine .app ?_ (hn := by simp; omega)
    repeat' (first | refine .nil ?_ | refine .seq ?_ | refine .region ?_ | refine .move ?_ | refine .assign ?_ | refine .add ?_ | refine .sub ?_ | refine .mul ?_ | refine .val ?_ | refine .val ?_ (hc := by omega) | refine .skip ?_ | refine .brT ?_ | refine .brF ?_ | refine .condT ?_ | refine .condF ?_ | refine .block ?_ | refine .exit (.hit ?_) | refine .exit (.miss (.hit ?_)) | refine .exit (.miss (.miss (.hit ?_))) | refine .wr ?_ | refine .lit1 ?_ | fail)
    refine ⟨_, _, ?_, ⟨i + 1, _, rfl, ?_, ?_, rfl⟩, (le_of (.cons rfl (.cons rfl (.cons rfl (.cons rfl .nil)))) .nil)⟩
    · omega
    · omega
    · rw [hxs, leN_snoc, wrap_u8_mod, shr_le x i (by omega)]
      simp
  · have h := of_decide_eq_false h
    repeat' (first | refine .nil ?_ | refine .seq ?_ | refine .region ?_ | refine .move ?_ | refine .assign ?_ | refine .add ?_ | refine .sub ?_ | refine .mul ?_ | refine .val ?_ | refine .val ?_ (hc := by omega) | refine .skip ?_ | refine .brT ?_ | refine .brF ?_ | refine .condT ?_ | refine .condF ?_ | refine .block ?_ | refine .exit (.hit ?_) | refine .exit (.miss (.hit ?_)) | refine .exit (.miss (.miss (.hit ?_))) | refine .wr ?_ | refine .lit1 ?_ | fail)
    refine .ret ?_
    refine fin_own (.row 5 7) rfl rfl (congrArg (PV.sl 5 (.own (.rrow 0))) ?_) rfl
    rw [hxs, show i = n by omega]

set_option maxRecDepth 100000 in
theorem can24 (bs : List Int) (x : Int) (hb : bs.length ≤ 1000000) : Ab.Can Try.prog 24 [.sl 5 .ro (bytesP bs), .int .u16 x] H0 (.sl 5 (.own (.rrow 0)) (bytesP (bs ++ leN 2 x))) H0 := by
  refine can_of tabOK mix Try.call24 Try.func24 rfl (by kernel_rfl) (by show _ ≤ 8; simp) fun hl => ?_
  repeat' (first | refine .nil ?_ | refine .seq ?_ | refine .region ?_ | refine .move ?_ | refine .assign ?_ | refine .add ?_ | refine .sub ?_ | refine .mul ?_ | refine .val ?_ | refine .val ?_ (hc := by omega) | refine .skip ?_ | refine .brT ?_ | refine .brF ?_ | refine .condT ?_ | refine .condF ?_ | refine .block ?_ | refine .exit (.hit ?_) | refine .exit (.miss (.hit ?_)) | refine .exit (.miss (.miss (.hit ?_))) | refine .wr ?_ | refine .lit1 ?_ | fail)
  refine .callO' [] (.row 1 2) (can61 bs x 2 hb (by decide)) ?_
  repeat' (first | refine .nil ?_ | refine .seq ?_ | refine .region ?_ | refine .move ?_ | refine .assign ?_ | refine .add ?_ | refine .sub ?_ | refine .mul ?_ | refine .val ?_ | refine .val ?_ (hc := by omega) | refine .skip ?_ | refine .brT ?_ | refine .brF ?_ | refine .condT ?_ | refine .condF ?_ | refine .block ?_ | refine .exit (.hit ?_) | refine .exit (.miss (.hit ?_)) | refine .exit (.miss (.miss (.hit ?_))) | refine .wr ?_ | refine .lit1 ?_ | fail)
  refine .ret ?_
  exact fin_own (.row 1 2) rfl rfl rfl rfl

set_option maxRecDepth 100000 in
theorem can26 (bs : List Int) (x : Int) (hb : bs.length ≤ 1000000) : Ab.Can Try.prog 26 [.sl 5 .ro (bytesP bs), .int .u32 x] H0 (.sl 5 (.own (.rrow 0)) (bytesP (bs ++ leN 4 x))) H0 := by
  refine can_of tabOK mix Try.call26 Try.func26 rfl (by kernel_rfl) (by show _ ≤ 8; simp) fun hl => ?_
  repeat' (first | refine .nil ?_ | refine .seq ?_ | refine .region ?_ | refine .move ?_ | refine .assign ?_ | refine .add ?_ | refine .sub ?_ | refine .mul ?_ | refine .val ?_ | refine .val ?_ (hc := by omega) | refine .skip ?_ | refine .brT ?_ | refine .brF ?_ | refine .condT ?_ | refine .condF ?_ | refine .block ?_ | refine .exit (.hit ?_) | refine .exit (.miss (.hit ?_)) | refine .exit (.miss (.miss (.hit ?_))) | refine .wr ?_ | refine .lit1 ?_ | fail)
  refine .callO' [] (.row 1 2) (can62 bs x 4 hb (by decide)) ?_
  repeat' (first | refine .nil ?_ | refine .seq ?_ | refine .region ?_ | refine .move ?_ | refine .assign ?_ | refine .add ?_ | refine .sub ?_ | refine .mul ?_ | refine .val ?_ | refine .val ?_ (hc := by omega) | refine .skip ?_ | refine .brT ?_ | refine .brF ?_ | refine .condT ?_ | refine .condF ?_ | refine .block ?_ | refine .exit (.hit ?_) | refine .exit (.miss (.hit ?_)) | refine .exit (.miss (.miss (.hit ?_))) | refine .wr ?_ | refine .lit1 ?_ | fail)
  refine .ret ?_
  exact fin_own (.row 1 2) rfl rfl rfl rfl

set_option maxRecDepth 100000 in
theorem can28 (bs : List Int) (x : Int) (hb : bs.length ≤ 1000000) : Ab.Can Try.prog 28 [.sl 5 .ro (bytesP bs), .int .u64 x] H0 (.sl 5 (.own (.rrow 0)) (bytesP (bs ++ leN 8 x))) H0 := by
  refine can_of tabOK mix Try.call28 Try.func28 rfl (by kernel_rfl) (by show _ ≤ 8; simp) fun hl => ?_
  repeat' (first | refine .nil ?_ | refine .seq ?_ | refine .region ?_ | refine .move ?_ | refine .assign ?_ | refine .add ?_ | refine .sub ?_ | refine .mul ?_ | refine .val ?_ | refine .val ?_ (hc := by omega) | refine .skip ?_ | refine .brT ?_ | refine .brF ?_ | refine .condT ?_ | refine .condF ?_ | refine .block ?_ | refine .exit (.hit ?_) | refine .exit (.miss (.hit ?_)) | refine .exit (.miss (.miss (.hit ?_))) | refine .wr ?_ | refine .lit1 ?_ | fail)
  refine .callO' [] (.row 1 2) (can63 bs x 8 hb (by decide)) ?_
  repeat' (first | refine .nil ?_ | refine .seq ?_ | refine .region ?_ | refine .move ?_ | refine .assign ?_ | refine .add ?_ | refine .sub ?_ | refine .mul ?_ | refine .val ?_ | refine .val ?_ (hc := by omega) | refine .skip ?_ | refine .brT ?_ | refine .brF ?_ | refine .condT ?_ | refine .condF ?_ | refine .block ?_ | refine .exit (.hit ?_) | refine .exit (.miss (.hit ?_)) | refine .exit (.miss (.miss (.hit ?_))) | refine .wr ?_ | refine .lit1 ?_ | fail)
  refine .ret ?_
  exact fin_own (.row 1 2) rfl rfl rfl rfl

set_option maxRecDepth 100000 in
theorem can25 (bs : List Int) (x : Int) (hb : bs.length ≤ 1000000) : Ab.Can Try.prog 25 [.sl 5 .ro (bytesP bs), .int .u16 x] H0 (.sl 5 (.own (.rrow 0)) (bytesP (bs ++ leN 2 (IntKind.wrap .u64 x)))) H0 := by
  refine can_of tabOK mix Try.call25 Try.func25 rfl (by kernel_rfl) (by show _ ≤ 9; simp) fun hl => ?_
  repeat' (first | refine .nil ?_ | refine .seq ?_ | refine .region ?_ | refine .move ?_ | refine .assign ?_ | refine .add ?_ | refine .sub ?_ | refine .mul ?_ | refine .val ?_ | refine .val ?_ (hc := by omega) | refine .skip ?_ | refine .brT ?_ | refine .brF ?_ | refine .condT ?_ | refine .condF ?_ | refine .block ?_ | refine .exit (.hit ?_) | refine .exit (.miss (.hit ?_)) | refine .exit (.miss (.miss (.hit ?_))) | refine .wr ?_ | refine .lit1 ?_ | fail)
  refine .callO' [] (.row 1 3) (can60 bs (IntKind.wrap .u64 x) 2 hb (by decide)) ?_
  repeat' (first | refine .nil ?_ | refine .seq ?_ | refine .region ?_ | refine .move ?_ | refine .assign ?_ | refine .add ?_ | refine .sub ?_ | refine .mul ?_ | refine .val ?_ | refine .val ?_ (hc := by omega) | refine .skip ?_ | refine .brT ?_ | refine .brF ?_ | refine .condT ?_ | refine .condF ?_ | refine .block ?_ | refine .exit (.hit ?_) | refine .exit (.miss (.hit ?_)) | refine .exit (.miss (.miss (.hit ?_))) | refine .wr ?_ | refine .lit1 ?_ | fail)
  refine .ret ?_
  exact fin_own (.row 1 3) rfl rfl rfl rfl

set_option maxRecDepth 100000 in
theorem can27 (bs : List Int) (x : Int) (hb : bs.length ≤ 1000000) : Ab.Can Try.prog 27 [.sl 5 .ro (bytesP bs), .int .u32 x] H0 (.sl 5 (.own (.rrow 0)) (bytesP (bs ++ leN 4 (IntKind.wrap .u64 x)))) H0 := by
  refine can_of tabOK mix Try.call27 Try.func27 rfl (by kernel_rfl) (by show _ ≤ 9; simp) fun hl => ?_
  repeat' (first | refine .nil ?_ | refine .seq ?_ | refine .region ?_ | refine .move ?_ | refine .assign ?_ | refine .add ?_ | refine .sub ?_ | refine .mul ?_ | refine .val ?_ | refine .val ?_ (hc := by omega) | refine .skip ?_ | refine .brT ?_ | refine .brF ?_ | refine .condT ?_ | refine .condF ?_ | refine .block ?_ | refine .exit (.hit ?_) | refine .exit (.miss (.hit ?_)) | refine .exit (.miss (.miss (.hit ?_))) | refine .wr ?_ | refine .lit1 ?_ | fail)
  refine .callO' [] (.row 1 3) (can60 bs (IntKind.wrap .u64 x) 4 hb (by decide)) ?_
  repeat' (first | refine .nil ?_ | refine .seq ?_ | refine .region ?_ | refine .move ?_ | refine .assign ?_ | refine .add ?_ | refine .sub ?_ | refine .mul ?_ | refine .val ?_ | refine .val ?_ (hc := by omega) | refine .skip ?_ | refine .brT ?_ | refine .brF ?_ | refine .condT ?_ | refine .condF ?_ | refine .block ?_ | refine .exit (.hit ?_) | refine .exit (.miss (.hit ?_)) | refine .exit (.miss (.miss (.hit ?_))) | refine .wr ?_ | refine .lit1 ?_ | fail)
  refine .ret ?_
  exact fin_own (.row 1 3) rfl rfl rfl rfl

set_option maxRecDepth 100000 in
theorem can29 (bs : List Int) (x : Int) (hb : bs.length ≤ 1000000) : Ab.Can Try.prog 29 [.sl 5 .ro (bytesP bs), .int .u64 x] H0 (.sl 5 (.own (.rrow 0)) (bytesP (bs ++ leN 8 x))) H0 := by
  refine can_of tabOK mix Try.call29 Try.func29 rfl (by kernel_rfl) (by show _ ≤ 8; simp) fun hl => ?_
  repeat' (first | refine .nil ?_ | refine .seq ?_ | refine .region ?_ | refine .move ?_ | refine .assign ?_ | refine .add ?_ | refine .sub ?_ | refine .mul ?_ | refine .val ?_ | refine .val ?_ (hc := by omega) | refine .skip ?_ | refine .brT ?_ | refine .brF ?_ | refine .condT ?_ | refine .condF ?_ | refine .block ?_ | refine .exit (.hit ?_) | refine .exit (.miss (.hit ?_)) | refine .exit (.miss (.miss (.hit ?_))) | refine .wr ?_ | refine .lit1 ?_ | fail)
  refine .callO' [] (.row 1 2) (can60 bs x 8 hb (by decide)) ?_
  repeat' (first | refine .nil ?_ | refine .seq ?_ | refine .region ?_ | refine .move ?_ | refine .assign ?_ | refine .add ?_ | refine .sub ?_ | refine .mul ?_ | refine .val ?_ | refine .val ?_ (hc := by omega) | refine .skip ?_ | refine .brT ?_ | refine .brF ?_ | refine .condT ?_ | refine .condF ?_ | refine .block ?_ | refine .exit (.hit ?_) | refine .exit (.miss (.hit ?_)) | refine .exit (.miss (.miss (.hit ?_))) | refine .wr ?_ | refine .lit1 ?_ | fail)
  refine .ret ?_
  exact fin_own (.row 1 2) rfl rfl rfl rfl

end Go.Proofs.Ytcahjpkmldmjdaa
