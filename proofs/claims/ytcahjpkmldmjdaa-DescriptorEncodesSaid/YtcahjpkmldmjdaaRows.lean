/-
  No cell of these rows narrows 'for every input' (looked for: loops, veiled, ifaces, maps, wideKeys, modest, calm, conditions, laid).
  DERIVED. THE GIVEN ROWS OF THIS SEAT. 14 by the template 'for every input the law returns true; each argument reads behind the call as it read before'; 0 by the template 'total and deterministic' (their statements: YtcahjpkmldmjdaaTotals.lean).
  GIVEN WITH THE SEED: the statements are not yours to turn. If you find one false, say at which input.
  Laid BY PROGRAM, IN A SANDBOX (cutbox-rows.mjs): the forced cells as the released guide's own fill.sh prints them over the translation dd2407d1dde6a6ab… (all of the seat's roots in one cut). By AI agents, Wed Nov 11 2026. No macro, syntax, notation, axiom, sorry.
-/
import Derived.Test.YtcahjpkmldmjdaaChecked
import GoSem.Claim
import GoSem.ClaimJoined
import GoSem.ClaimMapViews
import Derived.JoinedTies
import Derived.KernelRfl
namespace Go.Proofs.Ytcahjpkmldmjdaa
/- THE CELL 'sum', in the pinned program and in every row, IS THE sha256 OF THE DUMP (.gsa) THAT YtcahjpkmldmjdaaProg.lean LOADS. Nothing in Lean hashes anything: it is a label: what it is worth is what the hold of that sum in a sandbox is worth. -/
noncomputable def Try.pinned : Pinned := { name := "ytcahjpkmldmjdaa", sum := "dd2407d1dde6a6ab09f6d0cf5838af31187e548ddec8f9223b3f99d67d7552a6", checked := Try.checked }
namespace Rows
def none {H : Type} : Left H := { results := [], args := [] }

/-- 'soundservicelaw01.WireSums': WHATEVER THE INPUT: true; the input reads as it did. -/
def wireSumsSpec : ChangeSpec := { name := "wireSums", fn := fun _ => fun
  | [d] => { results := [.lit (.bool true)], args := [d] }
  | _ => none }
def wireSumsRow : OpenClaim := { program := "ytcahjpkmldmjdaa", sum := "dd2407d1dde6a6ab09f6d0cf5838af31187e548ddec8f9223b3f99d67d7552a6", func := "soundservice/soundservicelaw01.WireSums", spec := "wireSums", apart := false }
def WireSumsSaid : Prop := wireSumsRow.holds Try.pinned (OpenSpec.ofChange wireSumsSpec)

/-- ITS FALSE NEIGHBOUR: 'it returns false'. Refute it at one input. -/
def wireSumsWrong : ChangeSpec := { name := "wireSums", fn := fun _ => fun
  | [d] => { results := [.lit (.bool false)], args := [d] }
  | _ => none }
def WireSumsWrongFalsely : Prop := wireSumsRow.holds Try.pinned (OpenSpec.ofChange wireSumsWrong)

/-- 'soundservicelaw01.WireDetects': WHATEVER THE INPUT: true; the input reads as it did. -/
def wireDetectsSpec : ChangeSpec := { name := "wireDetects", fn := fun _ => fun
  | [d1, d2, d3, d4] => { results := [.lit (.bool true)], args := [d1, d2, d3, d4] }
  | _ => none }
def wireDetectsRow : OpenClaim := { program := "ytcahjpkmldmjdaa", sum := "dd2407d1dde6a6ab09f6d0cf5838af31187e548ddec8f9223b3f99d67d7552a6", func := "soundservice/soundservicelaw01.WireDetects", spec := "wireDetects", apart := false }
def WireDetectsSaid : Prop := wireDetectsRow.holds Try.pinned (OpenSpec.ofChange wireDetectsSpec)

/-- ITS FALSE NEIGHBOUR: 'it returns false'. Refute it at one input. -/
def wireDetectsWrong : ChangeSpec := { name := "wireDetects", fn := fun _ => fun
  | [d1, d2, d3, d4] => { results := [.lit (.bool false)], args := [d1, d2, d3, d4] }
  | _ => none }
def WireDetectsWrongFalsely : Prop := wireDetectsRow.holds Try.pinned (OpenSpec.ofChange wireDetectsWrong)

/-- 'soundservicelaw01.WirePuts': WHATEVER THE INPUT: true; the input reads as it did. -/
def wirePutsSpec : ChangeSpec := { name := "wirePuts", fn := fun _ => fun
  | [d1, d2, d3] => { results := [.lit (.bool true)], args := [d1, d2, d3] }
  | _ => none }
def wirePutsRow : OpenClaim := { program := "ytcahjpkmldmjdaa", sum := "dd2407d1dde6a6ab09f6d0cf5838af31187e548ddec8f9223b3f99d67d7552a6", func := "soundservice/soundservicelaw01.WirePuts", spec := "wirePuts", apart := false }
def WirePutsSaid : Prop := wirePutsRow.holds Try.pinned (OpenSpec.ofChange wirePutsSpec)

/-- ITS FALSE NEIGHBOUR: 'it returns false'. Refute it at one input. -/
def wirePutsWrong : ChangeSpec := { name := "wirePuts", fn := fun _ => fun
  | [d1, d2, d3] => { results := [.lit (.bool false)], args := [d1, d2, d3] }
  | _ => none }
def WirePutsWrongFalsely : Prop := wirePutsRow.holds Try.pinned (OpenSpec.ofChange wirePutsWrong)

/-- 'soundservicelaw01.WireOffsets': WHATEVER THE INPUT: true; the input reads as it did. -/
def wireOffsetsSpec : ChangeSpec := { name := "wireOffsets", fn := fun _ => fun
  | [d1, d2] => { results := [.lit (.bool true)], args := [d1, d2] }
  | _ => none }
def wireOffsetsRow : OpenClaim := { program := "ytcahjpkmldmjdaa", sum := "dd2407d1dde6a6ab09f6d0cf5838af31187e548ddec8f9223b3f99d67d7552a6", func := "soundservice/soundservicelaw01.WireOffsets", spec := "wireOffsets", apart := false }
def WireOffsetsSaid : Prop := wireOffsetsRow.holds Try.pinned (OpenSpec.ofChange wireOffsetsSpec)

/-- ITS FALSE NEIGHBOUR: 'it returns false'. Refute it at one input. -/
def wireOffsetsWrong : ChangeSpec := { name := "wireOffsets", fn := fun _ => fun
  | [d1, d2] => { results := [.lit (.bool false)], args := [d1, d2] }
  | _ => none }
def WireOffsetsWrongFalsely : Prop := wireOffsetsRow.holds Try.pinned (OpenSpec.ofChange wireOffsetsWrong)

/-- 'soundservicelaw01.WireGets': WHATEVER THE INPUT: true; the input reads as it did. -/
def wireGetsSpec : ChangeSpec := { name := "wireGets", fn := fun _ => fun
  | [d1, d2] => { results := [.lit (.bool true)], args := [d1, d2] }
  | _ => none }
def wireGetsRow : OpenClaim := { program := "ytcahjpkmldmjdaa", sum := "dd2407d1dde6a6ab09f6d0cf5838af31187e548ddec8f9223b3f99d67d7552a6", func := "soundservice/soundservicelaw01.WireGets", spec := "wireGets", apart := false }
def WireGetsSaid : Prop := wireGetsRow.holds Try.pinned (OpenSpec.ofChange wireGetsSpec)

/-- ITS FALSE NEIGHBOUR: 'it returns false'. Refute it at one input. -/
def wireGetsWrong : ChangeSpec := { name := "wireGets", fn := fun _ => fun
  | [d1, d2] => { results := [.lit (.bool false)], args := [d1, d2] }
  | _ => none }
def WireGetsWrongFalsely : Prop := wireGetsRow.holds Try.pinned (OpenSpec.ofChange wireGetsWrong)

/-- 'soundservicelaw01.WireBack': WHATEVER THE INPUT: true; the input reads as it did. -/
def wireBackSpec : ChangeSpec := { name := "wireBack", fn := fun _ => fun
  | [d1, d2, d3, d4] => { results := [.lit (.bool true)], args := [d1, d2, d3, d4] }
  | _ => none }
def wireBackRow : OpenClaim := { program := "ytcahjpkmldmjdaa", sum := "dd2407d1dde6a6ab09f6d0cf5838af31187e548ddec8f9223b3f99d67d7552a6", func := "soundservice/soundservicelaw01.WireBack", spec := "wireBack", apart := false }
def WireBackSaid : Prop := wireBackRow.holds Try.pinned (OpenSpec.ofChange wireBackSpec)

/-- ITS FALSE NEIGHBOUR: 'it returns false'. Refute it at one input. -/
def wireBackWrong : ChangeSpec := { name := "wireBack", fn := fun _ => fun
  | [d1, d2, d3, d4] => { results := [.lit (.bool false)], args := [d1, d2, d3, d4] }
  | _ => none }
def WireBackWrongFalsely : Prop := wireBackRow.holds Try.pinned (OpenSpec.ofChange wireBackWrong)

/-- 'soundservicelaw11.DescriptorCuts': WHATEVER THE INPUT: true; the input reads as it did. -/
def descriptorCutsSpec : ChangeSpec := { name := "descriptorCuts", fn := fun _ => fun
  | [d1, d2] => { results := [.lit (.bool true)], args := [d1, d2] }
  | _ => none }
def descriptorCutsRow : OpenClaim := { program := "ytcahjpkmldmjdaa", sum := "dd2407d1dde6a6ab09f6d0cf5838af31187e548ddec8f9223b3f99d67d7552a6", func := "soundservice/soundservicelaw11.DescriptorCuts", spec := "descriptorCuts", unfollowed := true, recurses := true, apart := false }
def DescriptorCutsSaid : Prop := descriptorCutsRow.holds Try.pinned (OpenSpec.ofChange descriptorCutsSpec)

/-- ITS FALSE NEIGHBOUR: 'it returns false'. Refute it at one input. -/
def descriptorCutsWrong : ChangeSpec := { name := "descriptorCuts", fn := fun _ => fun
  | [d1, d2] => { results := [.lit (.bool false)], args := [d1, d2] }
  | _ => none }
def DescriptorCutsWrongFalsely : Prop := descriptorCutsRow.holds Try.pinned (OpenSpec.ofChange descriptorCutsWrong)

/-- 'soundservicelaw11.DescriptorTwice': WHATEVER THE INPUT: true; the input reads as it did. -/
def descriptorTwiceSpec : ChangeSpec := { name := "descriptorTwice", fn := fun _ => fun
  | [d1, d2] => { results := [.lit (.bool true)], args := [d1, d2] }
  | _ => none }
def descriptorTwiceRow : OpenClaim := { program := "ytcahjpkmldmjdaa", sum := "dd2407d1dde6a6ab09f6d0cf5838af31187e548ddec8f9223b3f99d67d7552a6", func := "soundservice/soundservicelaw11.DescriptorTwice", spec := "descriptorTwice", unfollowed := true, recurses := true, apart := false }
def DescriptorTwiceSaid : Prop := descriptorTwiceRow.holds Try.pinned (OpenSpec.ofChange descriptorTwiceSpec)

/-- ITS FALSE NEIGHBOUR: 'it returns false'. Refute it at one input. -/
def descriptorTwiceWrong : ChangeSpec := { name := "descriptorTwice", fn := fun _ => fun
  | [d1, d2] => { results := [.lit (.bool false)], args := [d1, d2] }
  | _ => none }
def DescriptorTwiceWrongFalsely : Prop := descriptorTwiceRow.holds Try.pinned (OpenSpec.ofChange descriptorTwiceWrong)

/-- 'soundservicelaw40.JournalAppends': WHATEVER THE INPUT: true; the input reads as it did. -/
def journalAppendsSpec : ChangeSpec := { name := "journalAppends", fn := fun _ => fun
  | [d1, d2, d3, d4] => { results := [.lit (.bool true)], args := [d1, d2, d3, d4] }
  | _ => none }
def journalAppendsRow : OpenClaim := { program := "ytcahjpkmldmjdaa", sum := "dd2407d1dde6a6ab09f6d0cf5838af31187e548ddec8f9223b3f99d67d7552a6", func := "soundservice/soundservicelaw40.JournalAppends", spec := "journalAppends", apart := false }
def JournalAppendsSaid : Prop := journalAppendsRow.holds Try.pinned (OpenSpec.ofChange journalAppendsSpec)

/-- ITS FALSE NEIGHBOUR: 'it returns false'. Refute it at one input. -/
def journalAppendsWrong : ChangeSpec := { name := "journalAppends", fn := fun _ => fun
  | [d1, d2, d3, d4] => { results := [.lit (.bool false)], args := [d1, d2, d3, d4] }
  | _ => none }
def JournalAppendsWrongFalsely : Prop := journalAppendsRow.holds Try.pinned (OpenSpec.ofChange journalAppendsWrong)

/-- 'soundservicelaw40.JournalReads': WHATEVER THE INPUT: true; the input reads as it did. -/
def journalReadsSpec : ChangeSpec := { name := "journalReads", fn := fun _ => fun
  | [d1, d2, d3, d4] => { results := [.lit (.bool true)], args := [d1, d2, d3, d4] }
  | _ => none }
def journalReadsRow : OpenClaim := { program := "ytcahjpkmldmjdaa", sum := "dd2407d1dde6a6ab09f6d0cf5838af31187e548ddec8f9223b3f99d67d7552a6", func := "soundservice/soundservicelaw40.JournalReads", spec := "journalReads", apart := false }
def JournalReadsSaid : Prop := journalReadsRow.holds Try.pinned (OpenSpec.ofChange journalReadsSpec)

/-- ITS FALSE NEIGHBOUR: 'it returns false'. Refute it at one input. -/
def journalReadsWrong : ChangeSpec := { name := "journalReads", fn := fun _ => fun
  | [d1, d2, d3, d4] => { results := [.lit (.bool false)], args := [d1, d2, d3, d4] }
  | _ => none }
def JournalReadsWrongFalsely : Prop := journalReadsRow.holds Try.pinned (OpenSpec.ofChange journalReadsWrong)

/-- 'soundservicelaw40.JournalSurvives': WHATEVER THE INPUT: true; the input reads as it did. -/
def journalSurvivesSpec : ChangeSpec := { name := "journalSurvives", fn := fun _ => fun
  | [d1, d2, d3] => { results := [.lit (.bool true)], args := [d1, d2, d3] }
  | _ => none }
def journalSurvivesRow : OpenClaim := { program := "ytcahjpkmldmjdaa", sum := "dd2407d1dde6a6ab09f6d0cf5838af31187e548ddec8f9223b3f99d67d7552a6", func := "soundservice/soundservicelaw40.JournalSurvives", spec := "journalSurvives", apart := false }
def JournalSurvivesSaid : Prop := journalSurvivesRow.holds Try.pinned (OpenSpec.ofChange journalSurvivesSpec)

/-- ITS FALSE NEIGHBOUR: 'it returns false'. Refute it at one input. -/
def journalSurvivesWrong : ChangeSpec := { name := "journalSurvives", fn := fun _ => fun
  | [d1, d2, d3] => { results := [.lit (.bool false)], args := [d1, d2, d3] }
  | _ => none }
def JournalSurvivesWrongFalsely : Prop := journalSurvivesRow.holds Try.pinned (OpenSpec.ofChange journalSurvivesWrong)

/-- 'soundservicelaw11.DescriptorEncodes': WHATEVER THE INPUT: true; the input reads as it did. -/
def descriptorEncodesSpec : ChangeSpec := { name := "descriptorEncodes", fn := fun _ => fun
  | [d1, d2, d3, d4] => { results := [.lit (.bool true)], args := [d1, d2, d3, d4] }
  | _ => none }
def descriptorEncodesRow : OpenClaim := { program := "ytcahjpkmldmjdaa", sum := "dd2407d1dde6a6ab09f6d0cf5838af31187e548ddec8f9223b3f99d67d7552a6", func := "soundservice/soundservicelaw11.DescriptorEncodes", spec := "descriptorEncodes", unfollowed := true, recurses := true, apart := false }
def DescriptorEncodesSaid : Prop := descriptorEncodesRow.holds Try.pinned (OpenSpec.ofChange descriptorEncodesSpec)

/-- ITS FALSE NEIGHBOUR: 'it returns false'. Refute it at one input. -/
def descriptorEncodesWrong : ChangeSpec := { name := "descriptorEncodes", fn := fun _ => fun
  | [d1, d2, d3, d4] => { results := [.lit (.bool false)], args := [d1, d2, d3, d4] }
  | _ => none }
def DescriptorEncodesWrongFalsely : Prop := descriptorEncodesRow.holds Try.pinned (OpenSpec.ofChange descriptorEncodesWrong)

/-- 'soundservicelaw11.DescriptorDecodes': WHATEVER THE INPUT: true; the input reads as it did. -/
def descriptorDecodesSpec : ChangeSpec := { name := "descriptorDecodes", fn := fun _ => fun
  | [d1, d2, d3, d4, d5] => { results := [.lit (.bool true)], args := [d1, d2, d3, d4, d5] }
  | _ => none }
def descriptorDecodesRow : OpenClaim := { program := "ytcahjpkmldmjdaa", sum := "dd2407d1dde6a6ab09f6d0cf5838af31187e548ddec8f9223b3f99d67d7552a6", func := "soundservice/soundservicelaw11.DescriptorDecodes", spec := "descriptorDecodes", unfollowed := true, recurses := true, apart := false }
def DescriptorDecodesSaid : Prop := descriptorDecodesRow.holds Try.pinned (OpenSpec.ofChange descriptorDecodesSpec)

/-- ITS FALSE NEIGHBOUR: 'it returns false'. Refute it at one input. -/
def descriptorDecodesWrong : ChangeSpec := { name := "descriptorDecodes", fn := fun _ => fun
  | [d1, d2, d3, d4, d5] => { results := [.lit (.bool false)], args := [d1, d2, d3, d4, d5] }
  | _ => none }
def DescriptorDecodesWrongFalsely : Prop := descriptorDecodesRow.holds Try.pinned (OpenSpec.ofChange descriptorDecodesWrong)

/-- 'soundservicelaw11.DescriptorBack': WHATEVER THE INPUT: true; the input reads as it did. -/
def descriptorBackSpec : ChangeSpec := { name := "descriptorBack", fn := fun _ => fun
  | [d1, d2, d3] => { results := [.lit (.bool true)], args := [d1, d2, d3] }
  | _ => none }
def descriptorBackRow : OpenClaim := { program := "ytcahjpkmldmjdaa", sum := "dd2407d1dde6a6ab09f6d0cf5838af31187e548ddec8f9223b3f99d67d7552a6", func := "soundservice/soundservicelaw11.DescriptorBack", spec := "descriptorBack", unfollowed := true, recurses := true, apart := false }
def DescriptorBackSaid : Prop := descriptorBackRow.holds Try.pinned (OpenSpec.ofChange descriptorBackSpec)

/-- ITS FALSE NEIGHBOUR: 'it returns false'. Refute it at one input. -/
def descriptorBackWrong : ChangeSpec := { name := "descriptorBack", fn := fun _ => fun
  | [d1, d2, d3] => { results := [.lit (.bool false)], args := [d1, d2, d3] }
  | _ => none }
def DescriptorBackWrongFalsely : Prop := descriptorBackRow.holds Try.pinned (OpenSpec.ofChange descriptorBackWrong)

/- THE SECOND FORM. 'bulk': how many values and letters a reading holds, each counted each time it is reached (what is shared counts as often as it is met; a slice's spare places count too). A statement '..UptoSaid' is the law's where the arguments, and the package variables that the reading takes, are together of bulk at most 1048576: NARROWER than '..Said'. Prove '..Said' where nothing that the law and all that it calls make is longer than what came in: it says more and counts as full. Else prove '..UptoSaid'. A law counts once. -/
mutual
def uptoBulk {H : Type} : DataW H → Nat
  | .lit (.string bytes) => bytes.length + 1
  | .lit _ => 1
  | .nil => 1
  | .ptr d => uptoBulk d + 1
  | .slice elems spare => uptoBulkAll elems + uptoBulkAll spare + 1
  | .agg parts => uptoBulkAll parts + 1
  | .iface _ d => uptoBulk d + 1
  | .map entries => uptoBulkEntries entries + 1
  | .held _ => 1
def uptoBulkAll {H : Type} : List (DataW H) → Nat
  | [] => 0
  | d :: r => uptoBulk d + uptoBulkAll r
def uptoBulkEntries {H : Type} : List (Lit × DataW H) → Nat
  | [] => 0
  | x :: r => uptoBulkEntry x + uptoBulkEntries r
def uptoBulkEntry {H : Type} : Lit × DataW H → Nat
  | (.string bytes, d) => bytes.length + uptoBulk d + 1
  | (_, d) => uptoBulk d + 1
 end
def uptoSmall : (H : Type) → List (DataW H) → Bool := fun _ ds => decide (uptoBulkAll ds ≤ 1048576)
def OpenSpec.upto (s : _root_.Go.ChangeSpec) : _root_.Go.OpenSpec := { _root_.Go.OpenSpec.ofChange s with cond := some uptoSmall }

/-- 'soundservicelaw01.WireSums', WHERE WHAT IT READS IS OF BULK AT MOST 1048576: true; the input reads as it did. -/
def wireSumsUptoRow : OpenClaim := { program := "ytcahjpkmldmjdaa", sum := "dd2407d1dde6a6ab09f6d0cf5838af31187e548ddec8f9223b3f99d67d7552a6", func := "soundservice/soundservicelaw01.WireSums", spec := "wireSums", apart := false, narrowed := true }
def WireSumsUptoSaid : Prop := wireSumsUptoRow.holds Try.pinned (OpenSpec.upto wireSumsSpec)

/-- 'soundservicelaw01.WireDetects', WHERE WHAT IT READS IS OF BULK AT MOST 1048576: true; the input reads as it did. -/
def wireDetectsUptoRow : OpenClaim := { program := "ytcahjpkmldmjdaa", sum := "dd2407d1dde6a6ab09f6d0cf5838af31187e548ddec8f9223b3f99d67d7552a6", func := "soundservice/soundservicelaw01.WireDetects", spec := "wireDetects", apart := false, narrowed := true }
def WireDetectsUptoSaid : Prop := wireDetectsUptoRow.holds Try.pinned (OpenSpec.upto wireDetectsSpec)

/-- 'soundservicelaw01.WirePuts', WHERE WHAT IT READS IS OF BULK AT MOST 1048576: true; the input reads as it did. -/
def wirePutsUptoRow : OpenClaim := { program := "ytcahjpkmldmjdaa", sum := "dd2407d1dde6a6ab09f6d0cf5838af31187e548ddec8f9223b3f99d67d7552a6", func := "soundservice/soundservicelaw01.WirePuts", spec := "wirePuts", apart := false, narrowed := true }
def WirePutsUptoSaid : Prop := wirePutsUptoRow.holds Try.pinned (OpenSpec.upto wirePutsSpec)

/-- 'soundservicelaw01.WireOffsets', WHERE WHAT IT READS IS OF BULK AT MOST 1048576: true; the input reads as it did. -/
def wireOffsetsUptoRow : OpenClaim := { program := "ytcahjpkmldmjdaa", sum := "dd2407d1dde6a6ab09f6d0cf5838af31187e548ddec8f9223b3f99d67d7552a6", func := "soundservice/soundservicelaw01.WireOffsets", spec := "wireOffsets", apart := false, narrowed := true }
def WireOffsetsUptoSaid : Prop := wireOffsetsUptoRow.holds Try.pinned (OpenSpec.upto wireOffsetsSpec)

/-- 'soundservicelaw01.WireGets', WHERE WHAT IT READS IS OF BULK AT MOST 1048576: true; the input reads as it did. -/
def wireGetsUptoRow : OpenClaim := { program := "ytcahjpkmldmjdaa", sum := "dd2407d1dde6a6ab09f6d0cf5838af31187e548ddec8f9223b3f99d67d7552a6", func := "soundservice/soundservicelaw01.WireGets", spec := "wireGets", apart := false, narrowed := true }
def WireGetsUptoSaid : Prop := wireGetsUptoRow.holds Try.pinned (OpenSpec.upto wireGetsSpec)

/-- 'soundservicelaw01.WireBack', WHERE WHAT IT READS IS OF BULK AT MOST 1048576: true; the input reads as it did. -/
def wireBackUptoRow : OpenClaim := { program := "ytcahjpkmldmjdaa", sum := "dd2407d1dde6a6ab09f6d0cf5838af31187e548ddec8f9223b3f99d67d7552a6", func := "soundservice/soundservicelaw01.WireBack", spec := "wireBack", apart := false, narrowed := true }
def WireBackUptoSaid : Prop := wireBackUptoRow.holds Try.pinned (OpenSpec.upto wireBackSpec)

/-- 'soundservicelaw11.DescriptorCuts', WHERE WHAT IT READS IS OF BULK AT MOST 1048576: true; the input reads as it did. -/
def descriptorCutsUptoRow : OpenClaim := { program := "ytcahjpkmldmjdaa", sum := "dd2407d1dde6a6ab09f6d0cf5838af31187e548ddec8f9223b3f99d67d7552a6", func := "soundservice/soundservicelaw11.DescriptorCuts", spec := "descriptorCuts", unfollowed := true, recurses := true, apart := false, narrowed := true }
def DescriptorCutsUptoSaid : Prop := descriptorCutsUptoRow.holds Try.pinned (OpenSpec.upto descriptorCutsSpec)

/-- 'soundservicelaw11.DescriptorTwice', WHERE WHAT IT READS IS OF BULK AT MOST 1048576: true; the input reads as it did. -/
def descriptorTwiceUptoRow : OpenClaim := { program := "ytcahjpkmldmjdaa", sum := "dd2407d1dde6a6ab09f6d0cf5838af31187e548ddec8f9223b3f99d67d7552a6", func := "soundservice/soundservicelaw11.DescriptorTwice", spec := "descriptorTwice", unfollowed := true, recurses := true, apart := false, narrowed := true }
def DescriptorTwiceUptoSaid : Prop := descriptorTwiceUptoRow.holds Try.pinned (OpenSpec.upto descriptorTwiceSpec)

/-- 'soundservicelaw40.JournalAppends', WHERE WHAT IT READS IS OF BULK AT MOST 1048576: true; the input reads as it did. -/
def journalAppendsUptoRow : OpenClaim := { program := "ytcahjpkmldmjdaa", sum := "dd2407d1dde6a6ab09f6d0cf5838af31187e548ddec8f9223b3f99d67d7552a6", func := "soundservice/soundservicelaw40.JournalAppends", spec := "journalAppends", apart := false, narrowed := true }
def JournalAppendsUptoSaid : Prop := journalAppendsUptoRow.holds Try.pinned (OpenSpec.upto journalAppendsSpec)

/-- 'soundservicelaw40.JournalReads', WHERE WHAT IT READS IS OF BULK AT MOST 1048576: true; the input reads as it did. -/
def journalReadsUptoRow : OpenClaim := { program := "ytcahjpkmldmjdaa", sum := "dd2407d1dde6a6ab09f6d0cf5838af31187e548ddec8f9223b3f99d67d7552a6", func := "soundservice/soundservicelaw40.JournalReads", spec := "journalReads", apart := false, narrowed := true }
def JournalReadsUptoSaid : Prop := journalReadsUptoRow.holds Try.pinned (OpenSpec.upto journalReadsSpec)

/-- 'soundservicelaw40.JournalSurvives', WHERE WHAT IT READS IS OF BULK AT MOST 1048576: true; the input reads as it did. -/
def journalSurvivesUptoRow : OpenClaim := { program := "ytcahjpkmldmjdaa", sum := "dd2407d1dde6a6ab09f6d0cf5838af31187e548ddec8f9223b3f99d67d7552a6", func := "soundservice/soundservicelaw40.JournalSurvives", spec := "journalSurvives", apart := false, narrowed := true }
def JournalSurvivesUptoSaid : Prop := journalSurvivesUptoRow.holds Try.pinned (OpenSpec.upto journalSurvivesSpec)

/-- 'soundservicelaw11.DescriptorEncodes', WHERE WHAT IT READS IS OF BULK AT MOST 1048576: true; the input reads as it did. -/
def descriptorEncodesUptoRow : OpenClaim := { program := "ytcahjpkmldmjdaa", sum := "dd2407d1dde6a6ab09f6d0cf5838af31187e548ddec8f9223b3f99d67d7552a6", func := "soundservice/soundservicelaw11.DescriptorEncodes", spec := "descriptorEncodes", unfollowed := true, recurses := true, apart := false, narrowed := true }
def DescriptorEncodesUptoSaid : Prop := descriptorEncodesUptoRow.holds Try.pinned (OpenSpec.upto descriptorEncodesSpec)

/-- 'soundservicelaw11.DescriptorDecodes', WHERE WHAT IT READS IS OF BULK AT MOST 1048576: true; the input reads as it did. -/
def descriptorDecodesUptoRow : OpenClaim := { program := "ytcahjpkmldmjdaa", sum := "dd2407d1dde6a6ab09f6d0cf5838af31187e548ddec8f9223b3f99d67d7552a6", func := "soundservice/soundservicelaw11.DescriptorDecodes", spec := "descriptorDecodes", unfollowed := true, recurses := true, apart := false, narrowed := true }
def DescriptorDecodesUptoSaid : Prop := descriptorDecodesUptoRow.holds Try.pinned (OpenSpec.upto descriptorDecodesSpec)

/-- 'soundservicelaw11.DescriptorBack', WHERE WHAT IT READS IS OF BULK AT MOST 1048576: true; the input reads as it did. -/
def descriptorBackUptoRow : OpenClaim := { program := "ytcahjpkmldmjdaa", sum := "dd2407d1dde6a6ab09f6d0cf5838af31187e548ddec8f9223b3f99d67d7552a6", func := "soundservice/soundservicelaw11.DescriptorBack", spec := "descriptorBack", unfollowed := true, recurses := true, apart := false, narrowed := true }
def DescriptorBackUptoSaid : Prop := descriptorBackUptoRow.holds Try.pinned (OpenSpec.upto descriptorBackSpec)

end Rows
end Go.Proofs.Ytcahjpkmldmjdaa
