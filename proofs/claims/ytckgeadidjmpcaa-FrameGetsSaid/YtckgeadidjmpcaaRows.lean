/-
  No cell of these rows narrows 'for every input' (looked for: loops, veiled, ifaces, maps, wideKeys, modest, calm, conditions, laid).
  DERIVED. THE GIVEN ROWS OF THIS SEAT. 15 by the template 'for every input the law returns true; each argument reads behind the call as it read before'; 0 by the template 'total and deterministic' (their statements: YtckgeadidjmpcaaTotals.lean).
  GIVEN WITH THE SEED: the statements are not yours to turn. If you find one false, say at which input.
  Laid BY PROGRAM, IN A SANDBOX (cutbox-rows.mjs): the forced cells as the released guide's own fill.sh prints them over the translation 20bfb9bfe71cf5a2… (all of the seat's roots in one cut). By AI agents, Wed Nov 11 2026. No macro, syntax, notation, axiom, sorry.
-/
import Derived.Test.YtckgeadidjmpcaaChecked
import GoSem.Claim
import GoSem.ClaimJoined
import GoSem.ClaimMapViews
import Derived.JoinedTies
import Derived.KernelRfl
namespace Go.Proofs.Ytckgeadidjmpcaa
/- THE CELL 'sum', in the pinned program and in every row, IS THE sha256 OF THE DUMP (.gsa) THAT YtckgeadidjmpcaaProg.lean LOADS. Nothing in Lean hashes anything: it is a label: what it is worth is what the hold of that sum in a sandbox is worth. -/
noncomputable def Try.pinned : Pinned := { name := "ytckgeadidjmpcaa", sum := "20bfb9bfe71cf5a20b986effe84a75e1bf4634b1a08157e5c33c444e3d59b739", checked := Try.checked }
namespace Rows
def none {H : Type} : Left H := { results := [], args := [] }

/-- 'alibilaw01.VarintBack': WHATEVER THE INPUT: true; the input reads as it did. -/
def varintBackSpec : ChangeSpec := { name := "varintBack", fn := fun _ => fun
  | [d1, d2, d3, d4] => { results := [.lit (.bool true)], args := [d1, d2, d3, d4] }
  | _ => none }
def varintBackRow : OpenClaim := { program := "ytckgeadidjmpcaa", sum := "20bfb9bfe71cf5a20b986effe84a75e1bf4634b1a08157e5c33c444e3d59b739", func := "alibi/alibilaw01.VarintBack", spec := "varintBack", unfollowed := true, recurses := true, apart := false }
def VarintBackSaid : Prop := varintBackRow.holds Try.pinned (OpenSpec.ofChange varintBackSpec)

/-- ITS FALSE NEIGHBOUR: 'it returns false'. Refute it at one input. -/
def varintBackWrong : ChangeSpec := { name := "varintBack", fn := fun _ => fun
  | [d1, d2, d3, d4] => { results := [.lit (.bool false)], args := [d1, d2, d3, d4] }
  | _ => none }
def VarintBackWrongFalsely : Prop := varintBackRow.holds Try.pinned (OpenSpec.ofChange varintBackWrong)

/-- 'alibilaw01.VarintGets': WHATEVER THE INPUT: true; the input reads as it did. -/
def varintGetsSpec : ChangeSpec := { name := "varintGets", fn := fun _ => fun
  | [d1, d2, d3] => { results := [.lit (.bool true)], args := [d1, d2, d3] }
  | _ => none }
def varintGetsRow : OpenClaim := { program := "ytckgeadidjmpcaa", sum := "20bfb9bfe71cf5a20b986effe84a75e1bf4634b1a08157e5c33c444e3d59b739", func := "alibi/alibilaw01.VarintGets", spec := "varintGets", unfollowed := true, recurses := true, apart := false }
def VarintGetsSaid : Prop := varintGetsRow.holds Try.pinned (OpenSpec.ofChange varintGetsSpec)

/-- ITS FALSE NEIGHBOUR: 'it returns false'. Refute it at one input. -/
def varintGetsWrong : ChangeSpec := { name := "varintGets", fn := fun _ => fun
  | [d1, d2, d3] => { results := [.lit (.bool false)], args := [d1, d2, d3] }
  | _ => none }
def VarintGetsWrongFalsely : Prop := varintGetsRow.holds Try.pinned (OpenSpec.ofChange varintGetsWrong)

/-- 'alibilaw02.CrcOpens': WHATEVER THE INPUT: true; the input reads as it did. -/
def crcOpensSpec : ChangeSpec := { name := "crcOpens", fn := fun _ => fun
  | [d] => { results := [.lit (.bool true)], args := [d] }
  | _ => none }
def crcOpensRow : OpenClaim := { program := "ytckgeadidjmpcaa", sum := "20bfb9bfe71cf5a20b986effe84a75e1bf4634b1a08157e5c33c444e3d59b739", func := "alibi/alibilaw02.CrcOpens", spec := "crcOpens", inPlace := ["internal/bytealg.MakeNoZero"], apart := false }
def CrcOpensSaid : Prop := crcOpensRow.holds Try.pinned (OpenSpec.ofChange crcOpensSpec)

/-- ITS FALSE NEIGHBOUR: 'it returns false'. Refute it at one input. -/
def crcOpensWrong : ChangeSpec := { name := "crcOpens", fn := fun _ => fun
  | [d] => { results := [.lit (.bool false)], args := [d] }
  | _ => none }
def CrcOpensWrongFalsely : Prop := crcOpensRow.holds Try.pinned (OpenSpec.ofChange crcOpensWrong)

/-- 'alibilaw02.CrcFinds': WHATEVER THE INPUT: true; the input reads as it did. -/
def crcFindsSpec : ChangeSpec := { name := "crcFinds", fn := fun _ => fun
  | [d1, d2, d3] => { results := [.lit (.bool true)], args := [d1, d2, d3] }
  | _ => none }
def crcFindsRow : OpenClaim := { program := "ytckgeadidjmpcaa", sum := "20bfb9bfe71cf5a20b986effe84a75e1bf4634b1a08157e5c33c444e3d59b739", func := "alibi/alibilaw02.CrcFinds", spec := "crcFinds", inPlace := ["internal/bytealg.MakeNoZero"], apart := false }
def CrcFindsSaid : Prop := crcFindsRow.holds Try.pinned (OpenSpec.ofChange crcFindsSpec)

/-- ITS FALSE NEIGHBOUR: 'it returns false'. Refute it at one input. -/
def crcFindsWrong : ChangeSpec := { name := "crcFinds", fn := fun _ => fun
  | [d1, d2, d3] => { results := [.lit (.bool false)], args := [d1, d2, d3] }
  | _ => none }
def CrcFindsWrongFalsely : Prop := crcFindsRow.holds Try.pinned (OpenSpec.ofChange crcFindsWrong)

/-- 'alibilaw02.CrcJoins': WHATEVER THE INPUT: true; the input reads as it did. -/
def crcJoinsSpec : ChangeSpec := { name := "crcJoins", fn := fun _ => fun
  | [d1, d2, d3] => { results := [.lit (.bool true)], args := [d1, d2, d3] }
  | _ => none }
def crcJoinsRow : OpenClaim := { program := "ytckgeadidjmpcaa", sum := "20bfb9bfe71cf5a20b986effe84a75e1bf4634b1a08157e5c33c444e3d59b739", func := "alibi/alibilaw02.CrcJoins", spec := "crcJoins", inPlace := ["internal/bytealg.MakeNoZero"], apart := false }
def CrcJoinsSaid : Prop := crcJoinsRow.holds Try.pinned (OpenSpec.ofChange crcJoinsSpec)

/-- ITS FALSE NEIGHBOUR: 'it returns false'. Refute it at one input. -/
def crcJoinsWrong : ChangeSpec := { name := "crcJoins", fn := fun _ => fun
  | [d1, d2, d3] => { results := [.lit (.bool false)], args := [d1, d2, d3] }
  | _ => none }
def CrcJoinsWrongFalsely : Prop := crcJoinsRow.holds Try.pinned (OpenSpec.ofChange crcJoinsWrong)

/-- 'alibilaw01.VarintWrites': WHATEVER THE INPUT: true; the input reads as it did. -/
def varintWritesSpec : ChangeSpec := { name := "varintWrites", fn := fun _ => fun
  | [d] => { results := [.lit (.bool true)], args := [d] }
  | _ => none }
def varintWritesRow : OpenClaim := { program := "ytckgeadidjmpcaa", sum := "20bfb9bfe71cf5a20b986effe84a75e1bf4634b1a08157e5c33c444e3d59b739", func := "alibi/alibilaw01.VarintWrites", spec := "varintWrites", unfollowed := true, recurses := true, apart := false }
def VarintWritesSaid : Prop := varintWritesRow.holds Try.pinned (OpenSpec.ofChange varintWritesSpec)

/-- ITS FALSE NEIGHBOUR: 'it returns false'. Refute it at one input. -/
def varintWritesWrong : ChangeSpec := { name := "varintWrites", fn := fun _ => fun
  | [d] => { results := [.lit (.bool false)], args := [d] }
  | _ => none }
def VarintWritesWrongFalsely : Prop := varintWritesRow.holds Try.pinned (OpenSpec.ofChange varintWritesWrong)

/-- 'alibilaw02.CrcTells': WHATEVER THE INPUT: true; the input reads as it did. -/
def crcTellsSpec : ChangeSpec := { name := "crcTells", fn := fun _ => fun
  | [d] => { results := [.lit (.bool true)], args := [d] }
  | _ => none }
def crcTellsRow : OpenClaim := { program := "ytckgeadidjmpcaa", sum := "20bfb9bfe71cf5a20b986effe84a75e1bf4634b1a08157e5c33c444e3d59b739", func := "alibi/alibilaw02.CrcTells", spec := "crcTells", inPlace := ["internal/bytealg.MakeNoZero"], apart := false }
def CrcTellsSaid : Prop := crcTellsRow.holds Try.pinned (OpenSpec.ofChange crcTellsSpec)

/-- ITS FALSE NEIGHBOUR: 'it returns false'. Refute it at one input. -/
def crcTellsWrong : ChangeSpec := { name := "crcTells", fn := fun _ => fun
  | [d] => { results := [.lit (.bool false)], args := [d] }
  | _ => none }
def CrcTellsWrongFalsely : Prop := crcTellsRow.holds Try.pinned (OpenSpec.ofChange crcTellsWrong)

/-- 'alibilaw02.CrcKnown': WHATEVER THE INPUT: true; the input reads as it did. -/
def crcKnownSpec : ChangeSpec := { name := "crcKnown", fn := fun _ => fun
  | [] => { results := [.lit (.bool true)], args := [] }
  | _ => none }
def crcKnownRow : OpenClaim := { program := "ytckgeadidjmpcaa", sum := "20bfb9bfe71cf5a20b986effe84a75e1bf4634b1a08157e5c33c444e3d59b739", func := "alibi/alibilaw02.CrcKnown", spec := "crcKnown", inPlace := ["internal/bytealg.MakeNoZero"], apart := false }
def CrcKnownSaid : Prop := crcKnownRow.holds Try.pinned (OpenSpec.ofChange crcKnownSpec)

/-- ITS FALSE NEIGHBOUR: 'it returns false'. Refute it at one input. -/
def crcKnownWrong : ChangeSpec := { name := "crcKnown", fn := fun _ => fun
  | [] => { results := [.lit (.bool false)], args := [] }
  | _ => none }
def CrcKnownWrongFalsely : Prop := crcKnownRow.holds Try.pinned (OpenSpec.ofChange crcKnownWrong)

/-- 'alibilaw01.VarintReads': WHATEVER THE INPUT: true; the input reads as it did. -/
def varintReadsSpec : ChangeSpec := { name := "varintReads", fn := fun _ => fun
  | [d1, d2] => { results := [.lit (.bool true)], args := [d1, d2] }
  | _ => none }
def varintReadsRow : OpenClaim := { program := "ytckgeadidjmpcaa", sum := "20bfb9bfe71cf5a20b986effe84a75e1bf4634b1a08157e5c33c444e3d59b739", func := "alibi/alibilaw01.VarintReads", spec := "varintReads", unfollowed := true, recurses := true, apart := false }
def VarintReadsSaid : Prop := varintReadsRow.holds Try.pinned (OpenSpec.ofChange varintReadsSpec)

/-- ITS FALSE NEIGHBOUR: 'it returns false'. Refute it at one input. -/
def varintReadsWrong : ChangeSpec := { name := "varintReads", fn := fun _ => fun
  | [d1, d2] => { results := [.lit (.bool false)], args := [d1, d2] }
  | _ => none }
def VarintReadsWrongFalsely : Prop := varintReadsRow.holds Try.pinned (OpenSpec.ofChange varintReadsWrong)

/-- 'alibilaw01.VarintNone': WHATEVER THE INPUT: true; the input reads as it did. -/
def varintNoneSpec : ChangeSpec := { name := "varintNone", fn := fun _ => fun
  | [d] => { results := [.lit (.bool true)], args := [d] }
  | _ => none }
def varintNoneRow : OpenClaim := { program := "ytckgeadidjmpcaa", sum := "20bfb9bfe71cf5a20b986effe84a75e1bf4634b1a08157e5c33c444e3d59b739", func := "alibi/alibilaw01.VarintNone", spec := "varintNone", unfollowed := true, recurses := true, apart := false }
def VarintNoneSaid : Prop := varintNoneRow.holds Try.pinned (OpenSpec.ofChange varintNoneSpec)

/-- ITS FALSE NEIGHBOUR: 'it returns false'. Refute it at one input. -/
def varintNoneWrong : ChangeSpec := { name := "varintNone", fn := fun _ => fun
  | [d] => { results := [.lit (.bool false)], args := [d] }
  | _ => none }
def VarintNoneWrongFalsely : Prop := varintNoneRow.holds Try.pinned (OpenSpec.ofChange varintNoneWrong)

/-- 'alibilaw01.VarintKnown': WHATEVER THE INPUT: true; the input reads as it did. -/
def varintKnownSpec : ChangeSpec := { name := "varintKnown", fn := fun _ => fun
  | [] => { results := [.lit (.bool true)], args := [] }
  | _ => none }
def varintKnownRow : OpenClaim := { program := "ytckgeadidjmpcaa", sum := "20bfb9bfe71cf5a20b986effe84a75e1bf4634b1a08157e5c33c444e3d59b739", func := "alibi/alibilaw01.VarintKnown", spec := "varintKnown", unfollowed := true, recurses := true, apart := false }
def VarintKnownSaid : Prop := varintKnownRow.holds Try.pinned (OpenSpec.ofChange varintKnownSpec)

/-- ITS FALSE NEIGHBOUR: 'it returns false'. Refute it at one input. -/
def varintKnownWrong : ChangeSpec := { name := "varintKnown", fn := fun _ => fun
  | [] => { results := [.lit (.bool false)], args := [] }
  | _ => none }
def VarintKnownWrongFalsely : Prop := varintKnownRow.holds Try.pinned (OpenSpec.ofChange varintKnownWrong)

/-- 'alibilaw03.FrameGets': WHATEVER THE INPUT: true; the input reads as it did. -/
def frameGetsSpec : ChangeSpec := { name := "frameGets", fn := fun _ => fun
  | [d1, d2] => { results := [.lit (.bool true)], args := [d1, d2] }
  | _ => none }
def frameGetsRow : OpenClaim := { program := "ytckgeadidjmpcaa", sum := "20bfb9bfe71cf5a20b986effe84a75e1bf4634b1a08157e5c33c444e3d59b739", func := "alibi/alibilaw03.FrameGets", spec := "frameGets", unfollowed := true, recurses := true, apart := false }
def FrameGetsSaid : Prop := frameGetsRow.holds Try.pinned (OpenSpec.ofChange frameGetsSpec)

/-- ITS FALSE NEIGHBOUR: 'it returns false'. Refute it at one input. -/
def frameGetsWrong : ChangeSpec := { name := "frameGets", fn := fun _ => fun
  | [d1, d2] => { results := [.lit (.bool false)], args := [d1, d2] }
  | _ => none }
def FrameGetsWrongFalsely : Prop := frameGetsRow.holds Try.pinned (OpenSpec.ofChange frameGetsWrong)

/-- 'alibilaw03.FramePuts': WHATEVER THE INPUT: true; the input reads as it did. -/
def framePutsSpec : ChangeSpec := { name := "framePuts", fn := fun _ => fun
  | [d1, d2] => { results := [.lit (.bool true)], args := [d1, d2] }
  | _ => none }
def framePutsRow : OpenClaim := { program := "ytckgeadidjmpcaa", sum := "20bfb9bfe71cf5a20b986effe84a75e1bf4634b1a08157e5c33c444e3d59b739", func := "alibi/alibilaw03.FramePuts", spec := "framePuts", unfollowed := true, recurses := true, apart := false }
def FramePutsSaid : Prop := framePutsRow.holds Try.pinned (OpenSpec.ofChange framePutsSpec)

/-- ITS FALSE NEIGHBOUR: 'it returns false'. Refute it at one input. -/
def framePutsWrong : ChangeSpec := { name := "framePuts", fn := fun _ => fun
  | [d1, d2] => { results := [.lit (.bool false)], args := [d1, d2] }
  | _ => none }
def FramePutsWrongFalsely : Prop := framePutsRow.holds Try.pinned (OpenSpec.ofChange framePutsWrong)

/-- 'alibilaw03.FrameBack': WHATEVER THE INPUT: true; the input reads as it did. -/
def frameBackSpec : ChangeSpec := { name := "frameBack", fn := fun _ => fun
  | [d1, d2, d3, d4, d5] => { results := [.lit (.bool true)], args := [d1, d2, d3, d4, d5] }
  | _ => none }
def frameBackRow : OpenClaim := { program := "ytckgeadidjmpcaa", sum := "20bfb9bfe71cf5a20b986effe84a75e1bf4634b1a08157e5c33c444e3d59b739", func := "alibi/alibilaw03.FrameBack", spec := "frameBack", unfollowed := true, recurses := true, apart := false }
def FrameBackSaid : Prop := frameBackRow.holds Try.pinned (OpenSpec.ofChange frameBackSpec)

/-- ITS FALSE NEIGHBOUR: 'it returns false'. Refute it at one input. -/
def frameBackWrong : ChangeSpec := { name := "frameBack", fn := fun _ => fun
  | [d1, d2, d3, d4, d5] => { results := [.lit (.bool false)], args := [d1, d2, d3, d4, d5] }
  | _ => none }
def FrameBackWrongFalsely : Prop := frameBackRow.holds Try.pinned (OpenSpec.ofChange frameBackWrong)

/-- 'alibilaw03.FrameKnown': WHATEVER THE INPUT: true; the input reads as it did. -/
def frameKnownSpec : ChangeSpec := { name := "frameKnown", fn := fun _ => fun
  | [] => { results := [.lit (.bool true)], args := [] }
  | _ => none }
def frameKnownRow : OpenClaim := { program := "ytckgeadidjmpcaa", sum := "20bfb9bfe71cf5a20b986effe84a75e1bf4634b1a08157e5c33c444e3d59b739", func := "alibi/alibilaw03.FrameKnown", spec := "frameKnown", unfollowed := true, recurses := true, apart := false }
def FrameKnownSaid : Prop := frameKnownRow.holds Try.pinned (OpenSpec.ofChange frameKnownSpec)

/-- ITS FALSE NEIGHBOUR: 'it returns false'. Refute it at one input. -/
def frameKnownWrong : ChangeSpec := { name := "frameKnown", fn := fun _ => fun
  | [] => { results := [.lit (.bool false)], args := [] }
  | _ => none }
def FrameKnownWrongFalsely : Prop := frameKnownRow.holds Try.pinned (OpenSpec.ofChange frameKnownWrong)

/- THE SECOND FORM. 'bulk': how many values and letters a reading holds, each counted each time it is reached (what is shared counts as often as it is met; a slice's spare places count too). A statement '..UptoSaid' is the law's where the arguments, and the package variables that the reading takes, are together of bulk at most 1048576: NARROWER than '..Said'. Prove '..Said' where nothing that the law and all that it calls make is longer than what came in: it says more and counts as full. Else prove '..UptoSaid'. A law counts once. -/
mutual
def uptoBulk {H : Type} : DataW H → Nat
  | .lit (.string bytes) => bytes.length + 1
  | .lit _ => 1
  | .nil => 1
  | .ptr d => uptoBulk d + 1
  | .slice elems spare => uptoBulkAll elems + uptoBulkAll spare + 1
  | .agg parts => uptoBulkAll parts + 1
  | .iface _ d => uptoBulk d + 1
  | .map entries => uptoBulkEntries entries + 1
  | .held _ => 1
def uptoBulkAll {H : Type} : List (DataW H) → Nat
  | [] => 0
  | d :: r => uptoBulk d + uptoBulkAll r
def uptoBulkEntries {H : Type} : List (Lit × DataW H) → Nat
  | [] => 0
  | x :: r => uptoBulkEntry x + uptoBulkEntries r
def uptoBulkEntry {H : Type} : Lit × DataW H → Nat
  | (.string bytes, d) => bytes.length + uptoBulk d + 1
  | (_, d) => uptoBulk d + 1
 end
def uptoSmall : (H : Type) → List (DataW H) → Bool := fun _ ds => decide (uptoBulkAll ds ≤ 1048576)
def OpenSpec.upto (s : _root_.Go.ChangeSpec) : _root_.Go.OpenSpec := { _root_.Go.OpenSpec.ofChange s with cond := some uptoSmall }

/-- 'alibilaw01.VarintBack', WHERE WHAT IT READS IS OF BULK AT MOST 1048576: true; the input reads as it did. -/
def varintBackUptoRow : OpenClaim := { program := "ytckgeadidjmpcaa", sum := "20bfb9bfe71cf5a20b986effe84a75e1bf4634b1a08157e5c33c444e3d59b739", func := "alibi/alibilaw01.VarintBack", spec := "varintBack", unfollowed := true, recurses := true, apart := false, narrowed := true }
def VarintBackUptoSaid : Prop := varintBackUptoRow.holds Try.pinned (OpenSpec.upto varintBackSpec)

/-- 'alibilaw01.VarintGets', WHERE WHAT IT READS IS OF BULK AT MOST 1048576: true; the input reads as it did. -/
def varintGetsUptoRow : OpenClaim := { program := "ytckgeadidjmpcaa", sum := "20bfb9bfe71cf5a20b986effe84a75e1bf4634b1a08157e5c33c444e3d59b739", func := "alibi/alibilaw01.VarintGets", spec := "varintGets", unfollowed := true, recurses := true, apart := false, narrowed := true }
def VarintGetsUptoSaid : Prop := varintGetsUptoRow.holds Try.pinned (OpenSpec.upto varintGetsSpec)

/-- 'alibilaw02.CrcOpens', WHERE WHAT IT READS IS OF BULK AT MOST 1048576: true; the input reads as it did. -/
def crcOpensUptoRow : OpenClaim := { program := "ytckgeadidjmpcaa", sum := "20bfb9bfe71cf5a20b986effe84a75e1bf4634b1a08157e5c33c444e3d59b739", func := "alibi/alibilaw02.CrcOpens", spec := "crcOpens", inPlace := ["internal/bytealg.MakeNoZero"], apart := false, narrowed := true }
def CrcOpensUptoSaid : Prop := crcOpensUptoRow.holds Try.pinned (OpenSpec.upto crcOpensSpec)

/-- 'alibilaw02.CrcFinds', WHERE WHAT IT READS IS OF BULK AT MOST 1048576: true; the input reads as it did. -/
def crcFindsUptoRow : OpenClaim := { program := "ytckgeadidjmpcaa", sum := "20bfb9bfe71cf5a20b986effe84a75e1bf4634b1a08157e5c33c444e3d59b739", func := "alibi/alibilaw02.CrcFinds", spec := "crcFinds", inPlace := ["internal/bytealg.MakeNoZero"], apart := false, narrowed := true }
def CrcFindsUptoSaid : Prop := crcFindsUptoRow.holds Try.pinned (OpenSpec.upto crcFindsSpec)

/-- 'alibilaw02.CrcJoins', WHERE WHAT IT READS IS OF BULK AT MOST 1048576: true; the input reads as it did. -/
def crcJoinsUptoRow : OpenClaim := { program := "ytckgeadidjmpcaa", sum := "20bfb9bfe71cf5a20b986effe84a75e1bf4634b1a08157e5c33c444e3d59b739", func := "alibi/alibilaw02.CrcJoins", spec := "crcJoins", inPlace := ["internal/bytealg.MakeNoZero"], apart := false, narrowed := true }
def CrcJoinsUptoSaid : Prop := crcJoinsUptoRow.holds Try.pinned (OpenSpec.upto crcJoinsSpec)

/-- 'alibilaw01.VarintWrites', WHERE WHAT IT READS IS OF BULK AT MOST 1048576: true; the input reads as it did. -/
def varintWritesUptoRow : OpenClaim := { program := "ytckgeadidjmpcaa", sum := "20bfb9bfe71cf5a20b986effe84a75e1bf4634b1a08157e5c33c444e3d59b739", func := "alibi/alibilaw01.VarintWrites", spec := "varintWrites", unfollowed := true, recurses := true, apart := false, narrowed := true }
def VarintWritesUptoSaid : Prop := varintWritesUptoRow.holds Try.pinned (OpenSpec.upto varintWritesSpec)

/-- 'alibilaw02.CrcTells', WHERE WHAT IT READS IS OF BULK AT MOST 1048576: true; the input reads as it did. -/
def crcTellsUptoRow : OpenClaim := { program := "ytckgeadidjmpcaa", sum := "20bfb9bfe71cf5a20b986effe84a75e1bf4634b1a08157e5c33c444e3d59b739", func := "alibi/alibilaw02.CrcTells", spec := "crcTells", inPlace := ["internal/bytealg.MakeNoZero"], apart := false, narrowed := true }
def CrcTellsUptoSaid : Prop := crcTellsUptoRow.holds Try.pinned (OpenSpec.upto crcTellsSpec)

/-- 'alibilaw02.CrcKnown', WHERE WHAT IT READS IS OF BULK AT MOST 1048576: true; the input reads as it did. -/
def crcKnownUptoRow : OpenClaim := { program := "ytckgeadidjmpcaa", sum := "20bfb9bfe71cf5a20b986effe84a75e1bf4634b1a08157e5c33c444e3d59b739", func := "alibi/alibilaw02.CrcKnown", spec := "crcKnown", inPlace := ["internal/bytealg.MakeNoZero"], apart := false, narrowed := true }
def CrcKnownUptoSaid : Prop := crcKnownUptoRow.holds Try.pinned (OpenSpec.upto crcKnownSpec)

/-- 'alibilaw01.VarintReads', WHERE WHAT IT READS IS OF BULK AT MOST 1048576: true; the input reads as it did. -/
def varintReadsUptoRow : OpenClaim := { program := "ytckgeadidjmpcaa", sum := "20bfb9bfe71cf5a20b986effe84a75e1bf4634b1a08157e5c33c444e3d59b739", func := "alibi/alibilaw01.VarintReads", spec := "varintReads", unfollowed := true, recurses := true, apart := false, narrowed := true }
def VarintReadsUptoSaid : Prop := varintReadsUptoRow.holds Try.pinned (OpenSpec.upto varintReadsSpec)

/-- 'alibilaw01.VarintNone', WHERE WHAT IT READS IS OF BULK AT MOST 1048576: true; the input reads as it did. -/
def varintNoneUptoRow : OpenClaim := { program := "ytckgeadidjmpcaa", sum := "20bfb9bfe71cf5a20b986effe84a75e1bf4634b1a08157e5c33c444e3d59b739", func := "alibi/alibilaw01.VarintNone", spec := "varintNone", unfollowed := true, recurses := true, apart := false, narrowed := true }
def VarintNoneUptoSaid : Prop := varintNoneUptoRow.holds Try.pinned (OpenSpec.upto varintNoneSpec)

/-- 'alibilaw01.VarintKnown', WHERE WHAT IT READS IS OF BULK AT MOST 1048576: true; the input reads as it did. -/
def varintKnownUptoRow : OpenClaim := { program := "ytckgeadidjmpcaa", sum := "20bfb9bfe71cf5a20b986effe84a75e1bf4634b1a08157e5c33c444e3d59b739", func := "alibi/alibilaw01.VarintKnown", spec := "varintKnown", unfollowed := true, recurses := true, apart := false, narrowed := true }
def VarintKnownUptoSaid : Prop := varintKnownUptoRow.holds Try.pinned (OpenSpec.upto varintKnownSpec)

/-- 'alibilaw03.FrameGets', WHERE WHAT IT READS IS OF BULK AT MOST 1048576: true; the input reads as it did. -/
def frameGetsUptoRow : OpenClaim := { program := "ytckgeadidjmpcaa", sum := "20bfb9bfe71cf5a20b986effe84a75e1bf4634b1a08157e5c33c444e3d59b739", func := "alibi/alibilaw03.FrameGets", spec := "frameGets", unfollowed := true, recurses := true, apart := false, narrowed := true }
def FrameGetsUptoSaid : Prop := frameGetsUptoRow.holds Try.pinned (OpenSpec.upto frameGetsSpec)

/-- 'alibilaw03.FramePuts', WHERE WHAT IT READS IS OF BULK AT MOST 1048576: true; the input reads as it did. -/
def framePutsUptoRow : OpenClaim := { program := "ytckgeadidjmpcaa", sum := "20bfb9bfe71cf5a20b986effe84a75e1bf4634b1a08157e5c33c444e3d59b739", func := "alibi/alibilaw03.FramePuts", spec := "framePuts", unfollowed := true, recurses := true, apart := false, narrowed := true }
def FramePutsUptoSaid : Prop := framePutsUptoRow.holds Try.pinned (OpenSpec.upto framePutsSpec)

/-- 'alibilaw03.FrameBack', WHERE WHAT IT READS IS OF BULK AT MOST 1048576: true; the input reads as it did. -/
def frameBackUptoRow : OpenClaim := { program := "ytckgeadidjmpcaa", sum := "20bfb9bfe71cf5a20b986effe84a75e1bf4634b1a08157e5c33c444e3d59b739", func := "alibi/alibilaw03.FrameBack", spec := "frameBack", unfollowed := true, recurses := true, apart := false, narrowed := true }
def FrameBackUptoSaid : Prop := frameBackUptoRow.holds Try.pinned (OpenSpec.upto frameBackSpec)

/-- 'alibilaw03.FrameKnown', WHERE WHAT IT READS IS OF BULK AT MOST 1048576: true; the input reads as it did. -/
def frameKnownUptoRow : OpenClaim := { program := "ytckgeadidjmpcaa", sum := "20bfb9bfe71cf5a20b986effe84a75e1bf4634b1a08157e5c33c444e3d59b739", func := "alibi/alibilaw03.FrameKnown", spec := "frameKnown", unfollowed := true, recurses := true, apart := false, narrowed := true }
def FrameKnownUptoSaid : Prop := frameKnownUptoRow.holds Try.pinned (OpenSpec.upto frameKnownSpec)

end Rows
end Go.Proofs.Ytckgeadidjmpcaa
