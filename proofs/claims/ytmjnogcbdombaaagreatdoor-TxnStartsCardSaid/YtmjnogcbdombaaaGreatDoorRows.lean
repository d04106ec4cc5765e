/-
  NARROWER THAN 'FOR EVERY INPUT', by the rows' own cells (each row's printed sentence says how): TxnBreaks: laid · TxnStarts: laid · TxnAhead: laid · TxnSkew: laid · TxnPhantom: laid · TxnSnaps: laid · TxnCounts: laid · TxnSwept: laid · TxnNone: laid.
  DERIVED. THE GIVEN ROWS OF THIS SEAT. 9 by the template 'for every input the law returns true; each argument reads behind the call as it read before'; 0 by the template 'total and deterministic' (their statements: YtmjnogcbdombaaaGreatDoorTotals.lean).
  GIVEN WITH THE SEED: the statements are not yours to turn. If you find one false, say at which input.
  Laid BY PROGRAM, IN A SANDBOX (cutbox-rows.mjs): the forced cells as the released guide's own fill.sh prints them over the translation 67f5e95650692086… (all of the seat's roots in one cut). By AI agents, Wed Nov 11 2026. No macro, syntax, notation, axiom, sorry.
-/
import Derived.Test.YtmjnogcbdombaaaGreatDoorChecked
import GoSem.Claim
import GoSem.ClaimJoined
import GoSem.ClaimMapViews
import Derived.JoinedTies
import Derived.KernelRfl
namespace Go.Proofs.YtmjnogcbdombaaaGreatDoor
/- THE CELL 'sum', in the pinned program and in every row, IS THE sha256 OF THE DUMP (.gsa) THAT YtmjnogcbdombaaaGreatDoorProg.lean LOADS. Nothing in Lean hashes anything: it is a label: what it is worth is what the hold of that sum in a sandbox is worth. -/
noncomputable def Tryz.pinned : Pinned := { name := "ytmjnogcbdombaaagreatdoor", sum := "67f5e956506920865afecbc4fd6406c880b167e2f3f089ea3e0b45ee6ea7a203", checked := Tryz.checked }
namespace Rows
def none {H : Type} : Left H := { results := [], args := [] }

/- WHAT THE LISTED PACKAGE-LEVEL VARIABLES READ AS WHEN THE CALL BEGINS. Each datum BY PROGRAM (the guide's laid-datum.mjs) off the statement by which the dump's own 'gosem.cut.vars' lays the variable. In a bare row this is a premise. The card (YtmjnogcbdombaaaGreatDoorCards.lean) ties it to the program's text. -/
def laid_math_bits_deBruijn64tab {H : Type} : DataW H := .agg [.lit (.int .u8 0), .lit (.int .u8 1), .lit (.int .u8 56), .lit (.int .u8 2), .lit (.int .u8 57), .lit (.int .u8 49), .lit (.int .u8 28), .lit (.int .u8 3), .lit (.int .u8 61), .lit (.int .u8 58), .lit (.int .u8 42), .lit (.int .u8 50), .lit (.int .u8 38), .lit (.int .u8 29), .lit (.int .u8 17), .lit (.int .u8 4), .lit (.int .u8 62), .lit (.int .u8 47), .lit (.int .u8 59), .lit (.int .u8 36), .lit (.int .u8 45), .lit (.int .u8 43), .lit (.int .u8 51), .lit (.int .u8 22), .lit (.int .u8 53), .lit (.int .u8 39), .lit (.int .u8 33), .lit (.int .u8 30), .lit (.int .u8 24), .lit (.int .u8 18), .lit (.int .u8 12), .lit (.int .u8 5), .lit (.int .u8 63), .lit (.int .u8 55), .lit (.int .u8 48), .lit (.int .u8 27), .lit (.int .u8 60), .lit (.int .u8 41), .lit (.int .u8 37), .lit (.int .u8 16), .lit (.int .u8 46), .lit (.int .u8 35), .lit (.int .u8 44), .lit (.int .u8 21), .lit (.int .u8 52), .lit (.int .u8 32), .lit (.int .u8 23), .lit (.int .u8 11), .lit (.int .u8 54), .lit (.int .u8 26), .lit (.int .u8 40), .lit (.int .u8 15), .lit (.int .u8 34), .lit (.int .u8 20), .lit (.int .u8 31), .lit (.int .u8 10), .lit (.int .u8 25), .lit (.int .u8 14), .lit (.int .u8 19), .lit (.int .u8 9), .lit (.int .u8 13), .lit (.int .u8 8), .lit (.int .u8 7), .lit (.int .u8 6)]

/-- 'varvelaw17.TxnBreaks': WHATEVER THE INPUT: true; the input reads as it did. -/
def txnBreaksSpec : ChangeSpec := { name := "txnBreaks", fn := fun _ => fun
  | [d] => { results := [.lit (.bool true)], args := [d] }
  | _ => none }
def txnBreaksRow : OpenClaim := { program := "ytmjnogcbdombaaagreatdoor", sum := "67f5e956506920865afecbc4fd6406c880b167e2f3f089ea3e0b45ee6ea7a203", func := "varve/varvelaw17.TxnBreaks", spec := "txnBreaks", inPlace := ["slices.overlaps[*varve/txn.write]"], unfollowed := true, recurses := true, named := ["math/bits.deBruijn64tab"], apart := false, laid := [("math/bits.deBruijn64tab", laid_math_bits_deBruijn64tab)] }
def TxnBreaksSaid : Prop := txnBreaksRow.holds Tryz.pinned (OpenSpec.ofChange txnBreaksSpec)

/-- ITS FALSE NEIGHBOUR: 'it returns false'. Refute it at one input. -/
def txnBreaksWrong : ChangeSpec := { name := "txnBreaks", fn := fun _ => fun
  | [d] => { results := [.lit (.bool false)], args := [d] }
  | _ => none }
def TxnBreaksWrongFalsely : Prop := txnBreaksRow.holds Tryz.pinned (OpenSpec.ofChange txnBreaksWrong)

/-- 'varvelaw17.TxnStarts': WHATEVER THE INPUT: true; the input reads as it did. -/
def txnStartsSpec : ChangeSpec := { name := "txnStarts", fn := fun _ => fun
  | [d1, d2, d3] => { results := [.lit (.bool true)], args := [d1, d2, d3] }
  | _ => none }
def txnStartsRow : OpenClaim := { program := "ytmjnogcbdombaaagreatdoor", sum := "67f5e956506920865afecbc4fd6406c880b167e2f3f089ea3e0b45ee6ea7a203", func := "varve/varvelaw17.TxnStarts", spec := "txnStarts", inPlace := ["slices.overlaps[*varve/txn.write]"], unfollowed := true, recurses := true, named := ["math/bits.deBruijn64tab"], apart := false, laid := [("math/bits.deBruijn64tab", laid_math_bits_deBruijn64tab)] }
def TxnStartsSaid : Prop := txnStartsRow.holds Tryz.pinned (OpenSpec.ofChange txnStartsSpec)

/-- ITS FALSE NEIGHBOUR: 'it returns false'. Refute it at one input. -/
def txnStartsWrong : ChangeSpec := { name := "txnStarts", fn := fun _ => fun
  | [d1, d2, d3] => { results := [.lit (.bool false)], args := [d1, d2, d3] }
  | _ => none }
def TxnStartsWrongFalsely : Prop := txnStartsRow.holds Tryz.pinned (OpenSpec.ofChange txnStartsWrong)

/-- 'varvelaw17.TxnAhead': WHATEVER THE INPUT: true; the input reads as it did. -/
def txnAheadSpec : ChangeSpec := { name := "txnAhead", fn := fun _ => fun
  | [d1, d2] => { results := [.lit (.bool true)], args := [d1, d2] }
  | _ => none }
def txnAheadRow : OpenClaim := { program := "ytmjnogcbdombaaagreatdoor", sum := "67f5e956506920865afecbc4fd6406c880b167e2f3f089ea3e0b45ee6ea7a203", func := "varve/varvelaw17.TxnAhead", spec := "txnAhead", inPlace := ["slices.overlaps[*varve/txn.write]"], unfollowed := true, recurses := true, named := ["math/bits.deBruijn64tab"], apart := false, laid := [("math/bits.deBruijn64tab", laid_math_bits_deBruijn64tab)] }
def TxnAheadSaid : Prop := txnAheadRow.holds Tryz.pinned (OpenSpec.ofChange txnAheadSpec)

/-- ITS FALSE NEIGHBOUR: 'it returns false'. Refute it at one input. -/
def txnAheadWrong : ChangeSpec := { name := "txnAhead", fn := fun _ => fun
  | [d1, d2] => { results := [.lit (.bool false)], args := [d1, d2] }
  | _ => none }
def TxnAheadWrongFalsely : Prop := txnAheadRow.holds Tryz.pinned (OpenSpec.ofChange txnAheadWrong)

/-- 'varvelaw17.TxnSkew': WHATEVER THE INPUT: true; the input reads as it did. -/
def txnSkewSpec : ChangeSpec := { name := "txnSkew", fn := fun _ => fun
  | [d1, d2, d3] => { results := [.lit (.bool true)], args := [d1, d2, d3] }
  | _ => none }
def txnSkewRow : OpenClaim := { program := "ytmjnogcbdombaaagreatdoor", sum := "67f5e956506920865afecbc4fd6406c880b167e2f3f089ea3e0b45ee6ea7a203", func := "varve/varvelaw17.TxnSkew", spec := "txnSkew", inPlace := ["slices.overlaps[*varve/txn.write]"], unfollowed := true, recurses := true, named := ["math/bits.deBruijn64tab"], apart := false, laid := [("math/bits.deBruijn64tab", laid_math_bits_deBruijn64tab)] }
def TxnSkewSaid : Prop := txnSkewRow.holds Tryz.pinned (OpenSpec.ofChange txnSkewSpec)

/-- ITS FALSE NEIGHBOUR: 'it returns false'. Refute it at one input. -/
def txnSkewWrong : ChangeSpec := { name := "txnSkew", fn := fun _ => fun
  | [d1, d2, d3] => { results := [.lit (.bool false)], args := [d1, d2, d3] }
  | _ => none }
def TxnSkewWrongFalsely : Prop := txnSkewRow.holds Tryz.pinned (OpenSpec.ofChange txnSkewWrong)

/-- 'varvelaw17.TxnPhantom': WHATEVER THE INPUT: true; the input reads as it did. -/
def txnPhantomSpec : ChangeSpec := { name := "txnPhantom", fn := fun _ => fun
  | [d1, d2, d3] => { results := [.lit (.bool true)], args := [d1, d2, d3] }
  | _ => none }
def txnPhantomRow : OpenClaim := { program := "ytmjnogcbdombaaagreatdoor", sum := "67f5e956506920865afecbc4fd6406c880b167e2f3f089ea3e0b45ee6ea7a203", func := "varve/varvelaw17.TxnPhantom", spec := "txnPhantom", inPlace := ["slices.overlaps[*varve/txn.write]"], unfollowed := true, recurses := true, named := ["math/bits.deBruijn64tab"], apart := false, laid := [("math/bits.deBruijn64tab", laid_math_bits_deBruijn64tab)] }
def TxnPhantomSaid : Prop := txnPhantomRow.holds Tryz.pinned (OpenSpec.ofChange txnPhantomSpec)

/-- ITS FALSE NEIGHBOUR: 'it returns false'. Refute it at one input. -/
def txnPhantomWrong : ChangeSpec := { name := "txnPhantom", fn := fun _ => fun
  | [d1, d2, d3] => { results := [.lit (.bool false)], args := [d1, d2, d3] }
  | _ => none }
def TxnPhantomWrongFalsely : Prop := txnPhantomRow.holds Tryz.pinned (OpenSpec.ofChange txnPhantomWrong)

/-- 'varvelaw17.TxnSnaps': WHATEVER THE INPUT: true; the input reads as it did. -/
def txnSnapsSpec : ChangeSpec := { name := "txnSnaps", fn := fun _ => fun
  | [d1, d2, d3] => { results := [.lit (.bool true)], args := [d1, d2, d3] }
  | _ => none }
def txnSnapsRow : OpenClaim := { program := "ytmjnogcbdombaaagreatdoor", sum := "67f5e956506920865afecbc4fd6406c880b167e2f3f089ea3e0b45ee6ea7a203", func := "varve/varvelaw17.TxnSnaps", spec := "txnSnaps", inPlace := ["slices.overlaps[*varve/txn.write]"], unfollowed := true, recurses := true, named := ["math/bits.deBruijn64tab"], apart := false, laid := [("math/bits.deBruijn64tab", laid_math_bits_deBruijn64tab)] }
def TxnSnapsSaid : Prop := txnSnapsRow.holds Tryz.pinned (OpenSpec.ofChange txnSnapsSpec)

/-- ITS FALSE NEIGHBOUR: 'it returns false'. Refute it at one input. -/
def txnSnapsWrong : ChangeSpec := { name := "txnSnaps", fn := fun _ => fun
  | [d1, d2, d3] => { results := [.lit (.bool false)], args := [d1, d2, d3] }
  | _ => none }
def TxnSnapsWrongFalsely : Prop := txnSnapsRow.holds Tryz.pinned (OpenSpec.ofChange txnSnapsWrong)

/-- 'varvelaw17.TxnCounts': WHATEVER THE INPUT: true; the input reads as it did. -/
def txnCountsSpec : ChangeSpec := { name := "txnCounts", fn := fun _ => fun
  | [d1, d2] => { results := [.lit (.bool true)], args := [d1, d2] }
  | _ => none }
def txnCountsRow : OpenClaim := { program := "ytmjnogcbdombaaagreatdoor", sum := "67f5e956506920865afecbc4fd6406c880b167e2f3f089ea3e0b45ee6ea7a203", func := "varve/varvelaw17.TxnCounts", spec := "txnCounts", inPlace := ["slices.overlaps[*varve/txn.write]"], unfollowed := true, recurses := true, named := ["math/bits.deBruijn64tab"], apart := false, laid := [("math/bits.deBruijn64tab", laid_math_bits_deBruijn64tab)] }
def TxnCountsSaid : Prop := txnCountsRow.holds Tryz.pinned (OpenSpec.ofChange txnCountsSpec)

/-- ITS FALSE NEIGHBOUR: 'it returns false'. Refute it at one input. -/
def txnCountsWrong : ChangeSpec := { name := "txnCounts", fn := fun _ => fun
  | [d1, d2] => { results := [.lit (.bool false)], args := [d1, d2] }
  | _ => none }
def TxnCountsWrongFalsely : Prop := txnCountsRow.holds Tryz.pinned (OpenSpec.ofChange txnCountsWrong)

/-- 'varvelaw17.TxnSwept': WHATEVER THE INPUT: true; the input reads as it did. -/
def txnSweptSpec : ChangeSpec := { name := "txnSwept", fn := fun _ => fun
  | [d1, d2] => { results := [.lit (.bool true)], args := [d1, d2] }
  | _ => none }
def txnSweptRow : OpenClaim := { program := "ytmjnogcbdombaaagreatdoor", sum := "67f5e956506920865afecbc4fd6406c880b167e2f3f089ea3e0b45ee6ea7a203", func := "varve/varvelaw17.TxnSwept", spec := "txnSwept", inPlace := ["slices.overlaps[*varve/txn.write]"], unfollowed := true, recurses := true, named := ["math/bits.deBruijn64tab"], apart := false, laid := [("math/bits.deBruijn64tab", laid_math_bits_deBruijn64tab)] }
def TxnSweptSaid : Prop := txnSweptRow.holds Tryz.pinned (OpenSpec.ofChange txnSweptSpec)

/-- ITS FALSE NEIGHBOUR: 'it returns false'. Refute it at one input. -/
def txnSweptWrong : ChangeSpec := { name := "txnSwept", fn := fun _ => fun
  | [d1, d2] => { results := [.lit (.bool false)], args := [d1, d2] }
  | _ => none }
def TxnSweptWrongFalsely : Prop := txnSweptRow.holds Tryz.pinned (OpenSpec.ofChange txnSweptWrong)

/-- 'varvelaw17.TxnNone': WHATEVER THE INPUT: true; the input reads as it did. -/
def txnNoneSpec : ChangeSpec := { name := "txnNone", fn := fun _ => fun
  | [d1, d2] => { results := [.lit (.bool true)], args := [d1, d2] }
  | _ => none }
def txnNoneRow : OpenClaim := { program := "ytmjnogcbdombaaagreatdoor", sum := "67f5e956506920865afecbc4fd6406c880b167e2f3f089ea3e0b45ee6ea7a203", func := "varve/varvelaw17.TxnNone", spec := "txnNone", inPlace := ["slices.overlaps[*varve/txn.write]"], unfollowed := true, recurses := true, named := ["math/bits.deBruijn64tab"], apart := false, laid := [("math/bits.deBruijn64tab", laid_math_bits_deBruijn64tab)] }
def TxnNoneSaid : Prop := txnNoneRow.holds Tryz.pinned (OpenSpec.ofChange txnNoneSpec)

/-- ITS FALSE NEIGHBOUR: 'it returns false'. Refute it at one input. -/
def txnNoneWrong : ChangeSpec := { name := "txnNone", fn := fun _ => fun
  | [d1, d2] => { results := [.lit (.bool false)], args := [d1, d2] }
  | _ => none }
def TxnNoneWrongFalsely : Prop := txnNoneRow.holds Tryz.pinned (OpenSpec.ofChange txnNoneWrong)

/- THE SECOND FORM. 'bulk': how many values and letters a reading holds, each counted each time it is reached (what is shared counts as often as it is met; a slice's spare places count too). A statement '..UptoSaid' is the law's where the arguments, and the package variables that the reading takes, are together of bulk at most 1048576: NARROWER than '..Said'. Prove '..Said' where nothing that the law and all that it calls make is longer than what came in: it says more and counts as full. Else prove '..UptoSaid'. A law counts once. -/
mutual
def uptoBulk {H : Type} : DataW H → Nat
  | .lit (.string bytes) => bytes.length + 1
  | .lit _ => 1
  | .nil => 1
  | .ptr d => uptoBulk d + 1
  | .slice elems spare => uptoBulkAll elems + uptoBulkAll spare + 1
  | .agg parts => uptoBulkAll parts + 1
  | .iface _ d => uptoBulk d + 1
  | .map entries => uptoBulkEntries entries + 1
  | .held _ => 1
def uptoBulkAll {H : Type} : List (DataW H) → Nat
  | [] => 0
  | d :: r => uptoBulk d + uptoBulkAll r
def uptoBulkEntries {H : Type} : List (Lit × DataW H) → Nat
  | [] => 0
  | x :: r => uptoBulkEntry x + uptoBulkEntries r
def uptoBulkEntry {H : Type} : Lit × DataW H → Nat
  | (.string bytes, d) => bytes.length + uptoBulk d + 1
  | (_, d) => uptoBulk d + 1
 end
def uptoSmall : (H : Type) → List (DataW H) → Bool := fun _ ds => decide (uptoBulkAll ds ≤ 1048576)
def OpenSpec.upto (s : _root_.Go.ChangeSpec) : _root_.Go.OpenSpec := { _root_.Go.OpenSpec.ofChange s with cond := some uptoSmall }

/-- 'varvelaw17.TxnBreaks', WHERE WHAT IT READS IS OF BULK AT MOST 1048576: true; the input reads as it did. -/
def txnBreaksUptoRow : OpenClaim := { program := "ytmjnogcbdombaaagreatdoor", sum := "67f5e956506920865afecbc4fd6406c880b167e2f3f089ea3e0b45ee6ea7a203", func := "varve/varvelaw17.TxnBreaks", spec := "txnBreaks", inPlace := ["slices.overlaps[*varve/txn.write]"], unfollowed := true, recurses := true, named := ["math/bits.deBruijn64tab"], apart := false, laid := [("math/bits.deBruijn64tab", laid_math_bits_deBruijn64tab)], narrowed := true }
def TxnBreaksUptoSaid : Prop := txnBreaksUptoRow.holds Tryz.pinned (OpenSpec.upto txnBreaksSpec)

/-- 'varvelaw17.TxnStarts', WHERE WHAT IT READS IS OF BULK AT MOST 1048576: true; the input reads as it did. -/
def txnStartsUptoRow : OpenClaim := { program := "ytmjnogcbdombaaagreatdoor", sum := "67f5e956506920865afecbc4fd6406c880b167e2f3f089ea3e0b45ee6ea7a203", func := "varve/varvelaw17.TxnStarts", spec := "txnStarts", inPlace := ["slices.overlaps[*varve/txn.write]"], unfollowed := true, recurses := true, named := ["math/bits.deBruijn64tab"], apart := false, laid := [("math/bits.deBruijn64tab", laid_math_bits_deBruijn64tab)], narrowed := true }
def TxnStartsUptoSaid : Prop := txnStartsUptoRow.holds Tryz.pinned (OpenSpec.upto txnStartsSpec)

/-- 'varvelaw17.TxnAhead', WHERE WHAT IT READS IS OF BULK AT MOST 1048576: true; the input reads as it did. -/
def txnAheadUptoRow : OpenClaim := { program := "ytmjnogcbdombaaagreatdoor", sum := "67f5e956506920865afecbc4fd6406c880b167e2f3f089ea3e0b45ee6ea7a203", func := "varve/varvelaw17.TxnAhead", spec := "txnAhead", inPlace := ["slices.overlaps[*varve/txn.write]"], unfollowed := true, recurses := true, named := ["math/bits.deBruijn64tab"], apart := false, laid := [("math/bits.deBruijn64tab", laid_math_bits_deBruijn64tab)], narrowed := true }
def TxnAheadUptoSaid : Prop := txnAheadUptoRow.holds Tryz.pinned (OpenSpec.upto txnAheadSpec)

/-- 'varvelaw17.TxnSkew', WHERE WHAT IT READS IS OF BULK AT MOST 1048576: true; the input reads as it did. -/
def txnSkewUptoRow : OpenClaim := { program := "ytmjnogcbdombaaagreatdoor", sum := "67f5e956506920865afecbc4fd6406c880b167e2f3f089ea3e0b45ee6ea7a203", func := "varve/varvelaw17.TxnSkew", spec := "txnSkew", inPlace := ["slices.overlaps[*varve/txn.write]"], unfollowed := true, recurses := true, named := ["math/bits.deBruijn64tab"], apart := false, laid := [("math/bits.deBruijn64tab", laid_math_bits_deBruijn64tab)], narrowed := true }
def TxnSkewUptoSaid : Prop := txnSkewUptoRow.holds Tryz.pinned (OpenSpec.upto txnSkewSpec)

/-- 'varvelaw17.TxnPhantom', WHERE WHAT IT READS IS OF BULK AT MOST 1048576: true; the input reads as it did. -/
def txnPhantomUptoRow : OpenClaim := { program := "ytmjnogcbdombaaagreatdoor", sum := "67f5e956506920865afecbc4fd6406c880b167e2f3f089ea3e0b45ee6ea7a203", func := "varve/varvelaw17.TxnPhantom", spec := "txnPhantom", inPlace := ["slices.overlaps[*varve/txn.write]"], unfollowed := true, recurses := true, named := ["math/bits.deBruijn64tab"], apart := false, laid := [("math/bits.deBruijn64tab", laid_math_bits_deBruijn64tab)], narrowed := true }
def TxnPhantomUptoSaid : Prop := txnPhantomUptoRow.holds Tryz.pinned (OpenSpec.upto txnPhantomSpec)

/-- 'varvelaw17.TxnSnaps', WHERE WHAT IT READS IS OF BULK AT MOST 1048576: true; the input reads as it did. -/
def txnSnapsUptoRow : OpenClaim := { program := "ytmjnogcbdombaaagreatdoor", sum := "67f5e956506920865afecbc4fd6406c880b167e2f3f089ea3e0b45ee6ea7a203", func := "varve/varvelaw17.TxnSnaps", spec := "txnSnaps", inPlace := ["slices.overlaps[*varve/txn.write]"], unfollowed := true, recurses := true, named := ["math/bits.deBruijn64tab"], apart := false, laid := [("math/bits.deBruijn64tab", laid_math_bits_deBruijn64tab)], narrowed := true }
def TxnSnapsUptoSaid : Prop := txnSnapsUptoRow.holds Tryz.pinned (OpenSpec.upto txnSnapsSpec)

/-- 'varvelaw17.TxnCounts', WHERE WHAT IT READS IS OF BULK AT MOST 1048576: true; the input reads as it did. -/
def txnCountsUptoRow : OpenClaim := { program := "ytmjnogcbdombaaagreatdoor", sum := "67f5e956506920865afecbc4fd6406c880b167e2f3f089ea3e0b45ee6ea7a203", func := "varve/varvelaw17.TxnCounts", spec := "txnCounts", inPlace := ["slices.overlaps[*varve/txn.write]"], unfollowed := true, recurses := true, named := ["math/bits.deBruijn64tab"], apart := false, laid := [("math/bits.deBruijn64tab", laid_math_bits_deBruijn64tab)], narrowed := true }
def TxnCountsUptoSaid : Prop := txnCountsUptoRow.holds Tryz.pinned (OpenSpec.upto txnCountsSpec)

/-- 'varvelaw17.TxnSwept', WHERE WHAT IT READS IS OF BULK AT MOST 1048576: true; the input reads as it did. -/
def txnSweptUptoRow : OpenClaim := { program := "ytmjnogcbdombaaagreatdoor", sum := "67f5e956506920865afecbc4fd6406c880b167e2f3f089ea3e0b45ee6ea7a203", func := "varve/varvelaw17.TxnSwept", spec := "txnSwept", inPlace := ["slices.overlaps[*varve/txn.write]"], unfollowed := true, recurses := true, named := ["math/bits.deBruijn64tab"], apart := false, laid := [("math/bits.deBruijn64tab", laid_math_bits_deBruijn64tab)], narrowed := true }
def TxnSweptUptoSaid : Prop := txnSweptUptoRow.holds Tryz.pinned (OpenSpec.upto txnSweptSpec)

/-- 'varvelaw17.TxnNone', WHERE WHAT IT READS IS OF BULK AT MOST 1048576: true; the input reads as it did. -/
def txnNoneUptoRow : OpenClaim := { program := "ytmjnogcbdombaaagreatdoor", sum := "67f5e956506920865afecbc4fd6406c880b167e2f3f089ea3e0b45ee6ea7a203", func := "varve/varvelaw17.TxnNone", spec := "txnNone", inPlace := ["slices.overlaps[*varve/txn.write]"], unfollowed := true, recurses := true, named := ["math/bits.deBruijn64tab"], apart := false, laid := [("math/bits.deBruijn64tab", laid_math_bits_deBruijn64tab)], narrowed := true }
def TxnNoneUptoSaid : Prop := txnNoneUptoRow.holds Tryz.pinned (OpenSpec.upto txnNoneSpec)

end Rows
end Go.Proofs.YtmjnogcbdombaaaGreatDoor
