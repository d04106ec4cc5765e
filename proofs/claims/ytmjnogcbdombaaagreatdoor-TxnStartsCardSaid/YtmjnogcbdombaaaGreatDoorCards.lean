/-
  DERIVED. GIVEN WITH THE SEED: THE CARDS: each row of YtmjnogcbdombaaaGreatDoorRows.lean that lists a variable, with what it lists TIED to the program's text (the seventh form; the later family's looks); each row that meets fmt, with fmt's text TOLD by the authors' own Lean function (tested against real Go, not proved from fmt's source: count such statements apart). THE CARD IS WHAT COUNTS. Prove the row's statement (the work); the ties are given (YtmjnogcbdombaaaGreatDoorTie.lean); close each card by the builder's one call (the guide's Derived/Test/ToyasCard.lean, 'card_holds'). Laid BY PROGRAM, IN A SANDBOX (cutbox-door.mjs). By AI agents, Wed Nov 11 2026. No macro, syntax, notation, axiom, sorry.
-/
import Derived.Test.YtmjnogcbdombaaaGreatDoorRows
import GoSem.ClaimSeven
namespace Go.Proofs.YtmjnogcbdombaaaGreatDoor
namespace Rows

/-- THE TIED CARD OF 'varvelaw17.TxnBreaks'. -/
def txnBreaksCard : Claim7 := { stood := { row := txnBreaksRow, standIns := [], harness := (true, "4b8b69288c38d7cbc9daa357af52441f25ea58ea8dd67cf2b11437998527c895"), looks := true }, kinds := [], alts := [], laidByText := true, laidKinds := [.data], laidTests := true, laidLooks := .later }
def TxnBreaksCardSaid : Prop := Claim7.holds Tryz.pinned (.plain (OpenSpec.ofChange txnBreaksSpec)) txnBreaksCard

/-- THE TIED CARD OF 'varvelaw17.TxnStarts'. -/
def txnStartsCard : Claim7 := { stood := { row := txnStartsRow, standIns := [], harness := (true, "4b8b69288c38d7cbc9daa357af52441f25ea58ea8dd67cf2b11437998527c895"), looks := true }, kinds := [], alts := [], laidByText := true, laidKinds := [.data], laidTests := true, laidLooks := .later }
def TxnStartsCardSaid : Prop := Claim7.holds Tryz.pinned (.plain (OpenSpec.ofChange txnStartsSpec)) txnStartsCard

/-- THE TIED CARD OF 'varvelaw17.TxnAhead'. -/
def txnAheadCard : Claim7 := { stood := { row := txnAheadRow, standIns := [], harness := (true, "4b8b69288c38d7cbc9daa357af52441f25ea58ea8dd67cf2b11437998527c895"), looks := true }, kinds := [], alts := [], laidByText := true, laidKinds := [.data], laidTests := true, laidLooks := .later }
def TxnAheadCardSaid : Prop := Claim7.holds Tryz.pinned (.plain (OpenSpec.ofChange txnAheadSpec)) txnAheadCard

/-- THE TIED CARD OF 'varvelaw17.TxnSkew'. -/
def txnSkewCard : Claim7 := { stood := { row := txnSkewRow, standIns := [], harness := (true, "4b8b69288c38d7cbc9daa357af52441f25ea58ea8dd67cf2b11437998527c895"), looks := true }, kinds := [], alts := [], laidByText := true, laidKinds := [.data], laidTests := true, laidLooks := .later }
def TxnSkewCardSaid : Prop := Claim7.holds Tryz.pinned (.plain (OpenSpec.ofChange txnSkewSpec)) txnSkewCard

/-- THE TIED CARD OF 'varvelaw17.TxnPhantom'. -/
def txnPhantomCard : Claim7 := { stood := { row := txnPhantomRow, standIns := [], harness := (true, "4b8b69288c38d7cbc9daa357af52441f25ea58ea8dd67cf2b11437998527c895"), looks := true }, kinds := [], alts := [], laidByText := true, laidKinds := [.data], laidTests := true, laidLooks := .later }
def TxnPhantomCardSaid : Prop := Claim7.holds Tryz.pinned (.plain (OpenSpec.ofChange txnPhantomSpec)) txnPhantomCard

/-- THE TIED CARD OF 'varvelaw17.TxnSnaps'. -/
def txnSnapsCard : Claim7 := { stood := { row := txnSnapsRow, standIns := [], harness := (true, "4b8b69288c38d7cbc9daa357af52441f25ea58ea8dd67cf2b11437998527c895"), looks := true }, kinds := [], alts := [], laidByText := true, laidKinds := [.data], laidTests := true, laidLooks := .later }
def TxnSnapsCardSaid : Prop := Claim7.holds Tryz.pinned (.plain (OpenSpec.ofChange txnSnapsSpec)) txnSnapsCard

/-- THE TIED CARD OF 'varvelaw17.TxnCounts'. -/
def txnCountsCard : Claim7 := { stood := { row := txnCountsRow, standIns := [], harness := (true, "4b8b69288c38d7cbc9daa357af52441f25ea58ea8dd67cf2b11437998527c895"), looks := true }, kinds := [], alts := [], laidByText := true, laidKinds := [.data], laidTests := true, laidLooks := .later }
def TxnCountsCardSaid : Prop := Claim7.holds Tryz.pinned (.plain (OpenSpec.ofChange txnCountsSpec)) txnCountsCard

/-- THE TIED CARD OF 'varvelaw17.TxnSwept'. -/
def txnSweptCard : Claim7 := { stood := { row := txnSweptRow, standIns := [], harness := (true, "4b8b69288c38d7cbc9daa357af52441f25ea58ea8dd67cf2b11437998527c895"), looks := true }, kinds := [], alts := [], laidByText := true, laidKinds := [.data], laidTests := true, laidLooks := .later }
def TxnSweptCardSaid : Prop := Claim7.holds Tryz.pinned (.plain (OpenSpec.ofChange txnSweptSpec)) txnSweptCard

/-- THE TIED CARD OF 'varvelaw17.TxnNone'. -/
def txnNoneCard : Claim7 := { stood := { row := txnNoneRow, standIns := [], harness := (true, "4b8b69288c38d7cbc9daa357af52441f25ea58ea8dd67cf2b11437998527c895"), looks := true }, kinds := [], alts := [], laidByText := true, laidKinds := [.data], laidTests := true, laidLooks := .later }
def TxnNoneCardSaid : Prop := Claim7.holds Tryz.pinned (.plain (OpenSpec.ofChange txnNoneSpec)) txnNoneCard

/-- THE SECOND FORM's CARD OF 'varvelaw17.TxnBreaks'. -/
def txnBreaksUptoCard : Claim7 := { stood := { row := txnBreaksUptoRow, standIns := [], harness := (true, "4b8b69288c38d7cbc9daa357af52441f25ea58ea8dd67cf2b11437998527c895"), looks := true }, kinds := [], alts := [], laidByText := true, laidKinds := [.data], laidTests := true, laidLooks := .later }
def TxnBreaksUptoCardSaid : Prop := Claim7.holds Tryz.pinned (.plain (OpenSpec.upto txnBreaksSpec)) txnBreaksUptoCard

/-- THE SECOND FORM's CARD OF 'varvelaw17.TxnStarts'. -/
def txnStartsUptoCard : Claim7 := { stood := { row := txnStartsUptoRow, standIns := [], harness := (true, "4b8b69288c38d7cbc9daa357af52441f25ea58ea8dd67cf2b11437998527c895"), looks := true }, kinds := [], alts := [], laidByText := true, laidKinds := [.data], laidTests := true, laidLooks := .later }
def TxnStartsUptoCardSaid : Prop := Claim7.holds Tryz.pinned (.plain (OpenSpec.upto txnStartsSpec)) txnStartsUptoCard

/-- THE SECOND FORM's CARD OF 'varvelaw17.TxnAhead'. -/
def txnAheadUptoCard : Claim7 := { stood := { row := txnAheadUptoRow, standIns := [], harness := (true, "4b8b69288c38d7cbc9daa357af52441f25ea58ea8dd67cf2b11437998527c895"), looks := true }, kinds := [], alts := [], laidByText := true, laidKinds := [.data], laidTests := true, laidLooks := .later }
def TxnAheadUptoCardSaid : Prop := Claim7.holds Tryz.pinned (.plain (OpenSpec.upto txnAheadSpec)) txnAheadUptoCard

/-- THE SECOND FORM's CARD OF 'varvelaw17.TxnSkew'. -/
def txnSkewUptoCard : Claim7 := { stood := { row := txnSkewUptoRow, standIns := [], harness := (true, "4b8b69288c38d7cbc9daa357af52441f25ea58ea8dd67cf2b11437998527c895"), looks := true }, kinds := [], alts := [], laidByText := true, laidKinds := [.data], laidTests := true, laidLooks := .later }
def TxnSkewUptoCardSaid : Prop := Claim7.holds Tryz.pinned (.plain (OpenSpec.upto txnSkewSpec)) txnSkewUptoCard

/-- THE SECOND FORM's CARD OF 'varvelaw17.TxnPhantom'. -/
def txnPhantomUptoCard : Claim7 := { stood := { row := txnPhantomUptoRow, standIns := [], harness := (true, "4b8b69288c38d7cbc9daa357af52441f25ea58ea8dd67cf2b11437998527c895"), looks := true }, kinds := [], alts := [], laidByText := true, laidKinds := [.data], laidTests := true, laidLooks := .later }
def TxnPhantomUptoCardSaid : Prop := Claim7.holds Tryz.pinned (.plain (OpenSpec.upto txnPhantomSpec)) txnPhantomUptoCard

/-- THE SECOND FORM's CARD OF 'varvelaw17.TxnSnaps'. -/
def txnSnapsUptoCard : Claim7 := { stood := { row := txnSnapsUptoRow, standIns := [], harness := (true, "4b8b69288c38d7cbc9daa357af52441f25ea58ea8dd67cf2b11437998527c895"), looks := true }, kinds := [], alts := [], laidByText := true, laidKinds := [.data], laidTests := true, laidLooks := .later }
def TxnSnapsUptoCardSaid : Prop := Claim7.holds Tryz.pinned (.plain (OpenSpec.upto txnSnapsSpec)) txnSnapsUptoCard

/-- THE SECOND FORM's CARD OF 'varvelaw17.TxnCounts'. -/
def txnCountsUptoCard : Claim7 := { stood := { row := txnCountsUptoRow, standIns := [], harness := (true, "4b8b69288c38d7cbc9daa357af52441f25ea58ea8dd67cf2b11437998527c895"), looks := true }, kinds := [], alts := [], laidByText := true, laidKinds := [.data], laidTests := true, laidLooks := .later }
def TxnCountsUptoCardSaid : Prop := Claim7.holds Tryz.pinned (.plain (OpenSpec.upto txnCountsSpec)) txnCountsUptoCard

/-- THE SECOND FORM's CARD OF 'varvelaw17.TxnSwept'. -/
def txnSweptUptoCard : Claim7 := { stood := { row := txnSweptUptoRow, standIns := [], harness := (true, "4b8b69288c38d7cbc9daa357af52441f25ea58ea8dd67cf2b11437998527c895"), looks := true }, kinds := [], alts := [], laidByText := true, laidKinds := [.data], laidTests := true, laidLooks := .later }
def TxnSweptUptoCardSaid : Prop := Claim7.holds Tryz.pinned (.plain (OpenSpec.upto txnSweptSpec)) txnSweptUptoCard

/-- THE SECOND FORM's CARD OF 'varvelaw17.TxnNone'. -/
def txnNoneUptoCard : Claim7 := { stood := { row := txnNoneUptoRow, standIns := [], harness := (true, "4b8b69288c38d7cbc9daa357af52441f25ea58ea8dd67cf2b11437998527c895"), looks := true }, kinds := [], alts := [], laidByText := true, laidKinds := [.data], laidTests := true, laidLooks := .later }
def TxnNoneUptoCardSaid : Prop := Claim7.holds Tryz.pinned (.plain (OpenSpec.upto txnNoneSpec)) txnNoneUptoCard
end Rows
end Go.Proofs.YtmjnogcbdombaaaGreatDoor
