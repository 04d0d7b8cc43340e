/-
  DERIVED. GIVEN WITH THE SEED: THE CARDS: each row of YtkpbfldnickghaaDoorRows.lean that lists a variable, with what it lists TIED to the program's text (the seventh form; the later family's looks); each row that meets fmt, with fmt's text TOLD by the authors' own Lean function (tested against real Go, not proved from fmt's source: count such statements apart). THE CARD IS WHAT COUNTS. Prove the row's statement (the work); the ties are given (YtkpbfldnickghaaDoorTie.lean); close each card by the builder's one call (the guide's Derived/Test/ToyasCard.lean, 'card_holds'). Laid BY PROGRAM, IN A SANDBOX (cutbox-door.mjs). By AI agents, Wed Nov 11 2026. No macro, syntax, notation, axiom, sorry.
-/
import Derived.Test.YtkpbfldnickghaaDoorRows
import GoSem.ClaimSeven
namespace Go.Proofs.YtkpbfldnickghaaDoor
namespace Rows

/-- THE TIED CARD OF 'isochronelaw22.ReplayRecords'. -/
def replayRecordsCard : Claim7 := { stood := { row := replayRecordsRow, standIns := [], harness := (true, "9043135b86325d16f06efffef44cde2e9cbacf5b8406290870040d732970f1e0"), looks := false }, kinds := [], alts := [], laidByText := true, laidKinds := [.data, .data, .data], laidTests := true, laidLooks := .later }
def ReplayRecordsCardSaid : Prop := Claim7.holds Tryd.pinned (.plain (OpenSpec.ofChange replayRecordsSpec)) replayRecordsCard

/-- THE TIED CARD OF 'isochronelaw22.ReplayEquals'. -/
def replayEqualsCard : Claim7 := { stood := { row := replayEqualsRow, standIns := [], harness := (true, "9043135b86325d16f06efffef44cde2e9cbacf5b8406290870040d732970f1e0"), looks := false }, kinds := [], alts := [], laidByText := true, laidKinds := [.data, .data, .data], laidTests := true, laidLooks := .later }
def ReplayEqualsCardSaid : Prop := Claim7.holds Tryd.pinned (.plain (OpenSpec.ofChange replayEqualsSpec)) replayEqualsCard

/-- THE TIED CARD OF 'isochronelaw22.ReplayLemmas'. -/
def replayLemmasCard : Claim7 := { stood := { row := replayLemmasRow, standIns := [], harness := (true, "9043135b86325d16f06efffef44cde2e9cbacf5b8406290870040d732970f1e0"), looks := false }, kinds := [], alts := [], laidByText := true, laidKinds := [.data, .data, .data], laidTests := true, laidLooks := .later }
def ReplayLemmasCardSaid : Prop := Claim7.holds Tryd.pinned (.plain (OpenSpec.ofChange replayLemmasSpec)) replayLemmasCard

/-- THE SECOND FORM's CARD OF 'isochronelaw22.ReplayRecords'. -/
def replayRecordsUptoCard : Claim7 := { stood := { row := replayRecordsUptoRow, standIns := [], harness := (true, "9043135b86325d16f06efffef44cde2e9cbacf5b8406290870040d732970f1e0"), looks := false }, kinds := [], alts := [], laidByText := true, laidKinds := [.data, .data, .data], laidTests := true, laidLooks := .later }
def ReplayRecordsUptoCardSaid : Prop := Claim7.holds Tryd.pinned (.plain (OpenSpec.upto replayRecordsSpec)) replayRecordsUptoCard

/-- THE SECOND FORM's CARD OF 'isochronelaw22.ReplayEquals'. -/
def replayEqualsUptoCard : Claim7 := { stood := { row := replayEqualsUptoRow, standIns := [], harness := (true, "9043135b86325d16f06efffef44cde2e9cbacf5b8406290870040d732970f1e0"), looks := false }, kinds := [], alts := [], laidByText := true, laidKinds := [.data, .data, .data], laidTests := true, laidLooks := .later }
def ReplayEqualsUptoCardSaid : Prop := Claim7.holds Tryd.pinned (.plain (OpenSpec.upto replayEqualsSpec)) replayEqualsUptoCard

/-- THE SECOND FORM's CARD OF 'isochronelaw22.ReplayLemmas'. -/
def replayLemmasUptoCard : Claim7 := { stood := { row := replayLemmasUptoRow, standIns := [], harness := (true, "9043135b86325d16f06efffef44cde2e9cbacf5b8406290870040d732970f1e0"), looks := false }, kinds := [], alts := [], laidByText := true, laidKinds := [.data, .data, .data], laidTests := true, laidLooks := .later }
def ReplayLemmasUptoCardSaid : Prop := Claim7.holds Tryd.pinned (.plain (OpenSpec.upto replayLemmasSpec)) replayLemmasUptoCard
end Rows
end Go.Proofs.YtkpbfldnickghaaDoor
