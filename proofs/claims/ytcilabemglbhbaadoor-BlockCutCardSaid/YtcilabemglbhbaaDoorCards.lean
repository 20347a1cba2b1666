/-
  DERIVED. GIVEN WITH THE SEED: THE CARDS: each row of YtcilabemglbhbaaDoorRows.lean that lists a variable, with what it lists TIED to the program's text (the seventh form; the later family's looks); each row that meets fmt, with fmt's text TOLD by the authors' own Lean function (tested against real Go, not proved from fmt's source: count such statements apart). THE CARD IS WHAT COUNTS. Prove the row's statement (the work); the ties are given (YtcilabemglbhbaaDoorTie.lean); close each card by the builder's one call (the guide's Derived/Test/ToyasCard.lean, 'card_holds'). Laid BY PROGRAM, IN A SANDBOX (cutbox-door.mjs). By AI agents, Wed Nov 11 2026. No macro, syntax, notation, axiom, sorry.
-/
import Derived.Test.YtcilabemglbhbaaDoorRows
import GoSem.ClaimSeven
namespace Go.Proofs.YtcilabemglbhbaaDoor
namespace Rows

/-- THE TIED CARD OF 'purserlaw07.BlockHeaders'. -/
def blockHeadersCard : Claim7 := { stood := { row := blockHeadersRow, standIns := [], harness := (true, "1ead1e96b7af0001f3ca7741cb01b16abc6732b8e864885abfa658d8f4ae39c1"), looks := false }, kinds := [], alts := [], laidByText := true, laidKinds := [.data, .pinned], laidTests := true, laidLooks := .later }
def BlockHeadersCardSaid : Prop := Claim7.holds Tryd.pinned (.plain (OpenSpec.ofChange blockHeadersSpec)) blockHeadersCard

/-- THE TIED CARD OF 'purserlaw07.BlockBits'. -/
def blockBitsCard : Claim7 := { stood := { row := blockBitsRow, standIns := [], harness := (true, "1ead1e96b7af0001f3ca7741cb01b16abc6732b8e864885abfa658d8f4ae39c1"), looks := false }, kinds := [], alts := [], laidByText := true, laidKinds := [.data, .pinned], laidTests := true, laidLooks := .later }
def BlockBitsCardSaid : Prop := Claim7.holds Tryd.pinned (.plain (OpenSpec.ofChange blockBitsSpec)) blockBitsCard

/-- THE TIED CARD OF 'purserlaw07.BlockCut'. -/
def blockCutCard : Claim7 := { stood := { row := blockCutRow, standIns := [], harness := (true, "1ead1e96b7af0001f3ca7741cb01b16abc6732b8e864885abfa658d8f4ae39c1"), looks := false }, kinds := [], alts := [], laidByText := true, laidKinds := [.data, .pinned], laidTests := true, laidLooks := .later }
def BlockCutCardSaid : Prop := Claim7.holds Tryd.pinned (.plain (OpenSpec.ofChange blockCutSpec)) blockCutCard

/-- THE TIED CARD OF 'purserlaw07.BlockNames'. -/
def blockNamesCard : Claim7 := { stood := { row := blockNamesRow, standIns := [], harness := (true, "1ead1e96b7af0001f3ca7741cb01b16abc6732b8e864885abfa658d8f4ae39c1"), looks := false }, kinds := [], alts := [], laidByText := true, laidKinds := [.data, .pinned], laidTests := true, laidLooks := .later }
def BlockNamesCardSaid : Prop := Claim7.holds Tryd.pinned (.plain (OpenSpec.ofChange blockNamesSpec)) blockNamesCard

/-- THE SECOND FORM's CARD OF 'purserlaw07.BlockHeaders'. -/
def blockHeadersUptoCard : Claim7 := { stood := { row := blockHeadersUptoRow, standIns := [], harness := (true, "1ead1e96b7af0001f3ca7741cb01b16abc6732b8e864885abfa658d8f4ae39c1"), looks := false }, kinds := [], alts := [], laidByText := true, laidKinds := [.data, .pinned], laidTests := true, laidLooks := .later }
def BlockHeadersUptoCardSaid : Prop := Claim7.holds Tryd.pinned (.plain (OpenSpec.upto blockHeadersSpec)) blockHeadersUptoCard

/-- THE SECOND FORM's CARD OF 'purserlaw07.BlockBits'. -/
def blockBitsUptoCard : Claim7 := { stood := { row := blockBitsUptoRow, standIns := [], harness := (true, "1ead1e96b7af0001f3ca7741cb01b16abc6732b8e864885abfa658d8f4ae39c1"), looks := false }, kinds := [], alts := [], laidByText := true, laidKinds := [.data, .pinned], laidTests := true, laidLooks := .later }
def BlockBitsUptoCardSaid : Prop := Claim7.holds Tryd.pinned (.plain (OpenSpec.upto blockBitsSpec)) blockBitsUptoCard

/-- THE SECOND FORM's CARD OF 'purserlaw07.BlockCut'. -/
def blockCutUptoCard : Claim7 := { stood := { row := blockCutUptoRow, standIns := [], harness := (true, "1ead1e96b7af0001f3ca7741cb01b16abc6732b8e864885abfa658d8f4ae39c1"), looks := false }, kinds := [], alts := [], laidByText := true, laidKinds := [.data, .pinned], laidTests := true, laidLooks := .later }
def BlockCutUptoCardSaid : Prop := Claim7.holds Tryd.pinned (.plain (OpenSpec.upto blockCutSpec)) blockCutUptoCard

/-- THE SECOND FORM's CARD OF 'purserlaw07.BlockNames'. -/
def blockNamesUptoCard : Claim7 := { stood := { row := blockNamesUptoRow, standIns := [], harness := (true, "1ead1e96b7af0001f3ca7741cb01b16abc6732b8e864885abfa658d8f4ae39c1"), looks := false }, kinds := [], alts := [], laidByText := true, laidKinds := [.data, .pinned], laidTests := true, laidLooks := .later }
def BlockNamesUptoCardSaid : Prop := Claim7.holds Tryd.pinned (.plain (OpenSpec.upto blockNamesSpec)) blockNamesUptoCard
end Rows
end Go.Proofs.YtcilabemglbhbaaDoor
