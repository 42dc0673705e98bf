/-
  DERIVED. GIVEN WITH THE SEED: THE CARDS: each row of YtfdnpnaacikgdaaDoorRows.lean that lists a variable, with what it lists TIED to the program's text (the seventh form; the later family's looks); each row that meets fmt, with fmt's text TOLD by the authors' own Lean function (tested against real Go, not proved from fmt's source: count such statements apart). THE CARD IS WHAT COUNTS. Prove the row's statement (the work); the ties are given (YtfdnpnaacikgdaaDoorTie.lean); close each card by the builder's one call (the guide's Derived/Test/ToyasCard.lean, 'card_holds'). Laid BY PROGRAM, IN A SANDBOX (cutbox-door.mjs). By AI agents, Wed Nov 11 2026. No macro, syntax, notation, axiom, sorry.
-/
import Derived.Test.YtfdnpnaacikgdaaDoorRows
import GoSem.ClaimSeven
namespace Go.Proofs.YtfdnpnaacikgdaaDoor
namespace Rows

/-- THE TIED CARD OF 'bulwarklaw04.CellBytes'. -/
def cellBytesCard : Claim7 := { stood := { row := cellBytesRow, standIns := [], harness := (true, "fd98fb4403a1ffb532f9dd555ae91f5b0eae78e0ac09b54e941486c87e01df27"), looks := false }, kinds := [], alts := [], laidByText := true, laidKinds := [.data, .pinned], laidTests := true, laidLooks := .later }
def CellBytesCardSaid : Prop := Claim7.holds Tryd.pinned (.plain (OpenSpec.ofChange cellBytesSpec)) cellBytesCard

/-- THE TIED CARD OF 'bulwarklaw04.CellStands'. -/
def cellStandsCard : Claim7 := { stood := { row := cellStandsRow, standIns := [], harness := (true, "fd98fb4403a1ffb532f9dd555ae91f5b0eae78e0ac09b54e941486c87e01df27"), looks := false }, kinds := [], alts := [], laidByText := true, laidKinds := [.data, .pinned], laidTests := true, laidLooks := .later }
def CellStandsCardSaid : Prop := Claim7.holds Tryd.pinned (.plain (OpenSpec.ofChange cellStandsSpec)) cellStandsCard

/-- THE TIED CARD OF 'bulwarklaw04.CellOrder'. -/
def cellOrderCard : Claim7 := { stood := { row := cellOrderRow, standIns := [], harness := (true, "fd98fb4403a1ffb532f9dd555ae91f5b0eae78e0ac09b54e941486c87e01df27"), looks := false }, kinds := [], alts := [], laidByText := true, laidKinds := [.data, .pinned], laidTests := true, laidLooks := .later }
def CellOrderCardSaid : Prop := Claim7.holds Tryd.pinned (.plain (OpenSpec.ofChange cellOrderSpec)) cellOrderCard

/-- THE TIED CARD OF 'bulwarklaw04.CellColumns'. -/
def cellColumnsCard : Claim7 := { stood := { row := cellColumnsRow, standIns := [], harness := (true, "fd98fb4403a1ffb532f9dd555ae91f5b0eae78e0ac09b54e941486c87e01df27"), looks := false }, kinds := [], alts := [], laidByText := true, laidKinds := [.data, .pinned], laidTests := true, laidLooks := .later }
def CellColumnsCardSaid : Prop := Claim7.holds Tryd.pinned (.plain (OpenSpec.ofChange cellColumnsSpec)) cellColumnsCard

/-- THE TIED CARD OF 'bulwarklaw04.CellReads'. -/
def cellReadsCard : Claim7 := { stood := { row := cellReadsRow, standIns := [], harness := (true, "fd98fb4403a1ffb532f9dd555ae91f5b0eae78e0ac09b54e941486c87e01df27"), looks := false }, kinds := [], alts := [], laidByText := true, laidKinds := [.data, .pinned], laidTests := true, laidLooks := .later }
def CellReadsCardSaid : Prop := Claim7.holds Tryd.pinned (.plain (OpenSpec.ofChange cellReadsSpec)) cellReadsCard

/-- THE TIED CARD OF 'bulwarklaw04.CellBack'. -/
def cellBackCard : Claim7 := { stood := { row := cellBackRow, standIns := [], harness := (true, "fd98fb4403a1ffb532f9dd555ae91f5b0eae78e0ac09b54e941486c87e01df27"), looks := false }, kinds := [], alts := [], laidByText := true, laidKinds := [.data, .pinned], laidTests := true, laidLooks := .later }
def CellBackCardSaid : Prop := Claim7.holds Tryd.pinned (.plain (OpenSpec.ofChange cellBackSpec)) cellBackCard

/-- THE TIED CARD OF 'bulwarklaw04.CellBetween'. -/
def cellBetweenCard : Claim7 := { stood := { row := cellBetweenRow, standIns := [], harness := (true, "fd98fb4403a1ffb532f9dd555ae91f5b0eae78e0ac09b54e941486c87e01df27"), looks := false }, kinds := [], alts := [], laidByText := true, laidKinds := [.data, .pinned], laidTests := true, laidLooks := .later }
def CellBetweenCardSaid : Prop := Claim7.holds Tryd.pinned (.plain (OpenSpec.ofChange cellBetweenSpec)) cellBetweenCard

/-- THE SECOND FORM's CARD OF 'bulwarklaw04.CellBytes'. -/
def cellBytesUptoCard : Claim7 := { stood := { row := cellBytesUptoRow, standIns := [], harness := (true, "fd98fb4403a1ffb532f9dd555ae91f5b0eae78e0ac09b54e941486c87e01df27"), looks := false }, kinds := [], alts := [], laidByText := true, laidKinds := [.data, .pinned], laidTests := true, laidLooks := .later }
def CellBytesUptoCardSaid : Prop := Claim7.holds Tryd.pinned (.plain (OpenSpec.upto cellBytesSpec)) cellBytesUptoCard

/-- THE SECOND FORM's CARD OF 'bulwarklaw04.CellStands'. -/
def cellStandsUptoCard : Claim7 := { stood := { row := cellStandsUptoRow, standIns := [], harness := (true, "fd98fb4403a1ffb532f9dd555ae91f5b0eae78e0ac09b54e941486c87e01df27"), looks := false }, kinds := [], alts := [], laidByText := true, laidKinds := [.data, .pinned], laidTests := true, laidLooks := .later }
def CellStandsUptoCardSaid : Prop := Claim7.holds Tryd.pinned (.plain (OpenSpec.upto cellStandsSpec)) cellStandsUptoCard

/-- THE SECOND FORM's CARD OF 'bulwarklaw04.CellOrder'. -/
def cellOrderUptoCard : Claim7 := { stood := { row := cellOrderUptoRow, standIns := [], harness := (true, "fd98fb4403a1ffb532f9dd555ae91f5b0eae78e0ac09b54e941486c87e01df27"), looks := false }, kinds := [], alts := [], laidByText := true, laidKinds := [.data, .pinned], laidTests := true, laidLooks := .later }
def CellOrderUptoCardSaid : Prop := Claim7.holds Tryd.pinned (.plain (OpenSpec.upto cellOrderSpec)) cellOrderUptoCard

/-- THE SECOND FORM's CARD OF 'bulwarklaw04.CellColumns'. -/
def cellColumnsUptoCard : Claim7 := { stood := { row := cellColumnsUptoRow, standIns := [], harness := (true, "fd98fb4403a1ffb532f9dd555ae91f5b0eae78e0ac09b54e941486c87e01df27"), looks := false }, kinds := [], alts := [], laidByText := true, laidKinds := [.data, .pinned], laidTests := true, laidLooks := .later }
def CellColumnsUptoCardSaid : Prop := Claim7.holds Tryd.pinned (.plain (OpenSpec.upto cellColumnsSpec)) cellColumnsUptoCard

/-- THE SECOND FORM's CARD OF 'bulwarklaw04.CellReads'. -/
def cellReadsUptoCard : Claim7 := { stood := { row := cellReadsUptoRow, standIns := [], harness := (true, "fd98fb4403a1ffb532f9dd555ae91f5b0eae78e0ac09b54e941486c87e01df27"), looks := false }, kinds := [], alts := [], laidByText := true, laidKinds := [.data, .pinned], laidTests := true, laidLooks := .later }
def CellReadsUptoCardSaid : Prop := Claim7.holds Tryd.pinned (.plain (OpenSpec.upto cellReadsSpec)) cellReadsUptoCard

/-- THE SECOND FORM's CARD OF 'bulwarklaw04.CellBack'. -/
def cellBackUptoCard : Claim7 := { stood := { row := cellBackUptoRow, standIns := [], harness := (true, "fd98fb4403a1ffb532f9dd555ae91f5b0eae78e0ac09b54e941486c87e01df27"), looks := false }, kinds := [], alts := [], laidByText := true, laidKinds := [.data, .pinned], laidTests := true, laidLooks := .later }
def CellBackUptoCardSaid : Prop := Claim7.holds Tryd.pinned (.plain (OpenSpec.upto cellBackSpec)) cellBackUptoCard

/-- THE SECOND FORM's CARD OF 'bulwarklaw04.CellBetween'. -/
def cellBetweenUptoCard : Claim7 := { stood := { row := cellBetweenUptoRow, standIns := [], harness := (true, "fd98fb4403a1ffb532f9dd555ae91f5b0eae78e0ac09b54e941486c87e01df27"), looks := false }, kinds := [], alts := [], laidByText := true, laidKinds := [.data, .pinned], laidTests := true, laidLooks := .later }
def CellBetweenUptoCardSaid : Prop := Claim7.holds Tryd.pinned (.plain (OpenSpec.upto cellBetweenSpec)) cellBetweenUptoCard
end Rows
end Go.Proofs.YtfdnpnaacikgdaaDoor
