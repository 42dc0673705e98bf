/-
  DERIVED. GIVEN WITH THE SEED: THE CARDS: each row of YtpckachmleonlaaGreatDoorRows.lean that lists a variable, with what it lists TIED to the program's text (the seventh form; the later family's looks); each row that meets fmt, with fmt's text TOLD by the authors' own Lean function (tested against real Go, not proved from fmt's source: count such statements apart). THE CARD IS WHAT COUNTS. Prove the row's statement (the work); the ties are given (YtpckachmleonlaaGreatDoorTie.lean); close each card by the builder's one call (the guide's Derived/Test/ToyasCard.lean, 'card_holds'). Laid BY PROGRAM, IN A SANDBOX (cutbox-door.mjs). By AI agents, Wed Nov 11 2026. No macro, syntax, notation, axiom, sorry.
-/
import Derived.Test.YtpckachmleonlaaGreatDoorRows
import GoSem.ClaimSeven
namespace Go.Proofs.YtpckachmleonlaaGreatDoor
namespace Rows

/-- THE TIED CARD OF 'bulwarklaw11.SplitCuts'. -/
def splitCutsCard : Claim7 := { stood := { row := splitCutsRow, standIns := [], harness := (true, "922fc1e7cfc2c535db1887e445df1d3c229ddc32885e19eacbe4b153b5a9ba96"), looks := false }, kinds := [], alts := [], laidByText := true, laidKinds := [.data, .pinned], laidTests := true, laidLooks := .later }
def SplitCutsCardSaid : Prop := Claim7.holds Tryz.pinned (.plain (OpenSpec.ofChange splitCutsSpec)) splitCutsCard

/-- THE TIED CARD OF 'bulwarklaw11.SplitMerges'. -/
def splitMergesCard : Claim7 := { stood := { row := splitMergesRow, standIns := [], harness := (true, "922fc1e7cfc2c535db1887e445df1d3c229ddc32885e19eacbe4b153b5a9ba96"), looks := false }, kinds := [], alts := [], laidByText := true, laidKinds := [.data, .pinned], laidTests := true, laidLooks := .later }
def SplitMergesCardSaid : Prop := Claim7.holds Tryz.pinned (.plain (OpenSpec.ofChange splitMergesSpec)) splitMergesCard

/-- THE TIED CARD OF 'bulwarklaw11.SplitHalf'. -/
def splitHalfCard : Claim7 := { stood := { row := splitHalfRow, standIns := [], harness := (true, "922fc1e7cfc2c535db1887e445df1d3c229ddc32885e19eacbe4b153b5a9ba96"), looks := false }, kinds := [], alts := [], laidByText := true, laidKinds := [.data, .pinned], laidTests := true, laidLooks := .later }
def SplitHalfCardSaid : Prop := Claim7.holds Tryz.pinned (.plain (OpenSpec.ofChange splitHalfSpec)) splitHalfCard

/-- THE TIED CARD OF 'bulwarklaw11.SplitBack'. -/
def splitBackCard : Claim7 := { stood := { row := splitBackRow, standIns := [], harness := (true, "922fc1e7cfc2c535db1887e445df1d3c229ddc32885e19eacbe4b153b5a9ba96"), looks := false }, kinds := [], alts := [], laidByText := true, laidKinds := [.data, .pinned], laidTests := true, laidLooks := .later }
def SplitBackCardSaid : Prop := Claim7.holds Tryz.pinned (.plain (OpenSpec.ofChange splitBackSpec)) splitBackCard

/-- THE TIED CARD OF 'bulwarklaw11.SplitSame'. -/
def splitSameCard : Claim7 := { stood := { row := splitSameRow, standIns := [], harness := (true, "922fc1e7cfc2c535db1887e445df1d3c229ddc32885e19eacbe4b153b5a9ba96"), looks := false }, kinds := [], alts := [], laidByText := true, laidKinds := [.data, .pinned], laidTests := true, laidLooks := .later }
def SplitSameCardSaid : Prop := Claim7.holds Tryz.pinned (.plain (OpenSpec.ofChange splitSameSpec)) splitSameCard

/-- THE TIED CARD OF 'bulwarklaw10.TabletBatch'. -/
def tabletBatchCard : Claim7 := { stood := { row := tabletBatchRow, standIns := [], harness := (true, "922fc1e7cfc2c535db1887e445df1d3c229ddc32885e19eacbe4b153b5a9ba96"), looks := false }, kinds := [], alts := [], laidByText := true, laidKinds := [.data, .pinned], laidTests := true, laidLooks := .later }
def TabletBatchCardSaid : Prop := Claim7.holds Tryz.pinned (.plain (OpenSpec.ofChange tabletBatchSpec)) tabletBatchCard

/-- THE TIED CARD OF 'bulwarklaw10.TabletAsks'. -/
def tabletAsksCard : Claim7 := { stood := { row := tabletAsksRow, standIns := [], harness := (true, "922fc1e7cfc2c535db1887e445df1d3c229ddc32885e19eacbe4b153b5a9ba96"), looks := false }, kinds := [], alts := [], laidByText := true, laidKinds := [.data, .pinned], laidTests := true, laidLooks := .later }
def TabletAsksCardSaid : Prop := Claim7.holds Tryz.pinned (.plain (OpenSpec.ofChange tabletAsksSpec)) tabletAsksCard

/-- THE TIED CARD OF 'bulwarklaw10.TabletNils'. -/
def tabletNilsCard : Claim7 := { stood := { row := tabletNilsRow, standIns := [], harness := (true, "922fc1e7cfc2c535db1887e445df1d3c229ddc32885e19eacbe4b153b5a9ba96"), looks := false }, kinds := [], alts := [], laidByText := true, laidKinds := [.data, .pinned], laidTests := true, laidLooks := .later }
def TabletNilsCardSaid : Prop := Claim7.holds Tryz.pinned (.plain (OpenSpec.ofChange tabletNilsSpec)) tabletNilsCard

/-- THE TIED CARD OF 'bulwarklaw10.TabletFull'. -/
def tabletFullCard : Claim7 := { stood := { row := tabletFullRow, standIns := [], harness := (true, "922fc1e7cfc2c535db1887e445df1d3c229ddc32885e19eacbe4b153b5a9ba96"), looks := false }, kinds := [], alts := [], laidByText := true, laidKinds := [.data, .pinned], laidTests := true, laidLooks := .later }
def TabletFullCardSaid : Prop := Claim7.holds Tryz.pinned (.plain (OpenSpec.ofChange tabletFullSpec)) tabletFullCard

/-- THE TIED CARD OF 'bulwarklaw10.TabletKeeps'. -/
def tabletKeepsCard : Claim7 := { stood := { row := tabletKeepsRow, standIns := [], harness := (true, "922fc1e7cfc2c535db1887e445df1d3c229ddc32885e19eacbe4b153b5a9ba96"), looks := false }, kinds := [], alts := [], laidByText := true, laidKinds := [.data, .pinned], laidTests := true, laidLooks := .later }
def TabletKeepsCardSaid : Prop := Claim7.holds Tryz.pinned (.plain (OpenSpec.ofChange tabletKeepsSpec)) tabletKeepsCard

/-- THE TIED CARD OF 'bulwarklaw10.TabletPlays'. -/
def tabletPlaysCard : Claim7 := { stood := { row := tabletPlaysRow, standIns := [], harness := (true, "922fc1e7cfc2c535db1887e445df1d3c229ddc32885e19eacbe4b153b5a9ba96"), looks := false }, kinds := [], alts := [], laidByText := true, laidKinds := [.data, .pinned], laidTests := true, laidLooks := .later }
def TabletPlaysCardSaid : Prop := Claim7.holds Tryz.pinned (.plain (OpenSpec.ofChange tabletPlaysSpec)) tabletPlaysCard

/-- THE TIED CARD OF 'bulwarklaw10.TabletOf'. -/
def tabletOfCard : Claim7 := { stood := { row := tabletOfRow, standIns := [], harness := (true, "922fc1e7cfc2c535db1887e445df1d3c229ddc32885e19eacbe4b153b5a9ba96"), looks := false }, kinds := [], alts := [], laidByText := true, laidKinds := [.data, .pinned], laidTests := true, laidLooks := .later }
def TabletOfCardSaid : Prop := Claim7.holds Tryz.pinned (.plain (OpenSpec.ofChange tabletOfSpec)) tabletOfCard

/-- THE SECOND FORM's CARD OF 'bulwarklaw11.SplitCuts'. -/
def splitCutsUptoCard : Claim7 := { stood := { row := splitCutsUptoRow, standIns := [], harness := (true, "922fc1e7cfc2c535db1887e445df1d3c229ddc32885e19eacbe4b153b5a9ba96"), looks := false }, kinds := [], alts := [], laidByText := true, laidKinds := [.data, .pinned], laidTests := true, laidLooks := .later }
def SplitCutsUptoCardSaid : Prop := Claim7.holds Tryz.pinned (.plain (OpenSpec.upto splitCutsSpec)) splitCutsUptoCard

/-- THE SECOND FORM's CARD OF 'bulwarklaw11.SplitMerges'. -/
def splitMergesUptoCard : Claim7 := { stood := { row := splitMergesUptoRow, standIns := [], harness := (true, "922fc1e7cfc2c535db1887e445df1d3c229ddc32885e19eacbe4b153b5a9ba96"), looks := false }, kinds := [], alts := [], laidByText := true, laidKinds := [.data, .pinned], laidTests := true, laidLooks := .later }
def SplitMergesUptoCardSaid : Prop := Claim7.holds Tryz.pinned (.plain (OpenSpec.upto splitMergesSpec)) splitMergesUptoCard

/-- THE SECOND FORM's CARD OF 'bulwarklaw11.SplitHalf'. -/
def splitHalfUptoCard : Claim7 := { stood := { row := splitHalfUptoRow, standIns := [], harness := (true, "922fc1e7cfc2c535db1887e445df1d3c229ddc32885e19eacbe4b153b5a9ba96"), looks := false }, kinds := [], alts := [], laidByText := true, laidKinds := [.data, .pinned], laidTests := true, laidLooks := .later }
def SplitHalfUptoCardSaid : Prop := Claim7.holds Tryz.pinned (.plain (OpenSpec.upto splitHalfSpec)) splitHalfUptoCard

/-- THE SECOND FORM's CARD OF 'bulwarklaw11.SplitBack'. -/
def splitBackUptoCard : Claim7 := { stood := { row := splitBackUptoRow, standIns := [], harness := (true, "922fc1e7cfc2c535db1887e445df1d3c229ddc32885e19eacbe4b153b5a9ba96"), looks := false }, kinds := [], alts := [], laidByText := true, laidKinds := [.data, .pinned], laidTests := true, laidLooks := .later }
def SplitBackUptoCardSaid : Prop := Claim7.holds Tryz.pinned (.plain (OpenSpec.upto splitBackSpec)) splitBackUptoCard

/-- THE SECOND FORM's CARD OF 'bulwarklaw11.SplitSame'. -/
def splitSameUptoCard : Claim7 := { stood := { row := splitSameUptoRow, standIns := [], harness := (true, "922fc1e7cfc2c535db1887e445df1d3c229ddc32885e19eacbe4b153b5a9ba96"), looks := false }, kinds := [], alts := [], laidByText := true, laidKinds := [.data, .pinned], laidTests := true, laidLooks := .later }
def SplitSameUptoCardSaid : Prop := Claim7.holds Tryz.pinned (.plain (OpenSpec.upto splitSameSpec)) splitSameUptoCard

/-- THE SECOND FORM's CARD OF 'bulwarklaw10.TabletBatch'. -/
def tabletBatchUptoCard : Claim7 := { stood := { row := tabletBatchUptoRow, standIns := [], harness := (true, "922fc1e7cfc2c535db1887e445df1d3c229ddc32885e19eacbe4b153b5a9ba96"), looks := false }, kinds := [], alts := [], laidByText := true, laidKinds := [.data, .pinned], laidTests := true, laidLooks := .later }
def TabletBatchUptoCardSaid : Prop := Claim7.holds Tryz.pinned (.plain (OpenSpec.upto tabletBatchSpec)) tabletBatchUptoCard

/-- THE SECOND FORM's CARD OF 'bulwarklaw10.TabletAsks'. -/
def tabletAsksUptoCard : Claim7 := { stood := { row := tabletAsksUptoRow, standIns := [], harness := (true, "922fc1e7cfc2c535db1887e445df1d3c229ddc32885e19eacbe4b153b5a9ba96"), looks := false }, kinds := [], alts := [], laidByText := true, laidKinds := [.data, .pinned], laidTests := true, laidLooks := .later }
def TabletAsksUptoCardSaid : Prop := Claim7.holds Tryz.pinned (.plain (OpenSpec.upto tabletAsksSpec)) tabletAsksUptoCard

/-- THE SECOND FORM's CARD OF 'bulwarklaw10.TabletNils'. -/
def tabletNilsUptoCard : Claim7 := { stood := { row := tabletNilsUptoRow, standIns := [], harness := (true, "922fc1e7cfc2c535db1887e445df1d3c229ddc32885e19eacbe4b153b5a9ba96"), looks := false }, kinds := [], alts := [], laidByText := true, laidKinds := [.data, .pinned], laidTests := true, laidLooks := .later }
def TabletNilsUptoCardSaid : Prop := Claim7.holds Tryz.pinned (.plain (OpenSpec.upto tabletNilsSpec)) tabletNilsUptoCard

/-- THE SECOND FORM's CARD OF 'bulwarklaw10.TabletFull'. -/
def tabletFullUptoCard : Claim7 := { stood := { row := tabletFullUptoRow, standIns := [], harness := (true, "922fc1e7cfc2c535db1887e445df1d3c229ddc32885e19eacbe4b153b5a9ba96"), looks := false }, kinds := [], alts := [], laidByText := true, laidKinds := [.data, .pinned], laidTests := true, laidLooks := .later }
def TabletFullUptoCardSaid : Prop := Claim7.holds Tryz.pinned (.plain (OpenSpec.upto tabletFullSpec)) tabletFullUptoCard

/-- THE SECOND FORM's CARD OF 'bulwarklaw10.TabletKeeps'. -/
def tabletKeepsUptoCard : Claim7 := { stood := { row := tabletKeepsUptoRow, standIns := [], harness := (true, "922fc1e7cfc2c535db1887e445df1d3c229ddc32885e19eacbe4b153b5a9ba96"), looks := false }, kinds := [], alts := [], laidByText := true, laidKinds := [.data, .pinned], laidTests := true, laidLooks := .later }
def TabletKeepsUptoCardSaid : Prop := Claim7.holds Tryz.pinned (.plain (OpenSpec.upto tabletKeepsSpec)) tabletKeepsUptoCard

/-- THE SECOND FORM's CARD OF 'bulwarklaw10.TabletPlays'. -/
def tabletPlaysUptoCard : Claim7 := { stood := { row := tabletPlaysUptoRow, standIns := [], harness := (true, "922fc1e7cfc2c535db1887e445df1d3c229ddc32885e19eacbe4b153b5a9ba96"), looks := false }, kinds := [], alts := [], laidByText := true, laidKinds := [.data, .pinned], laidTests := true, laidLooks := .later }
def TabletPlaysUptoCardSaid : Prop := Claim7.holds Tryz.pinned (.plain (OpenSpec.upto tabletPlaysSpec)) tabletPlaysUptoCard

/-- THE SECOND FORM's CARD OF 'bulwarklaw10.TabletOf'. -/
def tabletOfUptoCard : Claim7 := { stood := { row := tabletOfUptoRow, standIns := [], harness := (true, "922fc1e7cfc2c535db1887e445df1d3c229ddc32885e19eacbe4b153b5a9ba96"), looks := false }, kinds := [], alts := [], laidByText := true, laidKinds := [.data, .pinned], laidTests := true, laidLooks := .later }
def TabletOfUptoCardSaid : Prop := Claim7.holds Tryz.pinned (.plain (OpenSpec.upto tabletOfSpec)) tabletOfUptoCard
end Rows
end Go.Proofs.YtpckachmleonlaaGreatDoor
