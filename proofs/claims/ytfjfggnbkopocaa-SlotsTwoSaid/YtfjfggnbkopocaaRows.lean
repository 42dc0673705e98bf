/-
  No cell of these rows narrows 'for every input' (looked for: loops, veiled, ifaces, maps, wideKeys, modest, calm, conditions, laid).
  DERIVED. THE GIVEN ROWS OF THIS SEAT. 5 by the template 'for every input the law returns true; each argument reads behind the call as it read before'; 0 by the template 'total and deterministic' (their statements: YtfjfggnbkopocaaTotals.lean).
  GIVEN WITH THE SEED: the statements are not yours to turn. If you find one false, say at which input.
  Laid BY PROGRAM, IN A SANDBOX (cutbox-rows.mjs): the forced cells as the released guide's own fill.sh prints them over the translation 53c4d2933e5396a5… (all of the seat's roots in one cut). By AI agents, Wed Nov 11 2026. No macro, syntax, notation, axiom, sorry.
-/
import Derived.Test.YtfjfggnbkopocaaChecked
import GoSem.Claim
import GoSem.ClaimJoined
import GoSem.ClaimMapViews
import Derived.JoinedTies
import Derived.KernelRfl
namespace Go.Proofs.Ytfjfggnbkopocaa
/- THE CELL 'sum', in the pinned program and in every row, IS THE sha256 OF THE DUMP (.gsa) THAT YtfjfggnbkopocaaProg.lean LOADS. Nothing in Lean hashes anything: it is a label: what it is worth is what the hold of that sum in a sandbox is worth. -/
noncomputable def Try.pinned : Pinned := { name := "ytfjfggnbkopocaa", sum := "53c4d2933e5396a50ff14560e9c6a3ef51d045e0bf2daffc79a00dc76bc81400", checked := Try.checked }
namespace Rows
def none {H : Type} : Left H := { results := [], args := [] }

/-- 'bulwarklaw15.SlotsTwo': WHATEVER THE INPUT: true; the input reads as it did. -/
def slotsTwoSpec : ChangeSpec := { name := "slotsTwo", fn := fun _ => fun
  | [d1, d2, d3, d4] => { results := [.lit (.bool true)], args := [d1, d2, d3, d4] }
  | _ => none }
def slotsTwoRow : OpenClaim := { program := "ytfjfggnbkopocaa", sum := "53c4d2933e5396a50ff14560e9c6a3ef51d045e0bf2daffc79a00dc76bc81400", func := "bulwark/bulwarklaw15.SlotsTwo", spec := "slotsTwo", unfollowed := true, recurses := true, apart := false }
def SlotsTwoSaid : Prop := slotsTwoRow.holds Try.pinned (OpenSpec.ofChange slotsTwoSpec)

/-- ITS FALSE NEIGHBOUR: 'it returns false'. Refute it at one input. -/
def slotsTwoWrong : ChangeSpec := { name := "slotsTwo", fn := fun _ => fun
  | [d1, d2, d3, d4] => { results := [.lit (.bool false)], args := [d1, d2, d3, d4] }
  | _ => none }
def SlotsTwoWrongFalsely : Prop := slotsTwoRow.holds Try.pinned (OpenSpec.ofChange slotsTwoWrong)

/-- 'bulwarklaw15.SlotsCerts': WHATEVER THE INPUT: true; the input reads as it did. -/
def slotsCertsSpec : ChangeSpec := { name := "slotsCerts", fn := fun _ => fun
  | [d1, d2] => { results := [.lit (.bool true)], args := [d1, d2] }
  | _ => none }
def slotsCertsRow : OpenClaim := { program := "ytfjfggnbkopocaa", sum := "53c4d2933e5396a50ff14560e9c6a3ef51d045e0bf2daffc79a00dc76bc81400", func := "bulwark/bulwarklaw15.SlotsCerts", spec := "slotsCerts", unfollowed := true, recurses := true, apart := false }
def SlotsCertsSaid : Prop := slotsCertsRow.holds Try.pinned (OpenSpec.ofChange slotsCertsSpec)

/-- ITS FALSE NEIGHBOUR: 'it returns false'. Refute it at one input. -/
def slotsCertsWrong : ChangeSpec := { name := "slotsCerts", fn := fun _ => fun
  | [d1, d2] => { results := [.lit (.bool false)], args := [d1, d2] }
  | _ => none }
def SlotsCertsWrongFalsely : Prop := slotsCertsRow.holds Try.pinned (OpenSpec.ofChange slotsCertsWrong)

/-- 'bulwarklaw15.SlotsOnce': WHATEVER THE INPUT: true; the input reads as it did. -/
def slotsOnceSpec : ChangeSpec := { name := "slotsOnce", fn := fun _ => fun
  | [d1, d2] => { results := [.lit (.bool true)], args := [d1, d2] }
  | _ => none }
def slotsOnceRow : OpenClaim := { program := "ytfjfggnbkopocaa", sum := "53c4d2933e5396a50ff14560e9c6a3ef51d045e0bf2daffc79a00dc76bc81400", func := "bulwark/bulwarklaw15.SlotsOnce", spec := "slotsOnce", unfollowed := true, recurses := true, apart := false }
def SlotsOnceSaid : Prop := slotsOnceRow.holds Try.pinned (OpenSpec.ofChange slotsOnceSpec)

/-- ITS FALSE NEIGHBOUR: 'it returns false'. Refute it at one input. -/
def slotsOnceWrong : ChangeSpec := { name := "slotsOnce", fn := fun _ => fun
  | [d1, d2] => { results := [.lit (.bool false)], args := [d1, d2] }
  | _ => none }
def SlotsOnceWrongFalsely : Prop := slotsOnceRow.holds Try.pinned (OpenSpec.ofChange slotsOnceWrong)

/-- 'bulwarklaw15.SlotsMarks': WHATEVER THE INPUT: true; the input reads as it did. -/
def slotsMarksSpec : ChangeSpec := { name := "slotsMarks", fn := fun _ => fun
  | [d1, d2] => { results := [.lit (.bool true)], args := [d1, d2] }
  | _ => none }
def slotsMarksRow : OpenClaim := { program := "ytfjfggnbkopocaa", sum := "53c4d2933e5396a50ff14560e9c6a3ef51d045e0bf2daffc79a00dc76bc81400", func := "bulwark/bulwarklaw15.SlotsMarks", spec := "slotsMarks", unfollowed := true, recurses := true, apart := false }
def SlotsMarksSaid : Prop := slotsMarksRow.holds Try.pinned (OpenSpec.ofChange slotsMarksSpec)

/-- ITS FALSE NEIGHBOUR: 'it returns false'. Refute it at one input. -/
def slotsMarksWrong : ChangeSpec := { name := "slotsMarks", fn := fun _ => fun
  | [d1, d2] => { results := [.lit (.bool false)], args := [d1, d2] }
  | _ => none }
def SlotsMarksWrongFalsely : Prop := slotsMarksRow.holds Try.pinned (OpenSpec.ofChange slotsMarksWrong)

/-- 'bulwarklaw15.SlotsNils': WHATEVER THE INPUT: true; the input reads as it did. -/
def slotsNilsSpec : ChangeSpec := { name := "slotsNils", fn := fun _ => fun
  | [d1, d2] => { results := [.lit (.bool true)], args := [d1, d2] }
  | _ => none }
def slotsNilsRow : OpenClaim := { program := "ytfjfggnbkopocaa", sum := "53c4d2933e5396a50ff14560e9c6a3ef51d045e0bf2daffc79a00dc76bc81400", func := "bulwark/bulwarklaw15.SlotsNils", spec := "slotsNils", unfollowed := true, recurses := true, apart := false }
def SlotsNilsSaid : Prop := slotsNilsRow.holds Try.pinned (OpenSpec.ofChange slotsNilsSpec)

/-- ITS FALSE NEIGHBOUR: 'it returns false'. Refute it at one input. -/
def slotsNilsWrong : ChangeSpec := { name := "slotsNils", fn := fun _ => fun
  | [d1, d2] => { results := [.lit (.bool false)], args := [d1, d2] }
  | _ => none }
def SlotsNilsWrongFalsely : Prop := slotsNilsRow.holds Try.pinned (OpenSpec.ofChange slotsNilsWrong)

/- THE SECOND FORM. 'bulk': how many values and letters a reading holds, each counted each time it is reached (what is shared counts as often as it is met; a slice's spare places count too). A statement '..UptoSaid' is the law's where the arguments, and the package variables that the reading takes, are together of bulk at most 1048576: NARROWER than '..Said'. Prove '..Said' where nothing that the law and all that it calls make is longer than what came in: it says more and counts as full. Else prove '..UptoSaid'. A law counts once. -/
mutual
def uptoBulk {H : Type} : DataW H → Nat
  | .lit (.string bytes) => bytes.length + 1
  | .lit _ => 1
  | .nil => 1
  | .ptr d => uptoBulk d + 1
  | .slice elems spare => uptoBulkAll elems + uptoBulkAll spare + 1
  | .agg parts => uptoBulkAll parts + 1
  | .iface _ d => uptoBulk d + 1
  | .map entries => uptoBulkEntries entries + 1
  | .held _ => 1
def uptoBulkAll {H : Type} : List (DataW H) → Nat
  | [] => 0
  | d :: r => uptoBulk d + uptoBulkAll r
def uptoBulkEntries {H : Type} : List (Lit × DataW H) → Nat
  | [] => 0
  | x :: r => uptoBulkEntry x + uptoBulkEntries r
def uptoBulkEntry {H : Type} : Lit × DataW H → Nat
  | (.string bytes, d) => bytes.length + uptoBulk d + 1
  | (_, d) => uptoBulk d + 1
 end
def uptoSmall : (H : Type) → List (DataW H) → Bool := fun _ ds => decide (uptoBulkAll ds ≤ 1048576)
def OpenSpec.upto (s : _root_.Go.ChangeSpec) : _root_.Go.OpenSpec := { _root_.Go.OpenSpec.ofChange s with cond := some uptoSmall }

/-- 'bulwarklaw15.SlotsTwo', WHERE WHAT IT READS IS OF BULK AT MOST 1048576: true; the input reads as it did. -/
def slotsTwoUptoRow : OpenClaim := { program := "ytfjfggnbkopocaa", sum := "53c4d2933e5396a50ff14560e9c6a3ef51d045e0bf2daffc79a00dc76bc81400", func := "bulwark/bulwarklaw15.SlotsTwo", spec := "slotsTwo", unfollowed := true, recurses := true, apart := false, narrowed := true }
def SlotsTwoUptoSaid : Prop := slotsTwoUptoRow.holds Try.pinned (OpenSpec.upto slotsTwoSpec)

/-- 'bulwarklaw15.SlotsCerts', WHERE WHAT IT READS IS OF BULK AT MOST 1048576: true; the input reads as it did. -/
def slotsCertsUptoRow : OpenClaim := { program := "ytfjfggnbkopocaa", sum := "53c4d2933e5396a50ff14560e9c6a3ef51d045e0bf2daffc79a00dc76bc81400", func := "bulwark/bulwarklaw15.SlotsCerts", spec := "slotsCerts", unfollowed := true, recurses := true, apart := false, narrowed := true }
def SlotsCertsUptoSaid : Prop := slotsCertsUptoRow.holds Try.pinned (OpenSpec.upto slotsCertsSpec)

/-- 'bulwarklaw15.SlotsOnce', WHERE WHAT IT READS IS OF BULK AT MOST 1048576: true; the input reads as it did. -/
def slotsOnceUptoRow : OpenClaim := { program := "ytfjfggnbkopocaa", sum := "53c4d2933e5396a50ff14560e9c6a3ef51d045e0bf2daffc79a00dc76bc81400", func := "bulwark/bulwarklaw15.SlotsOnce", spec := "slotsOnce", unfollowed := true, recurses := true, apart := false, narrowed := true }
def SlotsOnceUptoSaid : Prop := slotsOnceUptoRow.holds Try.pinned (OpenSpec.upto slotsOnceSpec)

/-- 'bulwarklaw15.SlotsMarks', WHERE WHAT IT READS IS OF BULK AT MOST 1048576: true; the input reads as it did. -/
def slotsMarksUptoRow : OpenClaim := { program := "ytfjfggnbkopocaa", sum := "53c4d2933e5396a50ff14560e9c6a3ef51d045e0bf2daffc79a00dc76bc81400", func := "bulwark/bulwarklaw15.SlotsMarks", spec := "slotsMarks", unfollowed := true, recurses := true, apart := false, narrowed := true }
def SlotsMarksUptoSaid : Prop := slotsMarksUptoRow.holds Try.pinned (OpenSpec.upto slotsMarksSpec)

/-- 'bulwarklaw15.SlotsNils', WHERE WHAT IT READS IS OF BULK AT MOST 1048576: true; the input reads as it did. -/
def slotsNilsUptoRow : OpenClaim := { program := "ytfjfggnbkopocaa", sum := "53c4d2933e5396a50ff14560e9c6a3ef51d045e0bf2daffc79a00dc76bc81400", func := "bulwark/bulwarklaw15.SlotsNils", spec := "slotsNils", unfollowed := true, recurses := true, apart := false, narrowed := true }
def SlotsNilsUptoSaid : Prop := slotsNilsUptoRow.holds Try.pinned (OpenSpec.upto slotsNilsSpec)

end Rows
end Go.Proofs.Ytfjfggnbkopocaa
