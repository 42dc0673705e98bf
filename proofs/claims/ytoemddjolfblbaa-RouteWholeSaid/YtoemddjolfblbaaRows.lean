/-
  No cell of these rows narrows 'for every input' (looked for: loops, veiled, ifaces, maps, wideKeys, modest, calm, conditions, laid).
  DERIVED. THE GIVEN ROWS OF THIS SEAT. 6 by the template 'for every input the law returns true; each argument reads behind the call as it read before'; 0 by the template 'total and deterministic' (their statements: YtoemddjolfblbaaTotals.lean).
  GIVEN WITH THE SEED: the statements are not yours to turn. If you find one false, say at which input.
  Laid BY PROGRAM, IN A SANDBOX (cutbox-rows.mjs): the forced cells as the released guide's own fill.sh prints them over the translation b9620a176b376661… (all of the seat's roots in one cut). By AI agents, Wed Nov 11 2026. No macro, syntax, notation, axiom, sorry.
-/
import Derived.Test.YtoemddjolfblbaaChecked
import GoSem.Claim
import GoSem.ClaimJoined
import GoSem.ClaimMapViews
import Derived.JoinedTies
import Derived.KernelRfl
namespace Go.Proofs.Ytoemddjolfblbaa
/- THE CELL 'sum', in the pinned program and in every row, IS THE sha256 OF THE DUMP (.gsa) THAT YtoemddjolfblbaaProg.lean LOADS. Nothing in Lean hashes anything: it is a label: what it is worth is what the hold of that sum in a sandbox is worth. -/
noncomputable def Try.pinned : Pinned := { name := "ytoemddjolfblbaa", sum := "b9620a176b376661ad0b4bce9b00d28a34bf621b12534d3a7efe869cb58c933b", checked := Try.checked }
namespace Rows
def none {H : Type} : Left H := { results := [], args := [] }

/-- 'bulwarklaw17.RouteFinds': WHATEVER THE INPUT: true; the input reads as it did. -/
def routeFindsSpec : ChangeSpec := { name := "routeFinds", fn := fun _ => fun
  | [d1, d2] => { results := [.lit (.bool true)], args := [d1, d2] }
  | _ => none }
def routeFindsRow : OpenClaim := { program := "ytoemddjolfblbaa", sum := "b9620a176b376661ad0b4bce9b00d28a34bf621b12534d3a7efe869cb58c933b", func := "bulwark/bulwarklaw17.RouteFinds", spec := "routeFinds", inPlace := ["slices.overlaps[bulwark/route.Part]"], unfollowed := true, recurses := true, apart := false }
def RouteFindsSaid : Prop := routeFindsRow.holds Try.pinned (OpenSpec.ofChange routeFindsSpec)

/-- ITS FALSE NEIGHBOUR: 'it returns false'. Refute it at one input. -/
def routeFindsWrong : ChangeSpec := { name := "routeFinds", fn := fun _ => fun
  | [d1, d2] => { results := [.lit (.bool false)], args := [d1, d2] }
  | _ => none }
def RouteFindsWrongFalsely : Prop := routeFindsRow.holds Try.pinned (OpenSpec.ofChange routeFindsWrong)

/-- 'bulwarklaw17.RouteCovers': WHATEVER THE INPUT: true; the input reads as it did. -/
def routeCoversSpec : ChangeSpec := { name := "routeCovers", fn := fun _ => fun
  | [d1, d2, d3] => { results := [.lit (.bool true)], args := [d1, d2, d3] }
  | _ => none }
def routeCoversRow : OpenClaim := { program := "ytoemddjolfblbaa", sum := "b9620a176b376661ad0b4bce9b00d28a34bf621b12534d3a7efe869cb58c933b", func := "bulwark/bulwarklaw17.RouteCovers", spec := "routeCovers", inPlace := ["slices.overlaps[bulwark/route.Part]"], unfollowed := true, recurses := true, apart := false }
def RouteCoversSaid : Prop := routeCoversRow.holds Try.pinned (OpenSpec.ofChange routeCoversSpec)

/-- ITS FALSE NEIGHBOUR: 'it returns false'. Refute it at one input. -/
def routeCoversWrong : ChangeSpec := { name := "routeCovers", fn := fun _ => fun
  | [d1, d2, d3] => { results := [.lit (.bool false)], args := [d1, d2, d3] }
  | _ => none }
def RouteCoversWrongFalsely : Prop := routeCoversRow.holds Try.pinned (OpenSpec.ofChange routeCoversWrong)

/-- 'bulwarklaw17.RouteOnce': WHATEVER THE INPUT: true; the input reads as it did. -/
def routeOnceSpec : ChangeSpec := { name := "routeOnce", fn := fun _ => fun
  | [d1, d2, d3, d4] => { results := [.lit (.bool true)], args := [d1, d2, d3, d4] }
  | _ => none }
def routeOnceRow : OpenClaim := { program := "ytoemddjolfblbaa", sum := "b9620a176b376661ad0b4bce9b00d28a34bf621b12534d3a7efe869cb58c933b", func := "bulwark/bulwarklaw17.RouteOnce", spec := "routeOnce", inPlace := ["slices.overlaps[bulwark/route.Part]"], unfollowed := true, recurses := true, apart := false }
def RouteOnceSaid : Prop := routeOnceRow.holds Try.pinned (OpenSpec.ofChange routeOnceSpec)

/-- ITS FALSE NEIGHBOUR: 'it returns false'. Refute it at one input. -/
def routeOnceWrong : ChangeSpec := { name := "routeOnce", fn := fun _ => fun
  | [d1, d2, d3, d4] => { results := [.lit (.bool false)], args := [d1, d2, d3, d4] }
  | _ => none }
def RouteOnceWrongFalsely : Prop := routeOnceRow.holds Try.pinned (OpenSpec.ofChange routeOnceWrong)

/-- 'bulwarklaw17.RouteWhole': WHATEVER THE INPUT: true; the input reads as it did. -/
def routeWholeSpec : ChangeSpec := { name := "routeWhole", fn := fun _ => fun
  | [d1, d2, d3, d4] => { results := [.lit (.bool true)], args := [d1, d2, d3, d4] }
  | _ => none }
def routeWholeRow : OpenClaim := { program := "ytoemddjolfblbaa", sum := "b9620a176b376661ad0b4bce9b00d28a34bf621b12534d3a7efe869cb58c933b", func := "bulwark/bulwarklaw17.RouteWhole", spec := "routeWhole", inPlace := ["slices.overlaps[bulwark/route.Part]"], unfollowed := true, recurses := true, apart := false }
def RouteWholeSaid : Prop := routeWholeRow.holds Try.pinned (OpenSpec.ofChange routeWholeSpec)

/-- ITS FALSE NEIGHBOUR: 'it returns false'. Refute it at one input. -/
def routeWholeWrong : ChangeSpec := { name := "routeWhole", fn := fun _ => fun
  | [d1, d2, d3, d4] => { results := [.lit (.bool false)], args := [d1, d2, d3, d4] }
  | _ => none }
def RouteWholeWrongFalsely : Prop := routeWholeRow.holds Try.pinned (OpenSpec.ofChange routeWholeWrong)

/-- 'bulwarklaw17.RouteCuts': WHATEVER THE INPUT: true; the input reads as it did. -/
def routeCutsSpec : ChangeSpec := { name := "routeCuts", fn := fun _ => fun
  | [d1, d2, d3] => { results := [.lit (.bool true)], args := [d1, d2, d3] }
  | _ => none }
def routeCutsRow : OpenClaim := { program := "ytoemddjolfblbaa", sum := "b9620a176b376661ad0b4bce9b00d28a34bf621b12534d3a7efe869cb58c933b", func := "bulwark/bulwarklaw17.RouteCuts", spec := "routeCuts", inPlace := ["slices.overlaps[bulwark/route.Part]"], unfollowed := true, recurses := true, apart := false }
def RouteCutsSaid : Prop := routeCutsRow.holds Try.pinned (OpenSpec.ofChange routeCutsSpec)

/-- ITS FALSE NEIGHBOUR: 'it returns false'. Refute it at one input. -/
def routeCutsWrong : ChangeSpec := { name := "routeCuts", fn := fun _ => fun
  | [d1, d2, d3] => { results := [.lit (.bool false)], args := [d1, d2, d3] }
  | _ => none }
def RouteCutsWrongFalsely : Prop := routeCutsRow.holds Try.pinned (OpenSpec.ofChange routeCutsWrong)

/-- 'bulwarklaw17.RouteBack': WHATEVER THE INPUT: true; the input reads as it did. -/
def routeBackSpec : ChangeSpec := { name := "routeBack", fn := fun _ => fun
  | [d1, d2, d3, d4] => { results := [.lit (.bool true)], args := [d1, d2, d3, d4] }
  | _ => none }
def routeBackRow : OpenClaim := { program := "ytoemddjolfblbaa", sum := "b9620a176b376661ad0b4bce9b00d28a34bf621b12534d3a7efe869cb58c933b", func := "bulwark/bulwarklaw17.RouteBack", spec := "routeBack", inPlace := ["slices.overlaps[bulwark/route.Part]"], unfollowed := true, recurses := true, apart := false }
def RouteBackSaid : Prop := routeBackRow.holds Try.pinned (OpenSpec.ofChange routeBackSpec)

/-- ITS FALSE NEIGHBOUR: 'it returns false'. Refute it at one input. -/
def routeBackWrong : ChangeSpec := { name := "routeBack", fn := fun _ => fun
  | [d1, d2, d3, d4] => { results := [.lit (.bool false)], args := [d1, d2, d3, d4] }
  | _ => none }
def RouteBackWrongFalsely : Prop := routeBackRow.holds Try.pinned (OpenSpec.ofChange routeBackWrong)

/- THE SECOND FORM. 'bulk': how many values and letters a reading holds, each counted each time it is reached (what is shared counts as often as it is met; a slice's spare places count too). A statement '..UptoSaid' is the law's where the arguments, and the package variables that the reading takes, are together of bulk at most 1048576: NARROWER than '..Said'. Prove '..Said' where nothing that the law and all that it calls make is longer than what came in: it says more and counts as full. Else prove '..UptoSaid'. A law counts once. -/
mutual
def uptoBulk {H : Type} : DataW H → Nat
  | .lit (.string bytes) => bytes.length + 1
  | .lit _ => 1
  | .nil => 1
  | .ptr d => uptoBulk d + 1
  | .slice elems spare => uptoBulkAll elems + uptoBulkAll spare + 1
  | .agg parts => uptoBulkAll parts + 1
  | .iface _ d => uptoBulk d + 1
  | .map entries => uptoBulkEntries entries + 1
  | .held _ => 1
def uptoBulkAll {H : Type} : List (DataW H) → Nat
  | [] => 0
  | d :: r => uptoBulk d + uptoBulkAll r
def uptoBulkEntries {H : Type} : List (Lit × DataW H) → Nat
  | [] => 0
  | x :: r => uptoBulkEntry x + uptoBulkEntries r
def uptoBulkEntry {H : Type} : Lit × DataW H → Nat
  | (.string bytes, d) => bytes.length + uptoBulk d + 1
  | (_, d) => uptoBulk d + 1
 end
def uptoSmall : (H : Type) → List (DataW H) → Bool := fun _ ds => decide (uptoBulkAll ds ≤ 1048576)
def OpenSpec.upto (s : _root_.Go.ChangeSpec) : _root_.Go.OpenSpec := { _root_.Go.OpenSpec.ofChange s with cond := some uptoSmall }

/-- 'bulwarklaw17.RouteFinds', WHERE WHAT IT READS IS OF BULK AT MOST 1048576: true; the input reads as it did. -/
def routeFindsUptoRow : OpenClaim := { program := "ytoemddjolfblbaa", sum := "b9620a176b376661ad0b4bce9b00d28a34bf621b12534d3a7efe869cb58c933b", func := "bulwark/bulwarklaw17.RouteFinds", spec := "routeFinds", inPlace := ["slices.overlaps[bulwark/route.Part]"], unfollowed := true, recurses := true, apart := false, narrowed := true }
def RouteFindsUptoSaid : Prop := routeFindsUptoRow.holds Try.pinned (OpenSpec.upto routeFindsSpec)

/-- 'bulwarklaw17.RouteCovers', WHERE WHAT IT READS IS OF BULK AT MOST 1048576: true; the input reads as it did. -/
def routeCoversUptoRow : OpenClaim := { program := "ytoemddjolfblbaa", sum := "b9620a176b376661ad0b4bce9b00d28a34bf621b12534d3a7efe869cb58c933b", func := "bulwark/bulwarklaw17.RouteCovers", spec := "routeCovers", inPlace := ["slices.overlaps[bulwark/route.Part]"], unfollowed := true, recurses := true, apart := false, narrowed := true }
def RouteCoversUptoSaid : Prop := routeCoversUptoRow.holds Try.pinned (OpenSpec.upto routeCoversSpec)

/-- 'bulwarklaw17.RouteOnce', WHERE WHAT IT READS IS OF BULK AT MOST 1048576: true; the input reads as it did. -/
def routeOnceUptoRow : OpenClaim := { program := "ytoemddjolfblbaa", sum := "b9620a176b376661ad0b4bce9b00d28a34bf621b12534d3a7efe869cb58c933b", func := "bulwark/bulwarklaw17.RouteOnce", spec := "routeOnce", inPlace := ["slices.overlaps[bulwark/route.Part]"], unfollowed := true, recurses := true, apart := false, narrowed := true }
def RouteOnceUptoSaid : Prop := routeOnceUptoRow.holds Try.pinned (OpenSpec.upto routeOnceSpec)

/-- 'bulwarklaw17.RouteWhole', WHERE WHAT IT READS IS OF BULK AT MOST 1048576: true; the input reads as it did. -/
def routeWholeUptoRow : OpenClaim := { program := "ytoemddjolfblbaa", sum := "b9620a176b376661ad0b4bce9b00d28a34bf621b12534d3a7efe869cb58c933b", func := "bulwark/bulwarklaw17.RouteWhole", spec := "routeWhole", inPlace := ["slices.overlaps[bulwark/route.Part]"], unfollowed := true, recurses := true, apart := false, narrowed := true }
def RouteWholeUptoSaid : Prop := routeWholeUptoRow.holds Try.pinned (OpenSpec.upto routeWholeSpec)

/-- 'bulwarklaw17.RouteCuts', WHERE WHAT IT READS IS OF BULK AT MOST 1048576: true; the input reads as it did. -/
def routeCutsUptoRow : OpenClaim := { program := "ytoemddjolfblbaa", sum := "b9620a176b376661ad0b4bce9b00d28a34bf621b12534d3a7efe869cb58c933b", func := "bulwark/bulwarklaw17.RouteCuts", spec := "routeCuts", inPlace := ["slices.overlaps[bulwark/route.Part]"], unfollowed := true, recurses := true, apart := false, narrowed := true }
def RouteCutsUptoSaid : Prop := routeCutsUptoRow.holds Try.pinned (OpenSpec.upto routeCutsSpec)

/-- 'bulwarklaw17.RouteBack', WHERE WHAT IT READS IS OF BULK AT MOST 1048576: true; the input reads as it did. -/
def routeBackUptoRow : OpenClaim := { program := "ytoemddjolfblbaa", sum := "b9620a176b376661ad0b4bce9b00d28a34bf621b12534d3a7efe869cb58c933b", func := "bulwark/bulwarklaw17.RouteBack", spec := "routeBack", inPlace := ["slices.overlaps[bulwark/route.Part]"], unfollowed := true, recurses := true, apart := false, narrowed := true }
def RouteBackUptoSaid : Prop := routeBackUptoRow.holds Try.pinned (OpenSpec.upto routeBackSpec)

end Rows
end Go.Proofs.Ytoemddjolfblbaa
