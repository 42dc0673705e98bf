/-
  NARROWER THAN 'FOR EVERY INPUT', by the rows' own cells (each row's printed sentence says how): SplitCuts: laid · SplitMerges: laid · SplitHalf: laid · SplitBack: laid · SplitSame: loops, laid · TabletBatch: loops, laid · TabletAsks: loops, laid · TabletNils: loops, laid · TabletFull: loops, laid · TabletKeeps: loops, laid · TabletPlays: loops, laid · TabletOf: laid.
  DERIVED. THE GIVEN ROWS OF THIS SEAT. 12 by the template 'for every input the law returns true; each argument reads behind the call as it read before'; 0 by the template 'total and deterministic' (their statements: YtpckachmleonlaaGreatDoorTotals.lean).
  GIVEN WITH THE SEED: the statements are not yours to turn. If you find one false, say at which input.
  Laid BY PROGRAM, IN A SANDBOX (cutbox-rows.mjs): the forced cells as the released guide's own fill.sh prints them over the translation 2746f322722c77e7… (all of the seat's roots in one cut). By AI agents, Wed Nov 11 2026. No macro, syntax, notation, axiom, sorry.
-/
import Derived.Test.YtpckachmleonlaaGreatDoorChecked
import GoSem.PinnedTables
import GoSem.Claim
import GoSem.ClaimJoined
import GoSem.ClaimMapViews
import Derived.JoinedTies
import Derived.KernelRfl
namespace Go.Proofs.YtpckachmleonlaaGreatDoor
/- THE CELL 'sum', in the pinned program and in every row, IS THE sha256 OF THE DUMP (.gsa) THAT YtpckachmleonlaaGreatDoorProg.lean LOADS. Nothing in Lean hashes anything: it is a label: what it is worth is what the hold of that sum in a sandbox is worth. -/
noncomputable def Tryz.pinned : Pinned := { name := "ytpckachmleonlaagreatdoor", sum := "2746f322722c77e7f7dff165e1d614f58fbf16c689f7d0501124da67af8f2b1e", checked := Tryz.checked }
namespace Rows
def none {H : Type} : Left H := { results := [], args := [] }

/- WHAT THE LISTED PACKAGE-LEVEL VARIABLES READ AS WHEN THE CALL BEGINS. Each datum BY PROGRAM (the guide's laid-datum.mjs) off the statement by which the dump's own 'gosem.cut.vars' lays the variable. In a bare row this is a premise. The card (YtpckachmleonlaaGreatDoorCards.lean) ties it to the program's text. -/
def laid_unicode_utf8_acceptRanges {H : Type} : DataW H := .agg [.agg [.lit (.int .u8 128), .lit (.int .u8 191)], .agg [.lit (.int .u8 160), .lit (.int .u8 191)], .agg [.lit (.int .u8 128), .lit (.int .u8 159)], .agg [.lit (.int .u8 144), .lit (.int .u8 191)], .agg [.lit (.int .u8 128), .lit (.int .u8 143)], .agg [.lit (.int .u8 0), .lit (.int .u8 0)], .agg [.lit (.int .u8 0), .lit (.int .u8 0)], .agg [.lit (.int .u8 0), .lit (.int .u8 0)], .agg [.lit (.int .u8 0), .lit (.int .u8 0)], .agg [.lit (.int .u8 0), .lit (.int .u8 0)], .agg [.lit (.int .u8 0), .lit (.int .u8 0)], .agg [.lit (.int .u8 0), .lit (.int .u8 0)], .agg [.lit (.int .u8 0), .lit (.int .u8 0)], .agg [.lit (.int .u8 0), .lit (.int .u8 0)], .agg [.lit (.int .u8 0), .lit (.int .u8 0)], .agg [.lit (.int .u8 0), .lit (.int .u8 0)]]
/-- One of Go's own tables, pinned by name: the form's constant. -/
def laid_unicode_utf8_first : DataW Unit := Go.Pinned.utf8First

/-- 'bulwarklaw11.SplitCuts': WHATEVER THE INPUT: true; the input reads as it did. -/
def splitCutsSpec : ChangeSpec := { name := "splitCuts", fn := fun _ => fun
  | [d1, d2, d3, d4] => { results := [.lit (.bool true)], args := [d1, d2, d3, d4] }
  | _ => none }
def splitCutsRow : OpenClaim := { program := "ytpckachmleonlaagreatdoor", sum := "2746f322722c77e7f7dff165e1d614f58fbf16c689f7d0501124da67af8f2b1e", func := "bulwark/bulwarklaw11.SplitCuts", spec := "splitCuts", inPlace := ["internal/bytealg.Count", "internal/bytealg.IndexByte", "internal/bytealg.Index", "internal/bytealg.Compare", "slices.overlaps[[]byte]", "internal/bytealg.MakeNoZero"], unfollowed := true, recurses := true, named := ["internal/bytealg.MaxLen", "unicode/utf8.first", "unicode/utf8.acceptRanges"], plainKeys := false, apart := false, laid := [("unicode/utf8.acceptRanges", laid_unicode_utf8_acceptRanges), ("unicode/utf8.first", laid_unicode_utf8_first)] }
def SplitCutsSaid : Prop := splitCutsRow.holds Tryz.pinned (OpenSpec.ofChange splitCutsSpec)

/-- ITS FALSE NEIGHBOUR: 'it returns false'. Refute it at one input. -/
def splitCutsWrong : ChangeSpec := { name := "splitCuts", fn := fun _ => fun
  | [d1, d2, d3, d4] => { results := [.lit (.bool false)], args := [d1, d2, d3, d4] }
  | _ => none }
def SplitCutsWrongFalsely : Prop := splitCutsRow.holds Tryz.pinned (OpenSpec.ofChange splitCutsWrong)

/-- 'bulwarklaw11.SplitMerges': WHATEVER THE INPUT: true; the input reads as it did. -/
def splitMergesSpec : ChangeSpec := { name := "splitMerges", fn := fun _ => fun
  | [d1, d2, d3, d4, d5, d6] => { results := [.lit (.bool true)], args := [d1, d2, d3, d4, d5, d6] }
  | _ => none }
def splitMergesRow : OpenClaim := { program := "ytpckachmleonlaagreatdoor", sum := "2746f322722c77e7f7dff165e1d614f58fbf16c689f7d0501124da67af8f2b1e", func := "bulwark/bulwarklaw11.SplitMerges", spec := "splitMerges", inPlace := ["internal/bytealg.Count", "internal/bytealg.IndexByte", "internal/bytealg.Index", "internal/bytealg.Compare", "slices.overlaps[[]byte]", "internal/bytealg.MakeNoZero"], unfollowed := true, recurses := true, named := ["internal/bytealg.MaxLen", "unicode/utf8.first", "unicode/utf8.acceptRanges"], plainKeys := false, apart := false, laid := [("unicode/utf8.acceptRanges", laid_unicode_utf8_acceptRanges), ("unicode/utf8.first", laid_unicode_utf8_first)] }
def SplitMergesSaid : Prop := splitMergesRow.holds Tryz.pinned (OpenSpec.ofChange splitMergesSpec)

/-- ITS FALSE NEIGHBOUR: 'it returns false'. Refute it at one input. -/
def splitMergesWrong : ChangeSpec := { name := "splitMerges", fn := fun _ => fun
  | [d1, d2, d3, d4, d5, d6] => { results := [.lit (.bool false)], args := [d1, d2, d3, d4, d5, d6] }
  | _ => none }
def SplitMergesWrongFalsely : Prop := splitMergesRow.holds Tryz.pinned (OpenSpec.ofChange splitMergesWrong)

/-- 'bulwarklaw11.SplitHalf': WHATEVER THE INPUT: true; the input reads as it did. -/
def splitHalfSpec : ChangeSpec := { name := "splitHalf", fn := fun _ => fun
  | [d] => { results := [.lit (.bool true)], args := [d] }
  | _ => none }
def splitHalfRow : OpenClaim := { program := "ytpckachmleonlaagreatdoor", sum := "2746f322722c77e7f7dff165e1d614f58fbf16c689f7d0501124da67af8f2b1e", func := "bulwark/bulwarklaw11.SplitHalf", spec := "splitHalf", inPlace := ["internal/bytealg.Count", "internal/bytealg.IndexByte", "internal/bytealg.Index", "internal/bytealg.Compare", "slices.overlaps[[]byte]", "internal/bytealg.MakeNoZero"], unfollowed := true, recurses := true, named := ["internal/bytealg.MaxLen", "unicode/utf8.first", "unicode/utf8.acceptRanges"], plainKeys := false, apart := false, laid := [("unicode/utf8.acceptRanges", laid_unicode_utf8_acceptRanges), ("unicode/utf8.first", laid_unicode_utf8_first)] }
def SplitHalfSaid : Prop := splitHalfRow.holds Tryz.pinned (OpenSpec.ofChange splitHalfSpec)

/-- ITS FALSE NEIGHBOUR: 'it returns false'. Refute it at one input. -/
def splitHalfWrong : ChangeSpec := { name := "splitHalf", fn := fun _ => fun
  | [d] => { results := [.lit (.bool false)], args := [d] }
  | _ => none }
def SplitHalfWrongFalsely : Prop := splitHalfRow.holds Tryz.pinned (OpenSpec.ofChange splitHalfWrong)

/-- 'bulwarklaw11.SplitBack': WHATEVER THE INPUT: true; the input reads as it did. -/
def splitBackSpec : ChangeSpec := { name := "splitBack", fn := fun _ => fun
  | [d1, d2, d3, d4] => { results := [.lit (.bool true)], args := [d1, d2, d3, d4] }
  | _ => none }
def splitBackRow : OpenClaim := { program := "ytpckachmleonlaagreatdoor", sum := "2746f322722c77e7f7dff165e1d614f58fbf16c689f7d0501124da67af8f2b1e", func := "bulwark/bulwarklaw11.SplitBack", spec := "splitBack", inPlace := ["internal/bytealg.Count", "internal/bytealg.IndexByte", "internal/bytealg.Index", "internal/bytealg.Compare", "slices.overlaps[[]byte]", "internal/bytealg.MakeNoZero"], unfollowed := true, recurses := true, named := ["internal/bytealg.MaxLen", "unicode/utf8.first", "unicode/utf8.acceptRanges"], plainKeys := false, apart := false, laid := [("unicode/utf8.acceptRanges", laid_unicode_utf8_acceptRanges), ("unicode/utf8.first", laid_unicode_utf8_first)] }
def SplitBackSaid : Prop := splitBackRow.holds Tryz.pinned (OpenSpec.ofChange splitBackSpec)

/-- ITS FALSE NEIGHBOUR: 'it returns false'. Refute it at one input. -/
def splitBackWrong : ChangeSpec := { name := "splitBack", fn := fun _ => fun
  | [d1, d2, d3, d4] => { results := [.lit (.bool false)], args := [d1, d2, d3, d4] }
  | _ => none }
def SplitBackWrongFalsely : Prop := splitBackRow.holds Tryz.pinned (OpenSpec.ofChange splitBackWrong)

/-- 'bulwarklaw11.SplitSame': WHATEVER THE INPUT: true; the input reads as it did. -/
def splitSameSpec : ChangeSpec := { name := "splitSame", fn := fun _ => fun
  | [d1, d2, d3, d4, d5] => { results := [.lit (.bool true)], args := [d1, d2, d3, d4, d5] }
  | _ => none }
def splitSameRow : OpenClaim := { program := "ytpckachmleonlaagreatdoor", sum := "2746f322722c77e7f7dff165e1d614f58fbf16c689f7d0501124da67af8f2b1e", func := "bulwark/bulwarklaw11.SplitSame", spec := "splitSame", inPlace := ["internal/bytealg.Count", "internal/bytealg.IndexByte", "internal/bytealg.Index", "internal/bytealg.Compare", "slices.overlaps[[]byte]", "internal/bytealg.MakeNoZero"], unfollowed := true, recurses := true, named := ["internal/bytealg.MaxLen", "unicode/utf8.first", "unicode/utf8.acceptRanges"], loops := true, plainKeys := false, apart := false, laid := [("unicode/utf8.acceptRanges", laid_unicode_utf8_acceptRanges), ("unicode/utf8.first", laid_unicode_utf8_first)] }
def SplitSameSaid : Prop := splitSameRow.holds Tryz.pinned (OpenSpec.ofChange splitSameSpec)

/-- ITS FALSE NEIGHBOUR: 'it returns false'. Refute it at one input. -/
def splitSameWrong : ChangeSpec := { name := "splitSame", fn := fun _ => fun
  | [d1, d2, d3, d4, d5] => { results := [.lit (.bool false)], args := [d1, d2, d3, d4, d5] }
  | _ => none }
def SplitSameWrongFalsely : Prop := splitSameRow.holds Tryz.pinned (OpenSpec.ofChange splitSameWrong)

/-- 'bulwarklaw10.TabletBatch': WHATEVER THE INPUT: true; the input reads as it did. -/
def tabletBatchSpec : ChangeSpec := { name := "tabletBatch", fn := fun _ => fun
  | [d1, d2, d3] => { results := [.lit (.bool true)], args := [d1, d2, d3] }
  | _ => none }
def tabletBatchRow : OpenClaim := { program := "ytpckachmleonlaagreatdoor", sum := "2746f322722c77e7f7dff165e1d614f58fbf16c689f7d0501124da67af8f2b1e", func := "bulwark/bulwarklaw10.TabletBatch", spec := "tabletBatch", inPlace := ["internal/bytealg.Count", "internal/bytealg.IndexByte", "internal/bytealg.Index", "internal/bytealg.MakeNoZero", "internal/bytealg.Compare", "slices.overlaps[[]byte]"], unfollowed := true, recurses := true, named := ["internal/bytealg.MaxLen", "unicode/utf8.first", "unicode/utf8.acceptRanges"], loops := true, plainKeys := false, apart := false, laid := [("unicode/utf8.acceptRanges", laid_unicode_utf8_acceptRanges), ("unicode/utf8.first", laid_unicode_utf8_first)] }
def TabletBatchSaid : Prop := tabletBatchRow.holds Tryz.pinned (OpenSpec.ofChange tabletBatchSpec)

/-- ITS FALSE NEIGHBOUR: 'it returns false'. Refute it at one input. -/
def tabletBatchWrong : ChangeSpec := { name := "tabletBatch", fn := fun _ => fun
  | [d1, d2, d3] => { results := [.lit (.bool false)], args := [d1, d2, d3] }
  | _ => none }
def TabletBatchWrongFalsely : Prop := tabletBatchRow.holds Tryz.pinned (OpenSpec.ofChange tabletBatchWrong)

/-- 'bulwarklaw10.TabletAsks': WHATEVER THE INPUT: true; the input reads as it did. -/
def tabletAsksSpec : ChangeSpec := { name := "tabletAsks", fn := fun _ => fun
  | [d1, d2] => { results := [.lit (.bool true)], args := [d1, d2] }
  | _ => none }
def tabletAsksRow : OpenClaim := { program := "ytpckachmleonlaagreatdoor", sum := "2746f322722c77e7f7dff165e1d614f58fbf16c689f7d0501124da67af8f2b1e", func := "bulwark/bulwarklaw10.TabletAsks", spec := "tabletAsks", inPlace := ["internal/bytealg.Count", "internal/bytealg.IndexByte", "internal/bytealg.Index", "internal/bytealg.MakeNoZero", "internal/bytealg.Compare", "slices.overlaps[[]byte]"], unfollowed := true, recurses := true, named := ["internal/bytealg.MaxLen", "unicode/utf8.first", "unicode/utf8.acceptRanges"], loops := true, plainKeys := false, apart := false, laid := [("unicode/utf8.acceptRanges", laid_unicode_utf8_acceptRanges), ("unicode/utf8.first", laid_unicode_utf8_first)] }
def TabletAsksSaid : Prop := tabletAsksRow.holds Tryz.pinned (OpenSpec.ofChange tabletAsksSpec)

/-- ITS FALSE NEIGHBOUR: 'it returns false'. Refute it at one input. -/
def tabletAsksWrong : ChangeSpec := { name := "tabletAsks", fn := fun _ => fun
  | [d1, d2] => { results := [.lit (.bool false)], args := [d1, d2] }
  | _ => none }
def TabletAsksWrongFalsely : Prop := tabletAsksRow.holds Tryz.pinned (OpenSpec.ofChange tabletAsksWrong)

/-- 'bulwarklaw10.TabletNils': WHATEVER THE INPUT: true; the input reads as it did. -/
def tabletNilsSpec : ChangeSpec := { name := "tabletNils", fn := fun _ => fun
  | [d] => { results := [.lit (.bool true)], args := [d] }
  | _ => none }
def tabletNilsRow : OpenClaim := { program := "ytpckachmleonlaagreatdoor", sum := "2746f322722c77e7f7dff165e1d614f58fbf16c689f7d0501124da67af8f2b1e", func := "bulwark/bulwarklaw10.TabletNils", spec := "tabletNils", inPlace := ["internal/bytealg.Count", "internal/bytealg.IndexByte", "internal/bytealg.Index", "internal/bytealg.MakeNoZero", "internal/bytealg.Compare", "slices.overlaps[[]byte]"], unfollowed := true, recurses := true, named := ["internal/bytealg.MaxLen", "unicode/utf8.first", "unicode/utf8.acceptRanges"], loops := true, plainKeys := false, apart := false, laid := [("unicode/utf8.acceptRanges", laid_unicode_utf8_acceptRanges), ("unicode/utf8.first", laid_unicode_utf8_first)] }
def TabletNilsSaid : Prop := tabletNilsRow.holds Tryz.pinned (OpenSpec.ofChange tabletNilsSpec)

/-- ITS FALSE NEIGHBOUR: 'it returns false'. Refute it at one input. -/
def tabletNilsWrong : ChangeSpec := { name := "tabletNils", fn := fun _ => fun
  | [d] => { results := [.lit (.bool false)], args := [d] }
  | _ => none }
def TabletNilsWrongFalsely : Prop := tabletNilsRow.holds Tryz.pinned (OpenSpec.ofChange tabletNilsWrong)

/-- 'bulwarklaw10.TabletFull': WHATEVER THE INPUT: true; the input reads as it did. -/
def tabletFullSpec : ChangeSpec := { name := "tabletFull", fn := fun _ => fun
  | [d1, d2, d3] => { results := [.lit (.bool true)], args := [d1, d2, d3] }
  | _ => none }
def tabletFullRow : OpenClaim := { program := "ytpckachmleonlaagreatdoor", sum := "2746f322722c77e7f7dff165e1d614f58fbf16c689f7d0501124da67af8f2b1e", func := "bulwark/bulwarklaw10.TabletFull", spec := "tabletFull", inPlace := ["internal/bytealg.Count", "internal/bytealg.IndexByte", "internal/bytealg.Index", "internal/bytealg.MakeNoZero", "internal/bytealg.Compare", "slices.overlaps[[]byte]"], unfollowed := true, recurses := true, named := ["internal/bytealg.MaxLen", "unicode/utf8.first", "unicode/utf8.acceptRanges"], loops := true, plainKeys := false, apart := false, laid := [("unicode/utf8.acceptRanges", laid_unicode_utf8_acceptRanges), ("unicode/utf8.first", laid_unicode_utf8_first)] }
def TabletFullSaid : Prop := tabletFullRow.holds Tryz.pinned (OpenSpec.ofChange tabletFullSpec)

/-- ITS FALSE NEIGHBOUR: 'it returns false'. Refute it at one input. -/
def tabletFullWrong : ChangeSpec := { name := "tabletFull", fn := fun _ => fun
  | [d1, d2, d3] => { results := [.lit (.bool false)], args := [d1, d2, d3] }
  | _ => none }
def TabletFullWrongFalsely : Prop := tabletFullRow.holds Tryz.pinned (OpenSpec.ofChange tabletFullWrong)

/-- 'bulwarklaw10.TabletKeeps': WHATEVER THE INPUT: true; the input reads as it did. -/
def tabletKeepsSpec : ChangeSpec := { name := "tabletKeeps", fn := fun _ => fun
  | [d1, d2, d3] => { results := [.lit (.bool true)], args := [d1, d2, d3] }
  | _ => none }
def tabletKeepsRow : OpenClaim := { program := "ytpckachmleonlaagreatdoor", sum := "2746f322722c77e7f7dff165e1d614f58fbf16c689f7d0501124da67af8f2b1e", func := "bulwark/bulwarklaw10.TabletKeeps", spec := "tabletKeeps", inPlace := ["internal/bytealg.Count", "internal/bytealg.IndexByte", "internal/bytealg.Index", "internal/bytealg.MakeNoZero", "internal/bytealg.Compare", "slices.overlaps[[]byte]"], unfollowed := true, recurses := true, named := ["internal/bytealg.MaxLen", "unicode/utf8.first", "unicode/utf8.acceptRanges"], loops := true, plainKeys := false, apart := false, laid := [("unicode/utf8.acceptRanges", laid_unicode_utf8_acceptRanges), ("unicode/utf8.first", laid_unicode_utf8_first)] }
def TabletKeepsSaid : Prop := tabletKeepsRow.holds Tryz.pinned (OpenSpec.ofChange tabletKeepsSpec)

/-- ITS FALSE NEIGHBOUR: 'it returns false'. Refute it at one input. -/
def tabletKeepsWrong : ChangeSpec := { name := "tabletKeeps", fn := fun _ => fun
  | [d1, d2, d3] => { results := [.lit (.bool false)], args := [d1, d2, d3] }
  | _ => none }
def TabletKeepsWrongFalsely : Prop := tabletKeepsRow.holds Tryz.pinned (OpenSpec.ofChange tabletKeepsWrong)

/-- 'bulwarklaw10.TabletPlays': WHATEVER THE INPUT: true; the input reads as it did. -/
def tabletPlaysSpec : ChangeSpec := { name := "tabletPlays", fn := fun _ => fun
  | [d1, d2, d3] => { results := [.lit (.bool true)], args := [d1, d2, d3] }
  | _ => none }
def tabletPlaysRow : OpenClaim := { program := "ytpckachmleonlaagreatdoor", sum := "2746f322722c77e7f7dff165e1d614f58fbf16c689f7d0501124da67af8f2b1e", func := "bulwark/bulwarklaw10.TabletPlays", spec := "tabletPlays", inPlace := ["internal/bytealg.Count", "internal/bytealg.IndexByte", "internal/bytealg.Index", "internal/bytealg.MakeNoZero", "internal/bytealg.Compare", "slices.overlaps[[]byte]"], unfollowed := true, recurses := true, named := ["internal/bytealg.MaxLen", "unicode/utf8.first", "unicode/utf8.acceptRanges"], loops := true, plainKeys := false, apart := false, laid := [("unicode/utf8.acceptRanges", laid_unicode_utf8_acceptRanges), ("unicode/utf8.first", laid_unicode_utf8_first)] }
def TabletPlaysSaid : Prop := tabletPlaysRow.holds Tryz.pinned (OpenSpec.ofChange tabletPlaysSpec)

/-- ITS FALSE NEIGHBOUR: 'it returns false'. Refute it at one input. -/
def tabletPlaysWrong : ChangeSpec := { name := "tabletPlays", fn := fun _ => fun
  | [d1, d2, d3] => { results := [.lit (.bool false)], args := [d1, d2, d3] }
  | _ => none }
def TabletPlaysWrongFalsely : Prop := tabletPlaysRow.holds Tryz.pinned (OpenSpec.ofChange tabletPlaysWrong)

/-- 'bulwarklaw10.TabletOf': WHATEVER THE INPUT: true; the input reads as it did. -/
def tabletOfSpec : ChangeSpec := { name := "tabletOf", fn := fun _ => fun
  | [d1, d2, d3] => { results := [.lit (.bool true)], args := [d1, d2, d3] }
  | _ => none }
def tabletOfRow : OpenClaim := { program := "ytpckachmleonlaagreatdoor", sum := "2746f322722c77e7f7dff165e1d614f58fbf16c689f7d0501124da67af8f2b1e", func := "bulwark/bulwarklaw10.TabletOf", spec := "tabletOf", inPlace := ["internal/bytealg.Count", "internal/bytealg.IndexByte", "internal/bytealg.Index", "internal/bytealg.MakeNoZero", "internal/bytealg.Compare", "slices.overlaps[[]byte]"], unfollowed := true, recurses := true, named := ["internal/bytealg.MaxLen", "unicode/utf8.first", "unicode/utf8.acceptRanges"], plainKeys := false, apart := false, laid := [("unicode/utf8.acceptRanges", laid_unicode_utf8_acceptRanges), ("unicode/utf8.first", laid_unicode_utf8_first)] }
def TabletOfSaid : Prop := tabletOfRow.holds Tryz.pinned (OpenSpec.ofChange tabletOfSpec)

/-- ITS FALSE NEIGHBOUR: 'it returns false'. Refute it at one input. -/
def tabletOfWrong : ChangeSpec := { name := "tabletOf", fn := fun _ => fun
  | [d1, d2, d3] => { results := [.lit (.bool false)], args := [d1, d2, d3] }
  | _ => none }
def TabletOfWrongFalsely : Prop := tabletOfRow.holds Tryz.pinned (OpenSpec.ofChange tabletOfWrong)

/- THE SECOND FORM. 'bulk': how many values and letters a reading holds, each counted each time it is reached (what is shared counts as often as it is met; a slice's spare places count too). A statement '..UptoSaid' is the law's where the arguments, and the package variables that the reading takes, are together of bulk at most 1048576: NARROWER than '..Said'. Prove '..Said' where nothing that the law and all that it calls make is longer than what came in: it says more and counts as full. Else prove '..UptoSaid'. A law counts once. -/
mutual
def uptoBulk {H : Type} : DataW H → Nat
  | .lit (.string bytes) => bytes.length + 1
  | .lit _ => 1
  | .nil => 1
  | .ptr d => uptoBulk d + 1
  | .slice elems spare => uptoBulkAll elems + uptoBulkAll spare + 1
  | .agg parts => uptoBulkAll parts + 1
  | .iface _ d => uptoBulk d + 1
  | .map entries => uptoBulkEntries entries + 1
  | .held _ => 1
def uptoBulkAll {H : Type} : List (DataW H) → Nat
  | [] => 0
  | d :: r => uptoBulk d + uptoBulkAll r
def uptoBulkEntries {H : Type} : List (Lit × DataW H) → Nat
  | [] => 0
  | x :: r => uptoBulkEntry x + uptoBulkEntries r
def uptoBulkEntry {H : Type} : Lit × DataW H → Nat
  | (.string bytes, d) => bytes.length + uptoBulk d + 1
  | (_, d) => uptoBulk d + 1
 end
def uptoSmall : (H : Type) → List (DataW H) → Bool := fun _ ds => decide (uptoBulkAll ds ≤ 1048576)
def OpenSpec.upto (s : _root_.Go.ChangeSpec) : _root_.Go.OpenSpec := { _root_.Go.OpenSpec.ofChange s with cond := some uptoSmall }

/-- 'bulwarklaw11.SplitCuts', WHERE WHAT IT READS IS OF BULK AT MOST 1048576: true; the input reads as it did. -/
def splitCutsUptoRow : OpenClaim := { program := "ytpckachmleonlaagreatdoor", sum := "2746f322722c77e7f7dff165e1d614f58fbf16c689f7d0501124da67af8f2b1e", func := "bulwark/bulwarklaw11.SplitCuts", spec := "splitCuts", inPlace := ["internal/bytealg.Count", "internal/bytealg.IndexByte", "internal/bytealg.Index", "internal/bytealg.Compare", "slices.overlaps[[]byte]", "internal/bytealg.MakeNoZero"], unfollowed := true, recurses := true, named := ["internal/bytealg.MaxLen", "unicode/utf8.first", "unicode/utf8.acceptRanges"], plainKeys := false, apart := false, laid := [("unicode/utf8.acceptRanges", laid_unicode_utf8_acceptRanges), ("unicode/utf8.first", laid_unicode_utf8_first)], narrowed := true }
def SplitCutsUptoSaid : Prop := splitCutsUptoRow.holds Tryz.pinned (OpenSpec.upto splitCutsSpec)

/-- 'bulwarklaw11.SplitMerges', WHERE WHAT IT READS IS OF BULK AT MOST 1048576: true; the input reads as it did. -/
def splitMergesUptoRow : OpenClaim := { program := "ytpckachmleonlaagreatdoor", sum := "2746f322722c77e7f7dff165e1d614f58fbf16c689f7d0501124da67af8f2b1e", func := "bulwark/bulwarklaw11.SplitMerges", spec := "splitMerges", inPlace := ["internal/bytealg.Count", "internal/bytealg.IndexByte", "internal/bytealg.Index", "internal/bytealg.Compare", "slices.overlaps[[]byte]", "internal/bytealg.MakeNoZero"], unfollowed := true, recurses := true, named := ["internal/bytealg.MaxLen", "unicode/utf8.first", "unicode/utf8.acceptRanges"], plainKeys := false, apart := false, laid := [("unicode/utf8.acceptRanges", laid_unicode_utf8_acceptRanges), ("unicode/utf8.first", laid_unicode_utf8_first)], narrowed := true }
def SplitMergesUptoSaid : Prop := splitMergesUptoRow.holds Tryz.pinned (OpenSpec.upto splitMergesSpec)

/-- 'bulwarklaw11.SplitHalf', WHERE WHAT IT READS IS OF BULK AT MOST 1048576: true; the input reads as it did. -/
def splitHalfUptoRow : OpenClaim := { program := "ytpckachmleonlaagreatdoor", sum := "2746f322722c77e7f7dff165e1d614f58fbf16c689f7d0501124da67af8f2b1e", func := "bulwark/bulwarklaw11.SplitHalf", spec := "splitHalf", inPlace := ["internal/bytealg.Count", "internal/bytealg.IndexByte", "internal/bytealg.Index", "internal/bytealg.Compare", "slices.overlaps[[]byte]", "internal/bytealg.MakeNoZero"], unfollowed := true, recurses := true, named := ["internal/bytealg.MaxLen", "unicode/utf8.first", "unicode/utf8.acceptRanges"], plainKeys := false, apart := false, laid := [("unicode/utf8.acceptRanges", laid_unicode_utf8_acceptRanges), ("unicode/utf8.first", laid_unicode_utf8_first)], narrowed := true }
def SplitHalfUptoSaid : Prop := splitHalfUptoRow.holds Tryz.pinned (OpenSpec.upto splitHalfSpec)

/-- 'bulwarklaw11.SplitBack', WHERE WHAT IT READS IS OF BULK AT MOST 1048576: true; the input reads as it did. -/
def splitBackUptoRow : OpenClaim := { program := "ytpckachmleonlaagreatdoor", sum := "2746f322722c77e7f7dff165e1d614f58fbf16c689f7d0501124da67af8f2b1e", func := "bulwark/bulwarklaw11.SplitBack", spec := "splitBack", inPlace := ["internal/bytealg.Count", "internal/bytealg.IndexByte", "internal/bytealg.Index", "internal/bytealg.Compare", "slices.overlaps[[]byte]", "internal/bytealg.MakeNoZero"], unfollowed := true, recurses := true, named := ["internal/bytealg.MaxLen", "unicode/utf8.first", "unicode/utf8.acceptRanges"], plainKeys := false, apart := false, laid := [("unicode/utf8.acceptRanges", laid_unicode_utf8_acceptRanges), ("unicode/utf8.first", laid_unicode_utf8_first)], narrowed := true }
def SplitBackUptoSaid : Prop := splitBackUptoRow.holds Tryz.pinned (OpenSpec.upto splitBackSpec)

/-- 'bulwarklaw11.SplitSame', WHERE WHAT IT READS IS OF BULK AT MOST 1048576: true; the input reads as it did. -/
def splitSameUptoRow : OpenClaim := { program := "ytpckachmleonlaagreatdoor", sum := "2746f322722c77e7f7dff165e1d614f58fbf16c689f7d0501124da67af8f2b1e", func := "bulwark/bulwarklaw11.SplitSame", spec := "splitSame", inPlace := ["internal/bytealg.Count", "internal/bytealg.IndexByte", "internal/bytealg.Index", "internal/bytealg.Compare", "slices.overlaps[[]byte]", "internal/bytealg.MakeNoZero"], unfollowed := true, recurses := true, named := ["internal/bytealg.MaxLen", "unicode/utf8.first", "unicode/utf8.acceptRanges"], loops := true, plainKeys := false, apart := false, laid := [("unicode/utf8.acceptRanges", laid_unicode_utf8_acceptRanges), ("unicode/utf8.first", laid_unicode_utf8_first)], narrowed := true }
def SplitSameUptoSaid : Prop := splitSameUptoRow.holds Tryz.pinned (OpenSpec.upto splitSameSpec)

/-- 'bulwarklaw10.TabletBatch', WHERE WHAT IT READS IS OF BULK AT MOST 1048576: true; the input reads as it did. -/
def tabletBatchUptoRow : OpenClaim := { program := "ytpckachmleonlaagreatdoor", sum := "2746f322722c77e7f7dff165e1d614f58fbf16c689f7d0501124da67af8f2b1e", func := "bulwark/bulwarklaw10.TabletBatch", spec := "tabletBatch", inPlace := ["internal/bytealg.Count", "internal/bytealg.IndexByte", "internal/bytealg.Index", "internal/bytealg.MakeNoZero", "internal/bytealg.Compare", "slices.overlaps[[]byte]"], unfollowed := true, recurses := true, named := ["internal/bytealg.MaxLen", "unicode/utf8.first", "unicode/utf8.acceptRanges"], loops := true, plainKeys := false, apart := false, laid := [("unicode/utf8.acceptRanges", laid_unicode_utf8_acceptRanges), ("unicode/utf8.first", laid_unicode_utf8_first)], narrowed := true }
def TabletBatchUptoSaid : Prop := tabletBatchUptoRow.holds Tryz.pinned (OpenSpec.upto tabletBatchSpec)

/-- 'bulwarklaw10.TabletAsks', WHERE WHAT IT READS IS OF BULK AT MOST 1048576: true; the input reads as it did. -/
def tabletAsksUptoRow : OpenClaim := { program := "ytpckachmleonlaagreatdoor", sum := "2746f322722c77e7f7dff165e1d614f58fbf16c689f7d0501124da67af8f2b1e", func := "bulwark/bulwarklaw10.TabletAsks", spec := "tabletAsks", inPlace := ["internal/bytealg.Count", "internal/bytealg.IndexByte", "internal/bytealg.Index", "internal/bytealg.MakeNoZero", "internal/bytealg.Compare", "slices.overlaps[[]byte]"], unfollowed := true, recurses := true, named := ["internal/bytealg.MaxLen", "unicode/utf8.first", "unicode/utf8.acceptRanges"], loops := true, plainKeys := false, apart := false, laid := [("unicode/utf8.acceptRanges", laid_unicode_utf8_acceptRanges), ("unicode/utf8.first", laid_unicode_utf8_first)], narrowed := true }
def TabletAsksUptoSaid : Prop := tabletAsksUptoRow.holds Tryz.pinned (OpenSpec.upto tabletAsksSpec)

/-- 'bulwarklaw10.TabletNils', WHERE WHAT IT READS IS OF BULK AT MOST 1048576: true; the input reads as it did. -/
def tabletNilsUptoRow : OpenClaim := { program := "ytpckachmleonlaagreatdoor", sum := "2746f322722c77e7f7dff165e1d614f58fbf16c689f7d0501124da67af8f2b1e", func := "bulwark/bulwarklaw10.TabletNils", spec := "tabletNils", inPlace := ["internal/bytealg.Count", "internal/bytealg.IndexByte", "internal/bytealg.Index", "internal/bytealg.MakeNoZero", "internal/bytealg.Compare", "slices.overlaps[[]byte]"], unfollowed := true, recurses := true, named := ["internal/bytealg.MaxLen", "unicode/utf8.first", "unicode/utf8.acceptRanges"], loops := true, plainKeys := false, apart := false, laid := [("unicode/utf8.acceptRanges", laid_unicode_utf8_acceptRanges), ("unicode/utf8.first", laid_unicode_utf8_first)], narrowed := true }
def TabletNilsUptoSaid : Prop := tabletNilsUptoRow.holds Tryz.pinned (OpenSpec.upto tabletNilsSpec)

/-- 'bulwarklaw10.TabletFull', WHERE WHAT IT READS IS OF BULK AT MOST 1048576: true; the input reads as it did. -/
def tabletFullUptoRow : OpenClaim := { program := "ytpckachmleonlaagreatdoor", sum := "2746f322722c77e7f7dff165e1d614f58fbf16c689f7d0501124da67af8f2b1e", func := "bulwark/bulwarklaw10.TabletFull", spec := "tabletFull", inPlace := ["internal/bytealg.Count", "internal/bytealg.IndexByte", "internal/bytealg.Index", "internal/bytealg.MakeNoZero", "internal/bytealg.Compare", "slices.overlaps[[]byte]"], unfollowed := true, recurses := true, named := ["internal/bytealg.MaxLen", "unicode/utf8.first", "unicode/utf8.acceptRanges"], loops := true, plainKeys := false, apart := false, laid := [("unicode/utf8.acceptRanges", laid_unicode_utf8_acceptRanges), ("unicode/utf8.first", laid_unicode_utf8_first)], narrowed := true }
def TabletFullUptoSaid : Prop := tabletFullUptoRow.holds Tryz.pinned (OpenSpec.upto tabletFullSpec)

/-- 'bulwarklaw10.TabletKeeps', WHERE WHAT IT READS IS OF BULK AT MOST 1048576: true; the input reads as it did. -/
def tabletKeepsUptoRow : OpenClaim := { program := "ytpckachmleonlaagreatdoor", sum := "2746f322722c77e7f7dff165e1d614f58fbf16c689f7d0501124da67af8f2b1e", func := "bulwark/bulwarklaw10.TabletKeeps", spec := "tabletKeeps", inPlace := ["internal/bytealg.Count", "internal/bytealg.IndexByte", "internal/bytealg.Index", "internal/bytealg.MakeNoZero", "internal/bytealg.Compare", "slices.overlaps[[]byte]"], unfollowed := true, recurses := true, named := ["internal/bytealg.MaxLen", "unicode/utf8.first", "unicode/utf8.acceptRanges"], loops := true, plainKeys := false, apart := false, laid := [("unicode/utf8.acceptRanges", laid_unicode_utf8_acceptRanges), ("unicode/utf8.first", laid_unicode_utf8_first)], narrowed := true }
def TabletKeepsUptoSaid : Prop := tabletKeepsUptoRow.holds Tryz.pinned (OpenSpec.upto tabletKeepsSpec)

/-- 'bulwarklaw10.TabletPlays', WHERE WHAT IT READS IS OF BULK AT MOST 1048576: true; the input reads as it did. -/
def tabletPlaysUptoRow : OpenClaim := { program := "ytpckachmleonlaagreatdoor", sum := "2746f322722c77e7f7dff165e1d614f58fbf16c689f7d0501124da67af8f2b1e", func := "bulwark/bulwarklaw10.TabletPlays", spec := "tabletPlays", inPlace := ["internal/bytealg.Count", "internal/bytealg.IndexByte", "internal/bytealg.Index", "internal/bytealg.MakeNoZero", "internal/bytealg.Compare", "slices.overlaps[[]byte]"], unfollowed := true, recurses := true, named := ["internal/bytealg.MaxLen", "unicode/utf8.first", "unicode/utf8.acceptRanges"], loops := true, plainKeys := false, apart := false, laid := [("unicode/utf8.acceptRanges", laid_unicode_utf8_acceptRanges), ("unicode/utf8.first", laid_unicode_utf8_first)], narrowed := true }
def TabletPlaysUptoSaid : Prop := tabletPlaysUptoRow.holds Tryz.pinned (OpenSpec.upto tabletPlaysSpec)

/-- 'bulwarklaw10.TabletOf', WHERE WHAT IT READS IS OF BULK AT MOST 1048576: true; the input reads as it did. -/
def tabletOfUptoRow : OpenClaim := { program := "ytpckachmleonlaagreatdoor", sum := "2746f322722c77e7f7dff165e1d614f58fbf16c689f7d0501124da67af8f2b1e", func := "bulwark/bulwarklaw10.TabletOf", spec := "tabletOf", inPlace := ["internal/bytealg.Count", "internal/bytealg.IndexByte", "internal/bytealg.Index", "internal/bytealg.MakeNoZero", "internal/bytealg.Compare", "slices.overlaps[[]byte]"], unfollowed := true, recurses := true, named := ["internal/bytealg.MaxLen", "unicode/utf8.first", "unicode/utf8.acceptRanges"], plainKeys := false, apart := false, laid := [("unicode/utf8.acceptRanges", laid_unicode_utf8_acceptRanges), ("unicode/utf8.first", laid_unicode_utf8_first)], narrowed := true }
def TabletOfUptoSaid : Prop := tabletOfUptoRow.holds Tryz.pinned (OpenSpec.upto tabletOfSpec)

end Rows
end Go.Proofs.YtpckachmleonlaaGreatDoor
