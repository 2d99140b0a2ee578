/-
  No cell of these rows narrows 'for every input' (looked for: loops, veiled, ifaces, maps, wideKeys, modest, calm, conditions, laid).
  DERIVED. THE GIVEN ROWS OF THIS SEAT. 15 by the template 'for every input the law returns true; each argument reads behind the call as it read before'; 0 by the template 'total and deterministic' (their statements: YtloffnamjgnkhaaTotals.lean).
  GIVEN WITH THE SEED: the statements are not yours to turn. If you find one false, say at which input.
  Laid BY PROGRAM, IN A SANDBOX (cutbox-rows.mjs): the forced cells as the released guide's own fill.sh prints them over the translation 06da509e79f6a77f… (all of the seat's roots in one cut). By AI agents, Wed Nov 11 2026. No macro, syntax, notation, axiom, sorry.
-/
import Derived.Test.YtloffnamjgnkhaaChecked
import GoSem.Claim
import GoSem.ClaimJoined
import GoSem.ClaimMapViews
import Derived.JoinedTies
import Derived.KernelRfl
namespace Go.Proofs.Ytloffnamjgnkhaa
/- THE CELL 'sum', in the pinned program and in every row, IS THE sha256 OF THE DUMP (.gsa) THAT YtloffnamjgnkhaaProg.lean LOADS. Nothing in Lean hashes anything: it is a label: what it is worth is what the hold of that sum in a sandbox is worth. -/
noncomputable def Try.pinned : Pinned := { name := "ytloffnamjgnkhaa", sum := "06da509e79f6a77ff121fa05a578fea117d5bb6de46aac2d9747e6e4a9360e1e", checked := Try.checked }
namespace Rows
def none {H : Type} : Left H := { results := [], args := [] }

/-- 'laws.FnExactSameScale': WHATEVER THE INPUT: true; the input reads as it did. -/
def fnExactSameScaleSpec : ChangeSpec := { name := "fnExactSameScale", fn := fun _ => fun
  | [d1, d2] => { results := [.lit (.bool true)], args := [d1, d2] }
  | _ => none }
def fnExactSameScaleRow : OpenClaim := { program := "ytloffnamjgnkhaa", sum := "06da509e79f6a77ff121fa05a578fea117d5bb6de46aac2d9747e6e4a9360e1e", func := "loop.example/g01393/laws.FnExactSameScale", spec := "fnExactSameScale", apart := false }
def FnExactSameScaleSaid : Prop := fnExactSameScaleRow.holds Try.pinned (OpenSpec.ofChange fnExactSameScaleSpec)

/-- ITS FALSE NEIGHBOUR: 'it returns false'. Refute it at one input. -/
def fnExactSameScaleWrong : ChangeSpec := { name := "fnExactSameScale", fn := fun _ => fun
  | [d1, d2] => { results := [.lit (.bool false)], args := [d1, d2] }
  | _ => none }
def FnExactSameScaleWrongFalsely : Prop := fnExactSameScaleRow.holds Try.pinned (OpenSpec.ofChange fnExactSameScaleWrong)

/-- 'laws.FnExactValidScale': WHATEVER THE INPUT: true; the input reads as it did. -/
def fnExactValidScaleSpec : ChangeSpec := { name := "fnExactValidScale", fn := fun _ => fun
  | [d] => { results := [.lit (.bool true)], args := [d] }
  | _ => none }
def fnExactValidScaleRow : OpenClaim := { program := "ytloffnamjgnkhaa", sum := "06da509e79f6a77ff121fa05a578fea117d5bb6de46aac2d9747e6e4a9360e1e", func := "loop.example/g01393/laws.FnExactValidScale", spec := "fnExactValidScale", unfollowed := true, recurses := true, apart := false }
def FnExactValidScaleSaid : Prop := fnExactValidScaleRow.holds Try.pinned (OpenSpec.ofChange fnExactValidScaleSpec)

/-- ITS FALSE NEIGHBOUR: 'it returns false'. Refute it at one input. -/
def fnExactValidScaleWrong : ChangeSpec := { name := "fnExactValidScale", fn := fun _ => fun
  | [d] => { results := [.lit (.bool false)], args := [d] }
  | _ => none }
def FnExactValidScaleWrongFalsely : Prop := fnExactValidScaleRow.holds Try.pinned (OpenSpec.ofChange fnExactValidScaleWrong)

/-- 'laws.FnExactRateAt': WHATEVER THE INPUT: true; the input reads as it did. -/
def fnExactRateAtSpec : ChangeSpec := { name := "fnExactRateAt", fn := fun _ => fun
  | [d1, d2] => { results := [.lit (.bool true)], args := [d1, d2] }
  | _ => none }
def fnExactRateAtRow : OpenClaim := { program := "ytloffnamjgnkhaa", sum := "06da509e79f6a77ff121fa05a578fea117d5bb6de46aac2d9747e6e4a9360e1e", func := "loop.example/g01393/laws.FnExactRateAt", spec := "fnExactRateAt", unfollowed := true, recurses := true, apart := false }
def FnExactRateAtSaid : Prop := fnExactRateAtRow.holds Try.pinned (OpenSpec.ofChange fnExactRateAtSpec)

/-- ITS FALSE NEIGHBOUR: 'it returns false'. Refute it at one input. -/
def fnExactRateAtWrong : ChangeSpec := { name := "fnExactRateAt", fn := fun _ => fun
  | [d1, d2] => { results := [.lit (.bool false)], args := [d1, d2] }
  | _ => none }
def FnExactRateAtWrongFalsely : Prop := fnExactRateAtRow.holds Try.pinned (OpenSpec.ofChange fnExactRateAtWrong)

/-- 'laws.FnExactTrimScale': WHATEVER THE INPUT: true; the input reads as it did. -/
def fnExactTrimScaleSpec : ChangeSpec := { name := "fnExactTrimScale", fn := fun _ => fun
  | [d] => { results := [.lit (.bool true)], args := [d] }
  | _ => none }
def fnExactTrimScaleRow : OpenClaim := { program := "ytloffnamjgnkhaa", sum := "06da509e79f6a77ff121fa05a578fea117d5bb6de46aac2d9747e6e4a9360e1e", func := "loop.example/g01393/laws.FnExactTrimScale", spec := "fnExactTrimScale", unfollowed := true, recurses := true, apart := false }
def FnExactTrimScaleSaid : Prop := fnExactTrimScaleRow.holds Try.pinned (OpenSpec.ofChange fnExactTrimScaleSpec)

/-- ITS FALSE NEIGHBOUR: 'it returns false'. Refute it at one input. -/
def fnExactTrimScaleWrong : ChangeSpec := { name := "fnExactTrimScale", fn := fun _ => fun
  | [d] => { results := [.lit (.bool false)], args := [d] }
  | _ => none }
def FnExactTrimScaleWrongFalsely : Prop := fnExactTrimScaleRow.holds Try.pinned (OpenSpec.ofChange fnExactTrimScaleWrong)

/-- 'laws.FnExactScaleOf': WHATEVER THE INPUT: true; the input reads as it did. -/
def fnExactScaleOfSpec : ChangeSpec := { name := "fnExactScaleOf", fn := fun _ => fun
  | [d1, d2, d3] => { results := [.lit (.bool true)], args := [d1, d2, d3] }
  | _ => none }
def fnExactScaleOfRow : OpenClaim := { program := "ytloffnamjgnkhaa", sum := "06da509e79f6a77ff121fa05a578fea117d5bb6de46aac2d9747e6e4a9360e1e", func := "loop.example/g01393/laws.FnExactScaleOf", spec := "fnExactScaleOf", unfollowed := true, recurses := true, apart := false }
def FnExactScaleOfSaid : Prop := fnExactScaleOfRow.holds Try.pinned (OpenSpec.ofChange fnExactScaleOfSpec)

/-- ITS FALSE NEIGHBOUR: 'it returns false'. Refute it at one input. -/
def fnExactScaleOfWrong : ChangeSpec := { name := "fnExactScaleOf", fn := fun _ => fun
  | [d1, d2, d3] => { results := [.lit (.bool false)], args := [d1, d2, d3] }
  | _ => none }
def FnExactScaleOfWrongFalsely : Prop := fnExactScaleOfRow.holds Try.pinned (OpenSpec.ofChange fnExactScaleOfWrong)

/-- 'laws.FnExactMeanRate': WHATEVER THE INPUT: true; the input reads as it did. -/
def fnExactMeanRateSpec : ChangeSpec := { name := "fnExactMeanRate", fn := fun _ => fun
  | [d1, d2] => { results := [.lit (.bool true)], args := [d1, d2] }
  | _ => none }
def fnExactMeanRateRow : OpenClaim := { program := "ytloffnamjgnkhaa", sum := "06da509e79f6a77ff121fa05a578fea117d5bb6de46aac2d9747e6e4a9360e1e", func := "loop.example/g01393/laws.FnExactMeanRate", spec := "fnExactMeanRate", unfollowed := true, recurses := true, apart := false }
def FnExactMeanRateSaid : Prop := fnExactMeanRateRow.holds Try.pinned (OpenSpec.ofChange fnExactMeanRateSpec)

/-- ITS FALSE NEIGHBOUR: 'it returns false'. Refute it at one input. -/
def fnExactMeanRateWrong : ChangeSpec := { name := "fnExactMeanRate", fn := fun _ => fun
  | [d1, d2] => { results := [.lit (.bool false)], args := [d1, d2] }
  | _ => none }
def FnExactMeanRateWrongFalsely : Prop := fnExactMeanRateRow.holds Try.pinned (OpenSpec.ofChange fnExactMeanRateWrong)

/-- 'laws.FnExactMixScale': WHATEVER THE INPUT: true; the input reads as it did. -/
def fnExactMixScaleSpec : ChangeSpec := { name := "fnExactMixScale", fn := fun _ => fun
  | [d1, d2] => { results := [.lit (.bool true)], args := [d1, d2] }
  | _ => none }
def fnExactMixScaleRow : OpenClaim := { program := "ytloffnamjgnkhaa", sum := "06da509e79f6a77ff121fa05a578fea117d5bb6de46aac2d9747e6e4a9360e1e", func := "loop.example/g01393/laws.FnExactMixScale", spec := "fnExactMixScale", unfollowed := true, recurses := true, apart := false }
def FnExactMixScaleSaid : Prop := fnExactMixScaleRow.holds Try.pinned (OpenSpec.ofChange fnExactMixScaleSpec)

/-- ITS FALSE NEIGHBOUR: 'it returns false'. Refute it at one input. -/
def fnExactMixScaleWrong : ChangeSpec := { name := "fnExactMixScale", fn := fun _ => fun
  | [d1, d2] => { results := [.lit (.bool false)], args := [d1, d2] }
  | _ => none }
def FnExactMixScaleWrongFalsely : Prop := fnExactMixScaleRow.holds Try.pinned (OpenSpec.ofChange fnExactMixScaleWrong)

/-- 'laws.FnExactStretchScale': WHATEVER THE INPUT: true; the input reads as it did. -/
def fnExactStretchScaleSpec : ChangeSpec := { name := "fnExactStretchScale", fn := fun _ => fun
  | [d1, d2, d3] => { results := [.lit (.bool true)], args := [d1, d2, d3] }
  | _ => none }
def fnExactStretchScaleRow : OpenClaim := { program := "ytloffnamjgnkhaa", sum := "06da509e79f6a77ff121fa05a578fea117d5bb6de46aac2d9747e6e4a9360e1e", func := "loop.example/g01393/laws.FnExactStretchScale", spec := "fnExactStretchScale", unfollowed := true, recurses := true, apart := false }
def FnExactStretchScaleSaid : Prop := fnExactStretchScaleRow.holds Try.pinned (OpenSpec.ofChange fnExactStretchScaleSpec)

/-- ITS FALSE NEIGHBOUR: 'it returns false'. Refute it at one input. -/
def fnExactStretchScaleWrong : ChangeSpec := { name := "fnExactStretchScale", fn := fun _ => fun
  | [d1, d2, d3] => { results := [.lit (.bool false)], args := [d1, d2, d3] }
  | _ => none }
def FnExactStretchScaleWrongFalsely : Prop := fnExactStretchScaleRow.holds Try.pinned (OpenSpec.ofChange fnExactStretchScaleWrong)

/-- 'laws.FnExactDueOf': WHATEVER THE INPUT: true; the input reads as it did. -/
def fnExactDueOfSpec : ChangeSpec := { name := "fnExactDueOf", fn := fun _ => fun
  | [d1, d2, d3] => { results := [.lit (.bool true)], args := [d1, d2, d3] }
  | _ => none }
def fnExactDueOfRow : OpenClaim := { program := "ytloffnamjgnkhaa", sum := "06da509e79f6a77ff121fa05a578fea117d5bb6de46aac2d9747e6e4a9360e1e", func := "loop.example/g01393/laws.FnExactDueOf", spec := "fnExactDueOf", unfollowed := true, recurses := true, apart := false }
def FnExactDueOfSaid : Prop := fnExactDueOfRow.holds Try.pinned (OpenSpec.ofChange fnExactDueOfSpec)

/-- ITS FALSE NEIGHBOUR: 'it returns false'. Refute it at one input. -/
def fnExactDueOfWrong : ChangeSpec := { name := "fnExactDueOf", fn := fun _ => fun
  | [d1, d2, d3] => { results := [.lit (.bool false)], args := [d1, d2, d3] }
  | _ => none }
def FnExactDueOfWrongFalsely : Prop := fnExactDueOfRow.holds Try.pinned (OpenSpec.ofChange fnExactDueOfWrong)

/-- 'laws.FnExactNetOf': WHATEVER THE INPUT: true; the input reads as it did. -/
def fnExactNetOfSpec : ChangeSpec := { name := "fnExactNetOf", fn := fun _ => fun
  | [d1, d2, d3] => { results := [.lit (.bool true)], args := [d1, d2, d3] }
  | _ => none }
def fnExactNetOfRow : OpenClaim := { program := "ytloffnamjgnkhaa", sum := "06da509e79f6a77ff121fa05a578fea117d5bb6de46aac2d9747e6e4a9360e1e", func := "loop.example/g01393/laws.FnExactNetOf", spec := "fnExactNetOf", unfollowed := true, recurses := true, apart := false }
def FnExactNetOfSaid : Prop := fnExactNetOfRow.holds Try.pinned (OpenSpec.ofChange fnExactNetOfSpec)

/-- ITS FALSE NEIGHBOUR: 'it returns false'. Refute it at one input. -/
def fnExactNetOfWrong : ChangeSpec := { name := "fnExactNetOf", fn := fun _ => fun
  | [d1, d2, d3] => { results := [.lit (.bool false)], args := [d1, d2, d3] }
  | _ => none }
def FnExactNetOfWrongFalsely : Prop := fnExactNetOfRow.holds Try.pinned (OpenSpec.ofChange fnExactNetOfWrong)

/-- 'laws.FnExactRateWithTaper': WHATEVER THE INPUT: true; the input reads as it did. -/
def fnExactRateWithTaperSpec : ChangeSpec := { name := "fnExactRateWithTaper", fn := fun _ => fun
  | [d1, d2, d3, d4, d5] => { results := [.lit (.bool true)], args := [d1, d2, d3, d4, d5] }
  | _ => none }
def fnExactRateWithTaperRow : OpenClaim := { program := "ytloffnamjgnkhaa", sum := "06da509e79f6a77ff121fa05a578fea117d5bb6de46aac2d9747e6e4a9360e1e", func := "loop.example/g01393/laws.FnExactRateWithTaper", spec := "fnExactRateWithTaper", unfollowed := true, recurses := true, apart := false }
def FnExactRateWithTaperSaid : Prop := fnExactRateWithTaperRow.holds Try.pinned (OpenSpec.ofChange fnExactRateWithTaperSpec)

/-- ITS FALSE NEIGHBOUR: 'it returns false'. Refute it at one input. -/
def fnExactRateWithTaperWrong : ChangeSpec := { name := "fnExactRateWithTaper", fn := fun _ => fun
  | [d1, d2, d3, d4, d5] => { results := [.lit (.bool false)], args := [d1, d2, d3, d4, d5] }
  | _ => none }
def FnExactRateWithTaperWrongFalsely : Prop := fnExactRateWithTaperRow.holds Try.pinned (OpenSpec.ofChange fnExactRateWithTaperWrong)

/-- 'laws.FnExactLeastDue': WHATEVER THE INPUT: true; the input reads as it did. -/
def fnExactLeastDueSpec : ChangeSpec := { name := "fnExactLeastDue", fn := fun _ => fun
  | [d1, d2, d3, d4, d5] => { results := [.lit (.bool true)], args := [d1, d2, d3, d4, d5] }
  | _ => none }
def fnExactLeastDueRow : OpenClaim := { program := "ytloffnamjgnkhaa", sum := "06da509e79f6a77ff121fa05a578fea117d5bb6de46aac2d9747e6e4a9360e1e", func := "loop.example/g01393/laws.FnExactLeastDue", spec := "fnExactLeastDue", unfollowed := true, recurses := true, apart := false }
def FnExactLeastDueSaid : Prop := fnExactLeastDueRow.holds Try.pinned (OpenSpec.ofChange fnExactLeastDueSpec)

/-- ITS FALSE NEIGHBOUR: 'it returns false'. Refute it at one input. -/
def fnExactLeastDueWrong : ChangeSpec := { name := "fnExactLeastDue", fn := fun _ => fun
  | [d1, d2, d3, d4, d5] => { results := [.lit (.bool false)], args := [d1, d2, d3, d4, d5] }
  | _ => none }
def FnExactLeastDueWrongFalsely : Prop := fnExactLeastDueRow.holds Try.pinned (OpenSpec.ofChange fnExactLeastDueWrong)

/-- 'laws.FnExactIndexScale': WHATEVER THE INPUT: true; the input reads as it did. -/
def fnExactIndexScaleSpec : ChangeSpec := { name := "fnExactIndexScale", fn := fun _ => fun
  | [d1, d2, d3] => { results := [.lit (.bool true)], args := [d1, d2, d3] }
  | _ => none }
def fnExactIndexScaleRow : OpenClaim := { program := "ytloffnamjgnkhaa", sum := "06da509e79f6a77ff121fa05a578fea117d5bb6de46aac2d9747e6e4a9360e1e", func := "loop.example/g01393/laws.FnExactIndexScale", spec := "fnExactIndexScale", unfollowed := true, recurses := true, apart := false }
def FnExactIndexScaleSaid : Prop := fnExactIndexScaleRow.holds Try.pinned (OpenSpec.ofChange fnExactIndexScaleSpec)

/-- ITS FALSE NEIGHBOUR: 'it returns false'. Refute it at one input. -/
def fnExactIndexScaleWrong : ChangeSpec := { name := "fnExactIndexScale", fn := fun _ => fun
  | [d1, d2, d3] => { results := [.lit (.bool false)], args := [d1, d2, d3] }
  | _ => none }
def FnExactIndexScaleWrongFalsely : Prop := fnExactIndexScaleRow.holds Try.pinned (OpenSpec.ofChange fnExactIndexScaleWrong)

/-- 'laws.FnExactTaperEnd': WHATEVER THE INPUT: true; the input reads as it did. -/
def fnExactTaperEndSpec : ChangeSpec := { name := "fnExactTaperEnd", fn := fun _ => fun
  | [d1, d2, d3] => { results := [.lit (.bool true)], args := [d1, d2, d3] }
  | _ => none }
def fnExactTaperEndRow : OpenClaim := { program := "ytloffnamjgnkhaa", sum := "06da509e79f6a77ff121fa05a578fea117d5bb6de46aac2d9747e6e4a9360e1e", func := "loop.example/g01393/laws.FnExactTaperEnd", spec := "fnExactTaperEnd", unfollowed := true, recurses := true, apart := false }
def FnExactTaperEndSaid : Prop := fnExactTaperEndRow.holds Try.pinned (OpenSpec.ofChange fnExactTaperEndSpec)

/-- ITS FALSE NEIGHBOUR: 'it returns false'. Refute it at one input. -/
def fnExactTaperEndWrong : ChangeSpec := { name := "fnExactTaperEnd", fn := fun _ => fun
  | [d1, d2, d3] => { results := [.lit (.bool false)], args := [d1, d2, d3] }
  | _ => none }
def FnExactTaperEndWrongFalsely : Prop := fnExactTaperEndRow.holds Try.pinned (OpenSpec.ofChange fnExactTaperEndWrong)

/-- 'laws.FnExactTaperOf': WHATEVER THE INPUT: true; the input reads as it did. -/
def fnExactTaperOfSpec : ChangeSpec := { name := "fnExactTaperOf", fn := fun _ => fun
  | [d1, d2, d3, d4] => { results := [.lit (.bool true)], args := [d1, d2, d3, d4] }
  | _ => none }
def fnExactTaperOfRow : OpenClaim := { program := "ytloffnamjgnkhaa", sum := "06da509e79f6a77ff121fa05a578fea117d5bb6de46aac2d9747e6e4a9360e1e", func := "loop.example/g01393/laws.FnExactTaperOf", spec := "fnExactTaperOf", apart := false }
def FnExactTaperOfSaid : Prop := fnExactTaperOfRow.holds Try.pinned (OpenSpec.ofChange fnExactTaperOfSpec)

/-- ITS FALSE NEIGHBOUR: 'it returns false'. Refute it at one input. -/
def fnExactTaperOfWrong : ChangeSpec := { name := "fnExactTaperOf", fn := fun _ => fun
  | [d1, d2, d3, d4] => { results := [.lit (.bool false)], args := [d1, d2, d3, d4] }
  | _ => none }
def FnExactTaperOfWrongFalsely : Prop := fnExactTaperOfRow.holds Try.pinned (OpenSpec.ofChange fnExactTaperOfWrong)

/- THE SECOND FORM. 'bulk': how many values and letters a reading holds, each counted each time it is reached (what is shared counts as often as it is met; a slice's spare places count too). A statement '..UptoSaid' is the law's where the arguments, and the package variables that the reading takes, are together of bulk at most 1048576: NARROWER than '..Said'. Prove '..Said' where nothing that the law and all that it calls make is longer than what came in: it says more and counts as full. Else prove '..UptoSaid'. A law counts once. -/
mutual
def uptoBulk {H : Type} : DataW H → Nat
  | .lit (.string bytes) => bytes.length + 1
  | .lit _ => 1
  | .nil => 1
  | .ptr d => uptoBulk d + 1
  | .slice elems spare => uptoBulkAll elems + uptoBulkAll spare + 1
  | .agg parts => uptoBulkAll parts + 1
  | .iface _ d => uptoBulk d + 1
  | .map entries => uptoBulkEntries entries + 1
  | .held _ => 1
def uptoBulkAll {H : Type} : List (DataW H) → Nat
  | [] => 0
  | d :: r => uptoBulk d + uptoBulkAll r
def uptoBulkEntries {H : Type} : List (Lit × DataW H) → Nat
  | [] => 0
  | x :: r => uptoBulkEntry x + uptoBulkEntries r
def uptoBulkEntry {H : Type} : Lit × DataW H → Nat
  | (.string bytes, d) => bytes.length + uptoBulk d + 1
  | (_, d) => uptoBulk d + 1
 end
def uptoSmall : (H : Type) → List (DataW H) → Bool := fun _ ds => decide (uptoBulkAll ds ≤ 1048576)
def OpenSpec.upto (s : _root_.Go.ChangeSpec) : _root_.Go.OpenSpec := { _root_.Go.OpenSpec.ofChange s with cond := some uptoSmall }

/-- 'laws.FnExactSameScale', WHERE WHAT IT READS IS OF BULK AT MOST 1048576: true; the input reads as it did. -/
def fnExactSameScaleUptoRow : OpenClaim := { program := "ytloffnamjgnkhaa", sum := "06da509e79f6a77ff121fa05a578fea117d5bb6de46aac2d9747e6e4a9360e1e", func := "loop.example/g01393/laws.FnExactSameScale", spec := "fnExactSameScale", apart := false, narrowed := true }
def FnExactSameScaleUptoSaid : Prop := fnExactSameScaleUptoRow.holds Try.pinned (OpenSpec.upto fnExactSameScaleSpec)

/-- 'laws.FnExactValidScale', WHERE WHAT IT READS IS OF BULK AT MOST 1048576: true; the input reads as it did. -/
def fnExactValidScaleUptoRow : OpenClaim := { program := "ytloffnamjgnkhaa", sum := "06da509e79f6a77ff121fa05a578fea117d5bb6de46aac2d9747e6e4a9360e1e", func := "loop.example/g01393/laws.FnExactValidScale", spec := "fnExactValidScale", unfollowed := true, recurses := true, apart := false, narrowed := true }
def FnExactValidScaleUptoSaid : Prop := fnExactValidScaleUptoRow.holds Try.pinned (OpenSpec.upto fnExactValidScaleSpec)

/-- 'laws.FnExactRateAt', WHERE WHAT IT READS IS OF BULK AT MOST 1048576: true; the input reads as it did. -/
def fnExactRateAtUptoRow : OpenClaim := { program := "ytloffnamjgnkhaa", sum := "06da509e79f6a77ff121fa05a578fea117d5bb6de46aac2d9747e6e4a9360e1e", func := "loop.example/g01393/laws.FnExactRateAt", spec := "fnExactRateAt", unfollowed := true, recurses := true, apart := false, narrowed := true }
def FnExactRateAtUptoSaid : Prop := fnExactRateAtUptoRow.holds Try.pinned (OpenSpec.upto fnExactRateAtSpec)

/-- 'laws.FnExactTrimScale', WHERE WHAT IT READS IS OF BULK AT MOST 1048576: true; the input reads as it did. -/
def fnExactTrimScaleUptoRow : OpenClaim := { program := "ytloffnamjgnkhaa", sum := "06da509e79f6a77ff121fa05a578fea117d5bb6de46aac2d9747e6e4a9360e1e", func := "loop.example/g01393/laws.FnExactTrimScale", spec := "fnExactTrimScale", unfollowed := true, recurses := true, apart := false, narrowed := true }
def FnExactTrimScaleUptoSaid : Prop := fnExactTrimScaleUptoRow.holds Try.pinned (OpenSpec.upto fnExactTrimScaleSpec)

/-- 'laws.FnExactScaleOf', WHERE WHAT IT READS IS OF BULK AT MOST 1048576: true; the input reads as it did. -/
def fnExactScaleOfUptoRow : OpenClaim := { program := "ytloffnamjgnkhaa", sum := "06da509e79f6a77ff121fa05a578fea117d5bb6de46aac2d9747e6e4a9360e1e", func := "loop.example/g01393/laws.FnExactScaleOf", spec := "fnExactScaleOf", unfollowed := true, recurses := true, apart := false, narrowed := true }
def FnExactScaleOfUptoSaid : Prop := fnExactScaleOfUptoRow.holds Try.pinned (OpenSpec.upto fnExactScaleOfSpec)

/-- 'laws.FnExactMeanRate', WHERE WHAT IT READS IS OF BULK AT MOST 1048576: true; the input reads as it did. -/
def fnExactMeanRateUptoRow : OpenClaim := { program := "ytloffnamjgnkhaa", sum := "06da509e79f6a77ff121fa05a578fea117d5bb6de46aac2d9747e6e4a9360e1e", func := "loop.example/g01393/laws.FnExactMeanRate", spec := "fnExactMeanRate", unfollowed := true, recurses := true, apart := false, narrowed := true }
def FnExactMeanRateUptoSaid : Prop := fnExactMeanRateUptoRow.holds Try.pinned (OpenSpec.upto fnExactMeanRateSpec)

/-- 'laws.FnExactMixScale', WHERE WHAT IT READS IS OF BULK AT MOST 1048576: true; the input reads as it did. -/
def fnExactMixScaleUptoRow : OpenClaim := { program := "ytloffnamjgnkhaa", sum := "06da509e79f6a77ff121fa05a578fea117d5bb6de46aac2d9747e6e4a9360e1e", func := "loop.example/g01393/laws.FnExactMixScale", spec := "fnExactMixScale", unfollowed := true, recurses := true, apart := false, narrowed := true }
def FnExactMixScaleUptoSaid : Prop := fnExactMixScaleUptoRow.holds Try.pinned (OpenSpec.upto fnExactMixScaleSpec)

/-- 'laws.FnExactStretchScale', WHERE WHAT IT READS IS OF BULK AT MOST 1048576: true; the input reads as it did. -/
def fnExactStretchScaleUptoRow : OpenClaim := { program := "ytloffnamjgnkhaa", sum := "06da509e79f6a77ff121fa05a578fea117d5bb6de46aac2d9747e6e4a9360e1e", func := "loop.example/g01393/laws.FnExactStretchScale", spec := "fnExactStretchScale", unfollowed := true, recurses := true, apart := false, narrowed := true }
def FnExactStretchScaleUptoSaid : Prop := fnExactStretchScaleUptoRow.holds Try.pinned (OpenSpec.upto fnExactStretchScaleSpec)

/-- 'laws.FnExactDueOf', WHERE WHAT IT READS IS OF BULK AT MOST 1048576: true; the input reads as it did. -/
def fnExactDueOfUptoRow : OpenClaim := { program := "ytloffnamjgnkhaa", sum := "06da509e79f6a77ff121fa05a578fea117d5bb6de46aac2d9747e6e4a9360e1e", func := "loop.example/g01393/laws.FnExactDueOf", spec := "fnExactDueOf", unfollowed := true, recurses := true, apart := false, narrowed := true }
def FnExactDueOfUptoSaid : Prop := fnExactDueOfUptoRow.holds Try.pinned (OpenSpec.upto fnExactDueOfSpec)

/-- 'laws.FnExactNetOf', WHERE WHAT IT READS IS OF BULK AT MOST 1048576: true; the input reads as it did. -/
def fnExactNetOfUptoRow : OpenClaim := { program := "ytloffnamjgnkhaa", sum := "06da509e79f6a77ff121fa05a578fea117d5bb6de46aac2d9747e6e4a9360e1e", func := "loop.example/g01393/laws.FnExactNetOf", spec := "fnExactNetOf", unfollowed := true, recurses := true, apart := false, narrowed := true }
def FnExactNetOfUptoSaid : Prop := fnExactNetOfUptoRow.holds Try.pinned (OpenSpec.upto fnExactNetOfSpec)

/-- 'laws.FnExactRateWithTaper', WHERE WHAT IT READS IS OF BULK AT MOST 1048576: true; the input reads as it did. -/
def fnExactRateWithTaperUptoRow : OpenClaim := { program := "ytloffnamjgnkhaa", sum := "06da509e79f6a77ff121fa05a578fea117d5bb6de46aac2d9747e6e4a9360e1e", func := "loop.example/g01393/laws.FnExactRateWithTaper", spec := "fnExactRateWithTaper", unfollowed := true, recurses := true, apart := false, narrowed := true }
def FnExactRateWithTaperUptoSaid : Prop := fnExactRateWithTaperUptoRow.holds Try.pinned (OpenSpec.upto fnExactRateWithTaperSpec)

/-- 'laws.FnExactLeastDue', WHERE WHAT IT READS IS OF BULK AT MOST 1048576: true; the input reads as it did. -/
def fnExactLeastDueUptoRow : OpenClaim := { program := "ytloffnamjgnkhaa", sum := "06da509e79f6a77ff121fa05a578fea117d5bb6de46aac2d9747e6e4a9360e1e", func := "loop.example/g01393/laws.FnExactLeastDue", spec := "fnExactLeastDue", unfollowed := true, recurses := true, apart := false, narrowed := true }
def FnExactLeastDueUptoSaid : Prop := fnExactLeastDueUptoRow.holds Try.pinned (OpenSpec.upto fnExactLeastDueSpec)

/-- 'laws.FnExactIndexScale', WHERE WHAT IT READS IS OF BULK AT MOST 1048576: true; the input reads as it did. -/
def fnExactIndexScaleUptoRow : OpenClaim := { program := "ytloffnamjgnkhaa", sum := "06da509e79f6a77ff121fa05a578fea117d5bb6de46aac2d9747e6e4a9360e1e", func := "loop.example/g01393/laws.FnExactIndexScale", spec := "fnExactIndexScale", unfollowed := true, recurses := true, apart := false, narrowed := true }
def FnExactIndexScaleUptoSaid : Prop := fnExactIndexScaleUptoRow.holds Try.pinned (OpenSpec.upto fnExactIndexScaleSpec)

/-- 'laws.FnExactTaperEnd', WHERE WHAT IT READS IS OF BULK AT MOST 1048576: true; the input reads as it did. -/
def fnExactTaperEndUptoRow : OpenClaim := { program := "ytloffnamjgnkhaa", sum := "06da509e79f6a77ff121fa05a578fea117d5bb6de46aac2d9747e6e4a9360e1e", func := "loop.example/g01393/laws.FnExactTaperEnd", spec := "fnExactTaperEnd", unfollowed := true, recurses := true, apart := false, narrowed := true }
def FnExactTaperEndUptoSaid : Prop := fnExactTaperEndUptoRow.holds Try.pinned (OpenSpec.upto fnExactTaperEndSpec)

/-- 'laws.FnExactTaperOf', WHERE WHAT IT READS IS OF BULK AT MOST 1048576: true; the input reads as it did. -/
def fnExactTaperOfUptoRow : OpenClaim := { program := "ytloffnamjgnkhaa", sum := "06da509e79f6a77ff121fa05a578fea117d5bb6de46aac2d9747e6e4a9360e1e", func := "loop.example/g01393/laws.FnExactTaperOf", spec := "fnExactTaperOf", apart := false, narrowed := true }
def FnExactTaperOfUptoSaid : Prop := fnExactTaperOfUptoRow.holds Try.pinned (OpenSpec.upto fnExactTaperOfSpec)

end Rows
end Go.Proofs.Ytloffnamjgnkhaa
