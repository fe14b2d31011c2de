/-
  No cell of these rows narrows 'for every input' (looked for: loops, veiled, ifaces, maps, wideKeys, modest, calm, conditions, laid).
  DERIVED. THE GIVEN ROWS OF THIS SEAT. 3 by the template 'for every input the law returns true; each argument reads behind the call as it read before'; 0 by the template 'total and deterministic' (their statements: YthnhmfmlhlpggaaTotals.lean).
  GIVEN WITH THE SEED: the statements are not yours to turn. If you find one false, say at which input.
  Laid BY PROGRAM, IN A SANDBOX (cutbox-rows.mjs): the forced cells as the released guide's own fill.sh prints them over the translation ddac0e8c8c8c063d… (all of the seat's roots in one cut). By AI agents, Wed Nov 11 2026. No macro, syntax, notation, axiom, sorry.
-/
import Derived.Test.YthnhmfmlhlpggaaChecked
import GoSem.Claim
import GoSem.ClaimJoined
import GoSem.ClaimMapViews
import Derived.JoinedTies
import Derived.KernelRfl
namespace Go.Proofs.Ythnhmfmlhlpggaa
/- THE CELL 'sum', in the pinned program and in every row, IS THE sha256 OF THE DUMP (.gsa) THAT YthnhmfmlhlpggaaProg.lean LOADS. Nothing in Lean hashes anything: it is a label: what it is worth is what the hold of that sum in a sandbox is worth. -/
noncomputable def Try.pinned : Pinned := { name := "ythnhmfmlhlpggaa", sum := "ddac0e8c8c8c063d75176f18769cf3f46772c01ad743ddf3a634effcb0f08eb8", checked := Try.checked }
namespace Rows
def none {H : Type} : Left H := { results := [], args := [] }

/-- 'bellpulltop.TopColours': WHATEVER THE INPUT: true; the input reads as it did. -/
def topColoursSpec : ChangeSpec := { name := "topColours", fn := fun _ => fun
  | [d1, d2, d3] => { results := [.lit (.bool true)], args := [d1, d2, d3] }
  | _ => none }
def topColoursRow : OpenClaim := { program := "ythnhmfmlhlpggaa", sum := "ddac0e8c8c8c063d75176f18769cf3f46772c01ad743ddf3a634effcb0f08eb8", func := "bellpull/bellpulltop.TopColours", spec := "topColours", inPlace := ["internal/bytealg.IndexByteString"], unfollowed := true, recurses := true, plainKeys := false, apart := false }
def TopColoursSaid : Prop := topColoursRow.holds Try.pinned (OpenSpec.ofChange topColoursSpec)

/-- ITS FALSE NEIGHBOUR: 'it returns false'. Refute it at one input. -/
def topColoursWrong : ChangeSpec := { name := "topColours", fn := fun _ => fun
  | [d1, d2, d3] => { results := [.lit (.bool false)], args := [d1, d2, d3] }
  | _ => none }
def TopColoursWrongFalsely : Prop := topColoursRow.holds Try.pinned (OpenSpec.ofChange topColoursWrong)

/-- 'bellpulltop.TopSquares': WHATEVER THE INPUT: true; the input reads as it did. -/
def topSquaresSpec : ChangeSpec := { name := "topSquares", fn := fun _ => fun
  | [d] => { results := [.lit (.bool true)], args := [d] }
  | _ => none }
def topSquaresRow : OpenClaim := { program := "ythnhmfmlhlpggaa", sum := "ddac0e8c8c8c063d75176f18769cf3f46772c01ad743ddf3a634effcb0f08eb8", func := "bellpull/bellpulltop.TopSquares", spec := "topSquares", inPlace := ["internal/bytealg.IndexByteString"], unfollowed := true, recurses := true, plainKeys := false, apart := false }
def TopSquaresSaid : Prop := topSquaresRow.holds Try.pinned (OpenSpec.ofChange topSquaresSpec)

/-- ITS FALSE NEIGHBOUR: 'it returns false'. Refute it at one input. -/
def topSquaresWrong : ChangeSpec := { name := "topSquares", fn := fun _ => fun
  | [d] => { results := [.lit (.bool false)], args := [d] }
  | _ => none }
def TopSquaresWrongFalsely : Prop := topSquaresRow.holds Try.pinned (OpenSpec.ofChange topSquaresWrong)

/-- 'bellpulltop.TopChannels': WHATEVER THE INPUT: true; the input reads as it did. -/
def topChannelsSpec : ChangeSpec := { name := "topChannels", fn := fun _ => fun
  | [d1, d2, d3] => { results := [.lit (.bool true)], args := [d1, d2, d3] }
  | _ => none }
def topChannelsRow : OpenClaim := { program := "ythnhmfmlhlpggaa", sum := "ddac0e8c8c8c063d75176f18769cf3f46772c01ad743ddf3a634effcb0f08eb8", func := "bellpull/bellpulltop.TopChannels", spec := "topChannels", inPlace := ["internal/bytealg.IndexByteString"], unfollowed := true, recurses := true, plainKeys := false, apart := false }
def TopChannelsSaid : Prop := topChannelsRow.holds Try.pinned (OpenSpec.ofChange topChannelsSpec)

/-- ITS FALSE NEIGHBOUR: 'it returns false'. Refute it at one input. -/
def topChannelsWrong : ChangeSpec := { name := "topChannels", fn := fun _ => fun
  | [d1, d2, d3] => { results := [.lit (.bool false)], args := [d1, d2, d3] }
  | _ => none }
def TopChannelsWrongFalsely : Prop := topChannelsRow.holds Try.pinned (OpenSpec.ofChange topChannelsWrong)

/- THE SECOND FORM. 'bulk': how many values and letters a reading holds, each counted each time it is reached (what is shared counts as often as it is met; a slice's spare places count too). A statement '..UptoSaid' is the law's where the arguments, and the package variables that the reading takes, are together of bulk at most 1048576: NARROWER than '..Said'. Prove '..Said' where nothing that the law and all that it calls make is longer than what came in: it says more and counts as full. Else prove '..UptoSaid'. A law counts once. -/
mutual
def uptoBulk {H : Type} : DataW H → Nat
  | .lit (.string bytes) => bytes.length + 1
  | .lit _ => 1
  | .nil => 1
  | .ptr d => uptoBulk d + 1
  | .slice elems spare => uptoBulkAll elems + uptoBulkAll spare + 1
  | .agg parts => uptoBulkAll parts + 1
  | .iface _ d => uptoBulk d + 1
  | .map entries => uptoBulkEntries entries + 1
  | .held _ => 1
def uptoBulkAll {H : Type} : List (DataW H) → Nat
  | [] => 0
  | d :: r => uptoBulk d + uptoBulkAll r
def uptoBulkEntries {H : Type} : List (Lit × DataW H) → Nat
  | [] => 0
  | x :: r => uptoBulkEntry x + uptoBulkEntries r
def uptoBulkEntry {H : Type} : Lit × DataW H → Nat
  | (.string bytes, d) => bytes.length + uptoBulk d + 1
  | (_, d) => uptoBulk d + 1
 end
def uptoSmall : (H : Type) → List (DataW H) → Bool := fun _ ds => decide (uptoBulkAll ds ≤ 1048576)
def OpenSpec.upto (s : _root_.Go.ChangeSpec) : _root_.Go.OpenSpec := { _root_.Go.OpenSpec.ofChange s with cond := some uptoSmall }

/-- 'bellpulltop.TopColours', WHERE WHAT IT READS IS OF BULK AT MOST 1048576: true; the input reads as it did. -/
def topColoursUptoRow : OpenClaim := { program := "ythnhmfmlhlpggaa", sum := "ddac0e8c8c8c063d75176f18769cf3f46772c01ad743ddf3a634effcb0f08eb8", func := "bellpull/bellpulltop.TopColours", spec := "topColours", inPlace := ["internal/bytealg.IndexByteString"], unfollowed := true, recurses := true, plainKeys := false, apart := false, narrowed := true }
def TopColoursUptoSaid : Prop := topColoursUptoRow.holds Try.pinned (OpenSpec.upto topColoursSpec)

/-- 'bellpulltop.TopSquares', WHERE WHAT IT READS IS OF BULK AT MOST 1048576: true; the input reads as it did. -/
def topSquaresUptoRow : OpenClaim := { program := "ythnhmfmlhlpggaa", sum := "ddac0e8c8c8c063d75176f18769cf3f46772c01ad743ddf3a634effcb0f08eb8", func := "bellpull/bellpulltop.TopSquares", spec := "topSquares", inPlace := ["internal/bytealg.IndexByteString"], unfollowed := true, recurses := true, plainKeys := false, apart := false, narrowed := true }
def TopSquaresUptoSaid : Prop := topSquaresUptoRow.holds Try.pinned (OpenSpec.upto topSquaresSpec)

/-- 'bellpulltop.TopChannels', WHERE WHAT IT READS IS OF BULK AT MOST 1048576: true; the input reads as it did. -/
def topChannelsUptoRow : OpenClaim := { program := "ythnhmfmlhlpggaa", sum := "ddac0e8c8c8c063d75176f18769cf3f46772c01ad743ddf3a634effcb0f08eb8", func := "bellpull/bellpulltop.TopChannels", spec := "topChannels", inPlace := ["internal/bytealg.IndexByteString"], unfollowed := true, recurses := true, plainKeys := false, apart := false, narrowed := true }
def TopChannelsUptoSaid : Prop := topChannelsUptoRow.holds Try.pinned (OpenSpec.upto topChannelsSpec)

end Rows
end Go.Proofs.Ythnhmfmlhlpggaa
