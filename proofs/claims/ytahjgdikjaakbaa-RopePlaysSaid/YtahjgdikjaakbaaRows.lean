/-
  No cell of these rows narrows 'for every input' (looked for: loops, veiled, ifaces, maps, wideKeys, modest, calm, conditions, laid).
  DERIVED. THE GIVEN ROWS OF THIS SEAT. 10 by the template 'for every input the law returns true; each argument reads behind the call as it read before'; 0 by the template 'total and deterministic' (their statements: YtahjgdikjaakbaaTotals.lean).
  GIVEN WITH THE SEED: the statements are not yours to turn. If you find one false, say at which input.
  Laid BY PROGRAM, IN A SANDBOX (cutbox-rows.mjs): the forced cells as the released guide's own fill.sh prints them over the translation 68637cb5ff4bab52… (all of the seat's roots in one cut). By AI agents, Wed Nov 11 2026. No macro, syntax, notation, axiom, sorry.
-/
import Derived.Test.YtahjgdikjaakbaaChecked
import GoSem.Claim
import GoSem.ClaimJoined
import GoSem.ClaimMapViews
import Derived.JoinedTies
import Derived.KernelRfl
namespace Go.Proofs.Ytahjgdikjaakbaa
/- THE CELL 'sum', in the pinned program and in every row, IS THE sha256 OF THE DUMP (.gsa) THAT YtahjgdikjaakbaaProg.lean LOADS. Nothing in Lean hashes anything: it is a label: what it is worth is what the hold of that sum in a sandbox is worth. -/
noncomputable def Try.pinned : Pinned := { name := "ytahjgdikjaakbaa", sum := "68637cb5ff4bab52d6d03ccf06400029376996022c2671f2ea8ed20053394488", checked := Try.checked }
namespace Rows
def none {H : Type} : Left H := { results := [], args := [] }

/-- 'bellpulllaw09.RopeExclusion': WHATEVER THE INPUT: true; the input reads as it did. -/
def ropeExclusionSpec : ChangeSpec := { name := "ropeExclusion", fn := fun _ => fun
  | [d1, d2] => { results := [.lit (.bool true)], args := [d1, d2] }
  | _ => none }
def ropeExclusionRow : OpenClaim := { program := "ytahjgdikjaakbaa", sum := "68637cb5ff4bab52d6d03ccf06400029376996022c2671f2ea8ed20053394488", func := "bellpull/bellpulllaw09.RopeExclusion", spec := "ropeExclusion", unfollowed := true, recurses := true, plainKeys := false, apart := false }
def RopeExclusionSaid : Prop := ropeExclusionRow.holds Try.pinned (OpenSpec.ofChange ropeExclusionSpec)

/-- ITS FALSE NEIGHBOUR: 'it returns false'. Refute it at one input. -/
def ropeExclusionWrong : ChangeSpec := { name := "ropeExclusion", fn := fun _ => fun
  | [d1, d2] => { results := [.lit (.bool false)], args := [d1, d2] }
  | _ => none }
def RopeExclusionWrongFalsely : Prop := ropeExclusionRow.holds Try.pinned (OpenSpec.ofChange ropeExclusionWrong)

/-- 'bellpulllaw09.RopeFew': WHATEVER THE INPUT: true; the input reads as it did. -/
def ropeFewSpec : ChangeSpec := { name := "ropeFew", fn := fun _ => fun
  | [d1, d2] => { results := [.lit (.bool true)], args := [d1, d2] }
  | _ => none }
def ropeFewRow : OpenClaim := { program := "ytahjgdikjaakbaa", sum := "68637cb5ff4bab52d6d03ccf06400029376996022c2671f2ea8ed20053394488", func := "bellpull/bellpulllaw09.RopeFew", spec := "ropeFew", unfollowed := true, recurses := true, plainKeys := false, apart := false }
def RopeFewSaid : Prop := ropeFewRow.holds Try.pinned (OpenSpec.ofChange ropeFewSpec)

/-- ITS FALSE NEIGHBOUR: 'it returns false'. Refute it at one input. -/
def ropeFewWrong : ChangeSpec := { name := "ropeFew", fn := fun _ => fun
  | [d1, d2] => { results := [.lit (.bool false)], args := [d1, d2] }
  | _ => none }
def RopeFewWrongFalsely : Prop := ropeFewRow.holds Try.pinned (OpenSpec.ofChange ropeFewWrong)

/-- 'bellpulllaw09.RopeAll': WHATEVER THE INPUT: true; the input reads as it did. -/
def ropeAllSpec : ChangeSpec := { name := "ropeAll", fn := fun _ => fun
  | [d1, d2] => { results := [.lit (.bool true)], args := [d1, d2] }
  | _ => none }
def ropeAllRow : OpenClaim := { program := "ytahjgdikjaakbaa", sum := "68637cb5ff4bab52d6d03ccf06400029376996022c2671f2ea8ed20053394488", func := "bellpull/bellpulllaw09.RopeAll", spec := "ropeAll", unfollowed := true, recurses := true, plainKeys := false, apart := false }
def RopeAllSaid : Prop := ropeAllRow.holds Try.pinned (OpenSpec.ofChange ropeAllSpec)

/-- ITS FALSE NEIGHBOUR: 'it returns false'. Refute it at one input. -/
def ropeAllWrong : ChangeSpec := { name := "ropeAll", fn := fun _ => fun
  | [d1, d2] => { results := [.lit (.bool false)], args := [d1, d2] }
  | _ => none }
def RopeAllWrongFalsely : Prop := ropeAllRow.holds Try.pinned (OpenSpec.ofChange ropeAllWrong)

/-- 'bellpulllaw09.RopeNumbers': WHATEVER THE INPUT: true; the input reads as it did. -/
def ropeNumbersSpec : ChangeSpec := { name := "ropeNumbers", fn := fun _ => fun
  | [d1, d2] => { results := [.lit (.bool true)], args := [d1, d2] }
  | _ => none }
def ropeNumbersRow : OpenClaim := { program := "ytahjgdikjaakbaa", sum := "68637cb5ff4bab52d6d03ccf06400029376996022c2671f2ea8ed20053394488", func := "bellpull/bellpulllaw09.RopeNumbers", spec := "ropeNumbers", unfollowed := true, recurses := true, plainKeys := false, apart := false }
def RopeNumbersSaid : Prop := ropeNumbersRow.holds Try.pinned (OpenSpec.ofChange ropeNumbersSpec)

/-- ITS FALSE NEIGHBOUR: 'it returns false'. Refute it at one input. -/
def ropeNumbersWrong : ChangeSpec := { name := "ropeNumbers", fn := fun _ => fun
  | [d1, d2] => { results := [.lit (.bool false)], args := [d1, d2] }
  | _ => none }
def RopeNumbersWrongFalsely : Prop := ropeNumbersRow.holds Try.pinned (OpenSpec.ofChange ropeNumbersWrong)

/-- 'bellpulllaw09.RopeQueue': WHATEVER THE INPUT: true; the input reads as it did. -/
def ropeQueueSpec : ChangeSpec := { name := "ropeQueue", fn := fun _ => fun
  | [d1, d2] => { results := [.lit (.bool true)], args := [d1, d2] }
  | _ => none }
def ropeQueueRow : OpenClaim := { program := "ytahjgdikjaakbaa", sum := "68637cb5ff4bab52d6d03ccf06400029376996022c2671f2ea8ed20053394488", func := "bellpull/bellpulllaw09.RopeQueue", spec := "ropeQueue", unfollowed := true, recurses := true, plainKeys := false, apart := false }
def RopeQueueSaid : Prop := ropeQueueRow.holds Try.pinned (OpenSpec.ofChange ropeQueueSpec)

/-- ITS FALSE NEIGHBOUR: 'it returns false'. Refute it at one input. -/
def ropeQueueWrong : ChangeSpec := { name := "ropeQueue", fn := fun _ => fun
  | [d1, d2] => { results := [.lit (.bool false)], args := [d1, d2] }
  | _ => none }
def RopeQueueWrongFalsely : Prop := ropeQueueRow.holds Try.pinned (OpenSpec.ofChange ropeQueueWrong)

/-- 'bellpulllaw09.RopeNews': WHATEVER THE INPUT: true; the input reads as it did. -/
def ropeNewsSpec : ChangeSpec := { name := "ropeNews", fn := fun _ => fun
  | [d1, d2] => { results := [.lit (.bool true)], args := [d1, d2] }
  | _ => none }
def ropeNewsRow : OpenClaim := { program := "ytahjgdikjaakbaa", sum := "68637cb5ff4bab52d6d03ccf06400029376996022c2671f2ea8ed20053394488", func := "bellpull/bellpulllaw09.RopeNews", spec := "ropeNews", unfollowed := true, recurses := true, plainKeys := false, apart := false }
def RopeNewsSaid : Prop := ropeNewsRow.holds Try.pinned (OpenSpec.ofChange ropeNewsSpec)

/-- ITS FALSE NEIGHBOUR: 'it returns false'. Refute it at one input. -/
def ropeNewsWrong : ChangeSpec := { name := "ropeNews", fn := fun _ => fun
  | [d1, d2] => { results := [.lit (.bool false)], args := [d1, d2] }
  | _ => none }
def RopeNewsWrongFalsely : Prop := ropeNewsRow.holds Try.pinned (OpenSpec.ofChange ropeNewsWrong)

/-- 'bellpulllaw09.RopeAlone': WHATEVER THE INPUT: true; the input reads as it did. -/
def ropeAloneSpec : ChangeSpec := { name := "ropeAlone", fn := fun _ => fun
  | [d1, d2] => { results := [.lit (.bool true)], args := [d1, d2] }
  | _ => none }
def ropeAloneRow : OpenClaim := { program := "ytahjgdikjaakbaa", sum := "68637cb5ff4bab52d6d03ccf06400029376996022c2671f2ea8ed20053394488", func := "bellpull/bellpulllaw09.RopeAlone", spec := "ropeAlone", unfollowed := true, recurses := true, plainKeys := false, apart := false }
def RopeAloneSaid : Prop := ropeAloneRow.holds Try.pinned (OpenSpec.ofChange ropeAloneSpec)

/-- ITS FALSE NEIGHBOUR: 'it returns false'. Refute it at one input. -/
def ropeAloneWrong : ChangeSpec := { name := "ropeAlone", fn := fun _ => fun
  | [d1, d2] => { results := [.lit (.bool false)], args := [d1, d2] }
  | _ => none }
def RopeAloneWrongFalsely : Prop := ropeAloneRow.holds Try.pinned (OpenSpec.ofChange ropeAloneWrong)

/-- 'bellpulllaw09.RopePlays': WHATEVER THE INPUT: true; the input reads as it did. -/
def ropePlaysSpec : ChangeSpec := { name := "ropePlays", fn := fun _ => fun
  | [d1, d2, d3] => { results := [.lit (.bool true)], args := [d1, d2, d3] }
  | _ => none }
def ropePlaysRow : OpenClaim := { program := "ytahjgdikjaakbaa", sum := "68637cb5ff4bab52d6d03ccf06400029376996022c2671f2ea8ed20053394488", func := "bellpull/bellpulllaw09.RopePlays", spec := "ropePlays", unfollowed := true, recurses := true, plainKeys := false, apart := false }
def RopePlaysSaid : Prop := ropePlaysRow.holds Try.pinned (OpenSpec.ofChange ropePlaysSpec)

/-- ITS FALSE NEIGHBOUR: 'it returns false'. Refute it at one input. -/
def ropePlaysWrong : ChangeSpec := { name := "ropePlays", fn := fun _ => fun
  | [d1, d2, d3] => { results := [.lit (.bool false)], args := [d1, d2, d3] }
  | _ => none }
def RopePlaysWrongFalsely : Prop := ropePlaysRow.holds Try.pinned (OpenSpec.ofChange ropePlaysWrong)

/-- 'bellpulllaw09.RopeCloned': WHATEVER THE INPUT: true; the input reads as it did. -/
def ropeClonedSpec : ChangeSpec := { name := "ropeCloned", fn := fun _ => fun
  | [d1, d2] => { results := [.lit (.bool true)], args := [d1, d2] }
  | _ => none }
def ropeClonedRow : OpenClaim := { program := "ytahjgdikjaakbaa", sum := "68637cb5ff4bab52d6d03ccf06400029376996022c2671f2ea8ed20053394488", func := "bellpull/bellpulllaw09.RopeCloned", spec := "ropeCloned", unfollowed := true, recurses := true, plainKeys := false, apart := false }
def RopeClonedSaid : Prop := ropeClonedRow.holds Try.pinned (OpenSpec.ofChange ropeClonedSpec)

/-- ITS FALSE NEIGHBOUR: 'it returns false'. Refute it at one input. -/
def ropeClonedWrong : ChangeSpec := { name := "ropeCloned", fn := fun _ => fun
  | [d1, d2] => { results := [.lit (.bool false)], args := [d1, d2] }
  | _ => none }
def RopeClonedWrongFalsely : Prop := ropeClonedRow.holds Try.pinned (OpenSpec.ofChange ropeClonedWrong)

/-- 'bellpulllaw09.RopeNobody': WHATEVER THE INPUT: true; the input reads as it did. -/
def ropeNobodySpec : ChangeSpec := { name := "ropeNobody", fn := fun _ => fun
  | [d1, d2] => { results := [.lit (.bool true)], args := [d1, d2] }
  | _ => none }
def ropeNobodyRow : OpenClaim := { program := "ytahjgdikjaakbaa", sum := "68637cb5ff4bab52d6d03ccf06400029376996022c2671f2ea8ed20053394488", func := "bellpull/bellpulllaw09.RopeNobody", spec := "ropeNobody", unfollowed := true, recurses := true, plainKeys := false, apart := false }
def RopeNobodySaid : Prop := ropeNobodyRow.holds Try.pinned (OpenSpec.ofChange ropeNobodySpec)

/-- ITS FALSE NEIGHBOUR: 'it returns false'. Refute it at one input. -/
def ropeNobodyWrong : ChangeSpec := { name := "ropeNobody", fn := fun _ => fun
  | [d1, d2] => { results := [.lit (.bool false)], args := [d1, d2] }
  | _ => none }
def RopeNobodyWrongFalsely : Prop := ropeNobodyRow.holds Try.pinned (OpenSpec.ofChange ropeNobodyWrong)

/- THE SECOND FORM. 'bulk': how many values and letters a reading holds, each counted each time it is reached (what is shared counts as often as it is met; a slice's spare places count too). A statement '..UptoSaid' is the law's where the arguments, and the package variables that the reading takes, are together of bulk at most 1048576: NARROWER than '..Said'. Prove '..Said' where nothing that the law and all that it calls make is longer than what came in: it says more and counts as full. Else prove '..UptoSaid'. A law counts once. -/
mutual
def uptoBulk {H : Type} : DataW H → Nat
  | .lit (.string bytes) => bytes.length + 1
  | .lit _ => 1
  | .nil => 1
  | .ptr d => uptoBulk d + 1
  | .slice elems spare => uptoBulkAll elems + uptoBulkAll spare + 1
  | .agg parts => uptoBulkAll parts + 1
  | .iface _ d => uptoBulk d + 1
  | .map entries => uptoBulkEntries entries + 1
  | .held _ => 1
def uptoBulkAll {H : Type} : List (DataW H) → Nat
  | [] => 0
  | d :: r => uptoBulk d + uptoBulkAll r
def uptoBulkEntries {H : Type} : List (Lit × DataW H) → Nat
  | [] => 0
  | x :: r => uptoBulkEntry x + uptoBulkEntries r
def uptoBulkEntry {H : Type} : Lit × DataW H → Nat
  | (.string bytes, d) => bytes.length + uptoBulk d + 1
  | (_, d) => uptoBulk d + 1
 end
def uptoSmall : (H : Type) → List (DataW H) → Bool := fun _ ds => decide (uptoBulkAll ds ≤ 1048576)
def OpenSpec.upto (s : _root_.Go.ChangeSpec) : _root_.Go.OpenSpec := { _root_.Go.OpenSpec.ofChange s with cond := some uptoSmall }

/-- 'bellpulllaw09.RopeExclusion', WHERE WHAT IT READS IS OF BULK AT MOST 1048576: true; the input reads as it did. -/
def ropeExclusionUptoRow : OpenClaim := { program := "ytahjgdikjaakbaa", sum := "68637cb5ff4bab52d6d03ccf06400029376996022c2671f2ea8ed20053394488", func := "bellpull/bellpulllaw09.RopeExclusion", spec := "ropeExclusion", unfollowed := true, recurses := true, plainKeys := false, apart := false, narrowed := true }
def RopeExclusionUptoSaid : Prop := ropeExclusionUptoRow.holds Try.pinned (OpenSpec.upto ropeExclusionSpec)

/-- 'bellpulllaw09.RopeFew', WHERE WHAT IT READS IS OF BULK AT MOST 1048576: true; the input reads as it did. -/
def ropeFewUptoRow : OpenClaim := { program := "ytahjgdikjaakbaa", sum := "68637cb5ff4bab52d6d03ccf06400029376996022c2671f2ea8ed20053394488", func := "bellpull/bellpulllaw09.RopeFew", spec := "ropeFew", unfollowed := true, recurses := true, plainKeys := false, apart := false, narrowed := true }
def RopeFewUptoSaid : Prop := ropeFewUptoRow.holds Try.pinned (OpenSpec.upto ropeFewSpec)

/-- 'bellpulllaw09.RopeAll', WHERE WHAT IT READS IS OF BULK AT MOST 1048576: true; the input reads as it did. -/
def ropeAllUptoRow : OpenClaim := { program := "ytahjgdikjaakbaa", sum := "68637cb5ff4bab52d6d03ccf06400029376996022c2671f2ea8ed20053394488", func := "bellpull/bellpulllaw09.RopeAll", spec := "ropeAll", unfollowed := true, recurses := true, plainKeys := false, apart := false, narrowed := true }
def RopeAllUptoSaid : Prop := ropeAllUptoRow.holds Try.pinned (OpenSpec.upto ropeAllSpec)

/-- 'bellpulllaw09.RopeNumbers', WHERE WHAT IT READS IS OF BULK AT MOST 1048576: true; the input reads as it did. -/
def ropeNumbersUptoRow : OpenClaim := { program := "ytahjgdikjaakbaa", sum := "68637cb5ff4bab52d6d03ccf06400029376996022c2671f2ea8ed20053394488", func := "bellpull/bellpulllaw09.RopeNumbers", spec := "ropeNumbers", unfollowed := true, recurses := true, plainKeys := false, apart := false, narrowed := true }
def RopeNumbersUptoSaid : Prop := ropeNumbersUptoRow.holds Try.pinned (OpenSpec.upto ropeNumbersSpec)

/-- 'bellpulllaw09.RopeQueue', WHERE WHAT IT READS IS OF BULK AT MOST 1048576: true; the input reads as it did. -/
def ropeQueueUptoRow : OpenClaim := { program := "ytahjgdikjaakbaa", sum := "68637cb5ff4bab52d6d03ccf06400029376996022c2671f2ea8ed20053394488", func := "bellpull/bellpulllaw09.RopeQueue", spec := "ropeQueue", unfollowed := true, recurses := true, plainKeys := false, apart := false, narrowed := true }
def RopeQueueUptoSaid : Prop := ropeQueueUptoRow.holds Try.pinned (OpenSpec.upto ropeQueueSpec)

/-- 'bellpulllaw09.RopeNews', WHERE WHAT IT READS IS OF BULK AT MOST 1048576: true; the input reads as it did. -/
def ropeNewsUptoRow : OpenClaim := { program := "ytahjgdikjaakbaa", sum := "68637cb5ff4bab52d6d03ccf06400029376996022c2671f2ea8ed20053394488", func := "bellpull/bellpulllaw09.RopeNews", spec := "ropeNews", unfollowed := true, recurses := true, plainKeys := false, apart := false, narrowed := true }
def RopeNewsUptoSaid : Prop := ropeNewsUptoRow.holds Try.pinned (OpenSpec.upto ropeNewsSpec)

/-- 'bellpulllaw09.RopeAlone', WHERE WHAT IT READS IS OF BULK AT MOST 1048576: true; the input reads as it did. -/
def ropeAloneUptoRow : OpenClaim := { program := "ytahjgdikjaakbaa", sum := "68637cb5ff4bab52d6d03ccf06400029376996022c2671f2ea8ed20053394488", func := "bellpull/bellpulllaw09.RopeAlone", spec := "ropeAlone", unfollowed := true, recurses := true, plainKeys := false, apart := false, narrowed := true }
def RopeAloneUptoSaid : Prop := ropeAloneUptoRow.holds Try.pinned (OpenSpec.upto ropeAloneSpec)

/-- 'bellpulllaw09.RopePlays', WHERE WHAT IT READS IS OF BULK AT MOST 1048576: true; the input reads as it did. -/
def ropePlaysUptoRow : OpenClaim := { program := "ytahjgdikjaakbaa", sum := "68637cb5ff4bab52d6d03ccf06400029376996022c2671f2ea8ed20053394488", func := "bellpull/bellpulllaw09.RopePlays", spec := "ropePlays", unfollowed := true, recurses := true, plainKeys := false, apart := false, narrowed := true }
def RopePlaysUptoSaid : Prop := ropePlaysUptoRow.holds Try.pinned (OpenSpec.upto ropePlaysSpec)

/-- 'bellpulllaw09.RopeCloned', WHERE WHAT IT READS IS OF BULK AT MOST 1048576: true; the input reads as it did. -/
def ropeClonedUptoRow : OpenClaim := { program := "ytahjgdikjaakbaa", sum := "68637cb5ff4bab52d6d03ccf06400029376996022c2671f2ea8ed20053394488", func := "bellpull/bellpulllaw09.RopeCloned", spec := "ropeCloned", unfollowed := true, recurses := true, plainKeys := false, apart := false, narrowed := true }
def RopeClonedUptoSaid : Prop := ropeClonedUptoRow.holds Try.pinned (OpenSpec.upto ropeClonedSpec)

/-- 'bellpulllaw09.RopeNobody', WHERE WHAT IT READS IS OF BULK AT MOST 1048576: true; the input reads as it did. -/
def ropeNobodyUptoRow : OpenClaim := { program := "ytahjgdikjaakbaa", sum := "68637cb5ff4bab52d6d03ccf06400029376996022c2671f2ea8ed20053394488", func := "bellpull/bellpulllaw09.RopeNobody", spec := "ropeNobody", unfollowed := true, recurses := true, plainKeys := false, apart := false, narrowed := true }
def RopeNobodyUptoSaid : Prop := ropeNobodyUptoRow.holds Try.pinned (OpenSpec.upto ropeNobodySpec)

end Rows
end Go.Proofs.Ytahjgdikjaakbaa
