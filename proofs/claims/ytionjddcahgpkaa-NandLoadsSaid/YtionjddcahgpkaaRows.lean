/-
  No cell of these rows narrows 'for every input' (looked for: loops, veiled, ifaces, maps, wideKeys, modest, calm, conditions, laid).
  DERIVED. THE GIVEN ROWS OF THIS SEAT. 4 by the template 'for every input the law returns true; each argument reads behind the call as it read before'; 0 by the template 'total and deterministic' (their statements: YtionjddcahgpkaaTotals.lean).
  GIVEN WITH THE SEED: the statements are not yours to turn. If you find one false, say at which input.
  Laid BY PROGRAM, IN A SANDBOX (cutbox-rows.mjs): the forced cells as the released guide's own fill.sh prints them over the translation 524ae44c105dc993… (all of the seat's roots in one cut). By AI agents, Wed Nov 11 2026. No macro, syntax, notation, axiom, sorry.
-/
import Derived.Test.YtionjddcahgpkaaChecked
import GoSem.Claim
import GoSem.ClaimJoined
import GoSem.ClaimMapViews
import Derived.JoinedTies
import Derived.KernelRfl
namespace Go.Proofs.Ytionjddcahgpkaa
/- THE CELL 'sum', in the pinned program and in every row, IS THE sha256 OF THE DUMP (.gsa) THAT YtionjddcahgpkaaProg.lean LOADS. Nothing in Lean hashes anything: it is a label: what it is worth is what the hold of that sum in a sandbox is worth. -/
noncomputable def Try.pinned : Pinned := { name := "ytionjddcahgpkaa", sum := "524ae44c105dc99343b604770b054674292775038e0ae74f240f394e1897160f", checked := Try.checked }
namespace Rows
def none {H : Type} : Left H := { results := [], args := [] }

/-- 'garretlaw05.NandStays': WHATEVER THE INPUT: true; the input reads as it did. -/
def nandStaysSpec : ChangeSpec := { name := "nandStays", fn := fun _ => fun
  | [d1, d2, d3] => { results := [.lit (.bool true)], args := [d1, d2, d3] }
  | _ => none }
def nandStaysRow : OpenClaim := { program := "ytionjddcahgpkaa", sum := "524ae44c105dc99343b604770b054674292775038e0ae74f240f394e1897160f", func := "garret/garretlaw05.NandStays", spec := "nandStays", inPlace := ["internal/bytealg.MakeNoZero"], unfollowed := true, recurses := true, plainKeys := false, apart := false }
def NandStaysSaid : Prop := nandStaysRow.holds Try.pinned (OpenSpec.ofChange nandStaysSpec)

/-- ITS FALSE NEIGHBOUR: 'it returns false'. Refute it at one input. -/
def nandStaysWrong : ChangeSpec := { name := "nandStays", fn := fun _ => fun
  | [d1, d2, d3] => { results := [.lit (.bool false)], args := [d1, d2, d3] }
  | _ => none }
def NandStaysWrongFalsely : Prop := nandStaysRow.holds Try.pinned (OpenSpec.ofChange nandStaysWrong)

/-- 'garretlaw05.NandTorn': WHATEVER THE INPUT: true; the input reads as it did. -/
def nandTornSpec : ChangeSpec := { name := "nandTorn", fn := fun _ => fun
  | [d1, d2, d3] => { results := [.lit (.bool true)], args := [d1, d2, d3] }
  | _ => none }
def nandTornRow : OpenClaim := { program := "ytionjddcahgpkaa", sum := "524ae44c105dc99343b604770b054674292775038e0ae74f240f394e1897160f", func := "garret/garretlaw05.NandTorn", spec := "nandTorn", inPlace := ["internal/bytealg.MakeNoZero"], unfollowed := true, recurses := true, plainKeys := false, apart := false }
def NandTornSaid : Prop := nandTornRow.holds Try.pinned (OpenSpec.ofChange nandTornSpec)

/-- ITS FALSE NEIGHBOUR: 'it returns false'. Refute it at one input. -/
def nandTornWrong : ChangeSpec := { name := "nandTorn", fn := fun _ => fun
  | [d1, d2, d3] => { results := [.lit (.bool false)], args := [d1, d2, d3] }
  | _ => none }
def NandTornWrongFalsely : Prop := nandTornRow.holds Try.pinned (OpenSpec.ofChange nandTornWrong)

/-- 'garretlaw05.NandPlays': WHATEVER THE INPUT: true; the input reads as it did. -/
def nandPlaysSpec : ChangeSpec := { name := "nandPlays", fn := fun _ => fun
  | [d1, d2, d3] => { results := [.lit (.bool true)], args := [d1, d2, d3] }
  | _ => none }
def nandPlaysRow : OpenClaim := { program := "ytionjddcahgpkaa", sum := "524ae44c105dc99343b604770b054674292775038e0ae74f240f394e1897160f", func := "garret/garretlaw05.NandPlays", spec := "nandPlays", inPlace := ["internal/bytealg.MakeNoZero"], unfollowed := true, recurses := true, plainKeys := false, apart := false }
def NandPlaysSaid : Prop := nandPlaysRow.holds Try.pinned (OpenSpec.ofChange nandPlaysSpec)

/-- ITS FALSE NEIGHBOUR: 'it returns false'. Refute it at one input. -/
def nandPlaysWrong : ChangeSpec := { name := "nandPlays", fn := fun _ => fun
  | [d1, d2, d3] => { results := [.lit (.bool false)], args := [d1, d2, d3] }
  | _ => none }
def NandPlaysWrongFalsely : Prop := nandPlaysRow.holds Try.pinned (OpenSpec.ofChange nandPlaysWrong)

/-- 'garretlaw05.NandLoads': WHATEVER THE INPUT: true; the input reads as it did. -/
def nandLoadsSpec : ChangeSpec := { name := "nandLoads", fn := fun _ => fun
  | [d1, d2, d3] => { results := [.lit (.bool true)], args := [d1, d2, d3] }
  | _ => none }
def nandLoadsRow : OpenClaim := { program := "ytionjddcahgpkaa", sum := "524ae44c105dc99343b604770b054674292775038e0ae74f240f394e1897160f", func := "garret/garretlaw05.NandLoads", spec := "nandLoads", inPlace := ["internal/bytealg.MakeNoZero"], unfollowed := true, recurses := true, plainKeys := false, apart := false }
def NandLoadsSaid : Prop := nandLoadsRow.holds Try.pinned (OpenSpec.ofChange nandLoadsSpec)

/-- ITS FALSE NEIGHBOUR: 'it returns false'. Refute it at one input. -/
def nandLoadsWrong : ChangeSpec := { name := "nandLoads", fn := fun _ => fun
  | [d1, d2, d3] => { results := [.lit (.bool false)], args := [d1, d2, d3] }
  | _ => none }
def NandLoadsWrongFalsely : Prop := nandLoadsRow.holds Try.pinned (OpenSpec.ofChange nandLoadsWrong)

/- THE SECOND FORM. 'bulk': how many values and letters a reading holds, each counted each time it is reached (what is shared counts as often as it is met; a slice's spare places count too). A statement '..UptoSaid' is the law's where the arguments, and the package variables that the reading takes, are together of bulk at most 1048576: NARROWER than '..Said'. Prove '..Said' where nothing that the law and all that it calls make is longer than what came in: it says more and counts as full. Else prove '..UptoSaid'. A law counts once. -/
mutual
def uptoBulk {H : Type} : DataW H → Nat
  | .lit (.string bytes) => bytes.length + 1
  | .lit _ => 1
  | .nil => 1
  | .ptr d => uptoBulk d + 1
  | .slice elems spare => uptoBulkAll elems + uptoBulkAll spare + 1
  | .agg parts => uptoBulkAll parts + 1
  | .iface _ d => uptoBulk d + 1
  | .map entries => uptoBulkEntries entries + 1
  | .held _ => 1
def uptoBulkAll {H : Type} : List (DataW H) → Nat
  | [] => 0
  | d :: r => uptoBulk d + uptoBulkAll r
def uptoBulkEntries {H : Type} : List (Lit × DataW H) → Nat
  | [] => 0
  | x :: r => uptoBulkEntry x + uptoBulkEntries r
def uptoBulkEntry {H : Type} : Lit × DataW H → Nat
  | (.string bytes, d) => bytes.length + uptoBulk d + 1
  | (_, d) => uptoBulk d + 1
 end
def uptoSmall : (H : Type) → List (DataW H) → Bool := fun _ ds => decide (uptoBulkAll ds ≤ 1048576)
def OpenSpec.upto (s : _root_.Go.ChangeSpec) : _root_.Go.OpenSpec := { _root_.Go.OpenSpec.ofChange s with cond := some uptoSmall }

/-- 'garretlaw05.NandStays', WHERE WHAT IT READS IS OF BULK AT MOST 1048576: true; the input reads as it did. -/
def nandStaysUptoRow : OpenClaim := { program := "ytionjddcahgpkaa", sum := "524ae44c105dc99343b604770b054674292775038e0ae74f240f394e1897160f", func := "garret/garretlaw05.NandStays", spec := "nandStays", inPlace := ["internal/bytealg.MakeNoZero"], unfollowed := true, recurses := true, plainKeys := false, apart := false, narrowed := true }
def NandStaysUptoSaid : Prop := nandStaysUptoRow.holds Try.pinned (OpenSpec.upto nandStaysSpec)

/-- 'garretlaw05.NandTorn', WHERE WHAT IT READS IS OF BULK AT MOST 1048576: true; the input reads as it did. -/
def nandTornUptoRow : OpenClaim := { program := "ytionjddcahgpkaa", sum := "524ae44c105dc99343b604770b054674292775038e0ae74f240f394e1897160f", func := "garret/garretlaw05.NandTorn", spec := "nandTorn", inPlace := ["internal/bytealg.MakeNoZero"], unfollowed := true, recurses := true, plainKeys := false, apart := false, narrowed := true }
def NandTornUptoSaid : Prop := nandTornUptoRow.holds Try.pinned (OpenSpec.upto nandTornSpec)

/-- 'garretlaw05.NandPlays', WHERE WHAT IT READS IS OF BULK AT MOST 1048576: true; the input reads as it did. -/
def nandPlaysUptoRow : OpenClaim := { program := "ytionjddcahgpkaa", sum := "524ae44c105dc99343b604770b054674292775038e0ae74f240f394e1897160f", func := "garret/garretlaw05.NandPlays", spec := "nandPlays", inPlace := ["internal/bytealg.MakeNoZero"], unfollowed := true, recurses := true, plainKeys := false, apart := false, narrowed := true }
def NandPlaysUptoSaid : Prop := nandPlaysUptoRow.holds Try.pinned (OpenSpec.upto nandPlaysSpec)

/-- 'garretlaw05.NandLoads', WHERE WHAT IT READS IS OF BULK AT MOST 1048576: true; the input reads as it did. -/
def nandLoadsUptoRow : OpenClaim := { program := "ytionjddcahgpkaa", sum := "524ae44c105dc99343b604770b054674292775038e0ae74f240f394e1897160f", func := "garret/garretlaw05.NandLoads", spec := "nandLoads", inPlace := ["internal/bytealg.MakeNoZero"], unfollowed := true, recurses := true, plainKeys := false, apart := false, narrowed := true }
def NandLoadsUptoSaid : Prop := nandLoadsUptoRow.holds Try.pinned (OpenSpec.upto nandLoadsSpec)

end Rows
end Go.Proofs.Ytionjddcahgpkaa
