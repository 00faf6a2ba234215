/-
  No cell of these rows narrows 'for every input' (looked for: loops, veiled, ifaces, maps, wideKeys, modest, calm, conditions, laid).
  DERIVED. THE GIVEN ROWS OF THIS SEAT. 12 by the template 'for every input the law returns true; each argument reads behind the call as it read before'; 0 by the template 'total and deterministic' (their statements: YtdieeleaaejfhaaTotals.lean).
  GIVEN WITH THE SEED: the statements are not yours to turn. If you find one false, say at which input.
  Laid BY PROGRAM, IN A SANDBOX (cutbox-rows.mjs): the forced cells as the released guide's own fill.sh prints them over the translation 13f843aba60a38ac… (all of the seat's roots in one cut). By AI agents, Wed Nov 11 2026. No macro, syntax, notation, axiom, sorry.
-/
import Derived.Test.YtdieeleaaejfhaaChecked
import GoSem.Claim
import GoSem.ClaimJoined
import GoSem.ClaimMapViews
import Derived.JoinedTies
import Derived.KernelRfl
namespace Go.Proofs.Ytdieeleaaejfhaa
/- THE CELL 'sum', in the pinned program and in every row, IS THE sha256 OF THE DUMP (.gsa) THAT YtdieeleaaejfhaaProg.lean LOADS. Nothing in Lean hashes anything: it is a label: what it is worth is what the hold of that sum in a sandbox is worth. -/
noncomputable def Try.pinned : Pinned := { name := "ytdieeleaaejfhaa", sum := "13f843aba60a38ac049d4cab28d61493a1319e055ec97ba3a782f5a9cde62a03", checked := Try.checked }
namespace Rows
def none {H : Type} : Left H := { results := [], args := [] }

/-- 'garretlaw03.PowerPlays': WHATEVER THE INPUT: true; the input reads as it did. -/
def powerPlaysSpec : ChangeSpec := { name := "powerPlays", fn := fun _ => fun
  | [d] => { results := [.lit (.bool true)], args := [d] }
  | _ => none }
def powerPlaysRow : OpenClaim := { program := "ytdieeleaaejfhaa", sum := "13f843aba60a38ac049d4cab28d61493a1319e055ec97ba3a782f5a9cde62a03", func := "garret/garretlaw03.PowerPlays", spec := "powerPlays", plainKeys := false, apart := false }
def PowerPlaysSaid : Prop := powerPlaysRow.holds Try.pinned (OpenSpec.ofChange powerPlaysSpec)

/-- ITS FALSE NEIGHBOUR: 'it returns false'. Refute it at one input. -/
def powerPlaysWrong : ChangeSpec := { name := "powerPlays", fn := fun _ => fun
  | [d] => { results := [.lit (.bool false)], args := [d] }
  | _ => none }
def PowerPlaysWrongFalsely : Prop := powerPlaysRow.holds Try.pinned (OpenSpec.ofChange powerPlaysWrong)

/-- 'garretlaw03.PowerCuts': WHATEVER THE INPUT: true; the input reads as it did. -/
def powerCutsSpec : ChangeSpec := { name := "powerCuts", fn := fun _ => fun
  | [d1, d2, d3] => { results := [.lit (.bool true)], args := [d1, d2, d3] }
  | _ => none }
def powerCutsRow : OpenClaim := { program := "ytdieeleaaejfhaa", sum := "13f843aba60a38ac049d4cab28d61493a1319e055ec97ba3a782f5a9cde62a03", func := "garret/garretlaw03.PowerCuts", spec := "powerCuts", plainKeys := false, apart := false }
def PowerCutsSaid : Prop := powerCutsRow.holds Try.pinned (OpenSpec.ofChange powerCutsSpec)

/-- ITS FALSE NEIGHBOUR: 'it returns false'. Refute it at one input. -/
def powerCutsWrong : ChangeSpec := { name := "powerCuts", fn := fun _ => fun
  | [d1, d2, d3] => { results := [.lit (.bool false)], args := [d1, d2, d3] }
  | _ => none }
def PowerCutsWrongFalsely : Prop := powerCutsRow.holds Try.pinned (OpenSpec.ofChange powerCutsWrong)

/-- 'garretlaw03.PowerCounts': WHATEVER THE INPUT: true; the input reads as it did. -/
def powerCountsSpec : ChangeSpec := { name := "powerCounts", fn := fun _ => fun
  | [d1, d2, d3] => { results := [.lit (.bool true)], args := [d1, d2, d3] }
  | _ => none }
def powerCountsRow : OpenClaim := { program := "ytdieeleaaejfhaa", sum := "13f843aba60a38ac049d4cab28d61493a1319e055ec97ba3a782f5a9cde62a03", func := "garret/garretlaw03.PowerCounts", spec := "powerCounts", plainKeys := false, apart := false }
def PowerCountsSaid : Prop := powerCountsRow.holds Try.pinned (OpenSpec.ofChange powerCountsSpec)

/-- ITS FALSE NEIGHBOUR: 'it returns false'. Refute it at one input. -/
def powerCountsWrong : ChangeSpec := { name := "powerCounts", fn := fun _ => fun
  | [d1, d2, d3] => { results := [.lit (.bool false)], args := [d1, d2, d3] }
  | _ => none }
def PowerCountsWrongFalsely : Prop := powerCountsRow.holds Try.pinned (OpenSpec.ofChange powerCountsWrong)

/-- 'garretlaw06.TagTells': WHATEVER THE INPUT: true; the input reads as it did. -/
def tagTellsSpec : ChangeSpec := { name := "tagTells", fn := fun _ => fun
  | [d1, d2, d3, d4, d5] => { results := [.lit (.bool true)], args := [d1, d2, d3, d4, d5] }
  | _ => none }
def tagTellsRow : OpenClaim := { program := "ytdieeleaaejfhaa", sum := "13f843aba60a38ac049d4cab28d61493a1319e055ec97ba3a782f5a9cde62a03", func := "garret/garretlaw06.TagTells", spec := "tagTells", plainKeys := false, apart := false }
def TagTellsSaid : Prop := tagTellsRow.holds Try.pinned (OpenSpec.ofChange tagTellsSpec)

/-- ITS FALSE NEIGHBOUR: 'it returns false'. Refute it at one input. -/
def tagTellsWrong : ChangeSpec := { name := "tagTells", fn := fun _ => fun
  | [d1, d2, d3, d4, d5] => { results := [.lit (.bool false)], args := [d1, d2, d3, d4, d5] }
  | _ => none }
def TagTellsWrongFalsely : Prop := tagTellsRow.holds Try.pinned (OpenSpec.ofChange tagTellsWrong)

/-- 'garretlaw06.TagBack': WHATEVER THE INPUT: true; the input reads as it did. -/
def tagBackSpec : ChangeSpec := { name := "tagBack", fn := fun _ => fun
  | [d1, d2, d3, d4, d5, d6] => { results := [.lit (.bool true)], args := [d1, d2, d3, d4, d5, d6] }
  | _ => none }
def tagBackRow : OpenClaim := { program := "ytdieeleaaejfhaa", sum := "13f843aba60a38ac049d4cab28d61493a1319e055ec97ba3a782f5a9cde62a03", func := "garret/garretlaw06.TagBack", spec := "tagBack", plainKeys := false, apart := false }
def TagBackSaid : Prop := tagBackRow.holds Try.pinned (OpenSpec.ofChange tagBackSpec)

/-- ITS FALSE NEIGHBOUR: 'it returns false'. Refute it at one input. -/
def tagBackWrong : ChangeSpec := { name := "tagBack", fn := fun _ => fun
  | [d1, d2, d3, d4, d5, d6] => { results := [.lit (.bool false)], args := [d1, d2, d3, d4, d5, d6] }
  | _ => none }
def TagBackWrongFalsely : Prop := tagBackRow.holds Try.pinned (OpenSpec.ofChange tagBackWrong)

/-- 'garretlaw06.TagBounds': WHATEVER THE INPUT: true; the input reads as it did. -/
def tagBoundsSpec : ChangeSpec := { name := "tagBounds", fn := fun _ => fun
  | [d1, d2, d3] => { results := [.lit (.bool true)], args := [d1, d2, d3] }
  | _ => none }
def tagBoundsRow : OpenClaim := { program := "ytdieeleaaejfhaa", sum := "13f843aba60a38ac049d4cab28d61493a1319e055ec97ba3a782f5a9cde62a03", func := "garret/garretlaw06.TagBounds", spec := "tagBounds", plainKeys := false, apart := false }
def TagBoundsSaid : Prop := tagBoundsRow.holds Try.pinned (OpenSpec.ofChange tagBoundsSpec)

/-- ITS FALSE NEIGHBOUR: 'it returns false'. Refute it at one input. -/
def tagBoundsWrong : ChangeSpec := { name := "tagBounds", fn := fun _ => fun
  | [d1, d2, d3] => { results := [.lit (.bool false)], args := [d1, d2, d3] }
  | _ => none }
def TagBoundsWrongFalsely : Prop := tagBoundsRow.holds Try.pinned (OpenSpec.ofChange tagBoundsWrong)

/-- 'garretlaw06.TagEach': WHATEVER THE INPUT: true; the input reads as it did. -/
def tagEachSpec : ChangeSpec := { name := "tagEach", fn := fun _ => fun
  | [d1, d2] => { results := [.lit (.bool true)], args := [d1, d2] }
  | _ => none }
def tagEachRow : OpenClaim := { program := "ytdieeleaaejfhaa", sum := "13f843aba60a38ac049d4cab28d61493a1319e055ec97ba3a782f5a9cde62a03", func := "garret/garretlaw06.TagEach", spec := "tagEach", plainKeys := false, apart := false }
def TagEachSaid : Prop := tagEachRow.holds Try.pinned (OpenSpec.ofChange tagEachSpec)

/-- ITS FALSE NEIGHBOUR: 'it returns false'. Refute it at one input. -/
def tagEachWrong : ChangeSpec := { name := "tagEach", fn := fun _ => fun
  | [d1, d2] => { results := [.lit (.bool false)], args := [d1, d2] }
  | _ => none }
def TagEachWrongFalsely : Prop := tagEachRow.holds Try.pinned (OpenSpec.ofChange tagEachWrong)

/-- 'garretlaw13.PackTells': WHATEVER THE INPUT: true; the input reads as it did. -/
def packTellsSpec : ChangeSpec := { name := "packTells", fn := fun _ => fun
  | [d1, d2] => { results := [.lit (.bool true)], args := [d1, d2] }
  | _ => none }
def packTellsRow : OpenClaim := { program := "ytdieeleaaejfhaa", sum := "13f843aba60a38ac049d4cab28d61493a1319e055ec97ba3a782f5a9cde62a03", func := "garret/garretlaw13.PackTells", spec := "packTells", unfollowed := true, recurses := true, plainKeys := false, apart := false }
def PackTellsSaid : Prop := packTellsRow.holds Try.pinned (OpenSpec.ofChange packTellsSpec)

/-- ITS FALSE NEIGHBOUR: 'it returns false'. Refute it at one input. -/
def packTellsWrong : ChangeSpec := { name := "packTells", fn := fun _ => fun
  | [d1, d2] => { results := [.lit (.bool false)], args := [d1, d2] }
  | _ => none }
def PackTellsWrongFalsely : Prop := packTellsRow.holds Try.pinned (OpenSpec.ofChange packTellsWrong)

/-- 'garretlaw13.PackBack': WHATEVER THE INPUT: true; the input reads as it did. -/
def packBackSpec : ChangeSpec := { name := "packBack", fn := fun _ => fun
  | [d1, d2, d3] => { results := [.lit (.bool true)], args := [d1, d2, d3] }
  | _ => none }
def packBackRow : OpenClaim := { program := "ytdieeleaaejfhaa", sum := "13f843aba60a38ac049d4cab28d61493a1319e055ec97ba3a782f5a9cde62a03", func := "garret/garretlaw13.PackBack", spec := "packBack", unfollowed := true, recurses := true, plainKeys := false, apart := false }
def PackBackSaid : Prop := packBackRow.holds Try.pinned (OpenSpec.ofChange packBackSpec)

/-- ITS FALSE NEIGHBOUR: 'it returns false'. Refute it at one input. -/
def packBackWrong : ChangeSpec := { name := "packBack", fn := fun _ => fun
  | [d1, d2, d3] => { results := [.lit (.bool false)], args := [d1, d2, d3] }
  | _ => none }
def PackBackWrongFalsely : Prop := packBackRow.holds Try.pinned (OpenSpec.ofChange packBackWrong)

/-- 'garretlaw13.PackJoins': WHATEVER THE INPUT: true; the input reads as it did. -/
def packJoinsSpec : ChangeSpec := { name := "packJoins", fn := fun _ => fun
  | [d1, d2, d3] => { results := [.lit (.bool true)], args := [d1, d2, d3] }
  | _ => none }
def packJoinsRow : OpenClaim := { program := "ytdieeleaaejfhaa", sum := "13f843aba60a38ac049d4cab28d61493a1319e055ec97ba3a782f5a9cde62a03", func := "garret/garretlaw13.PackJoins", spec := "packJoins", plainKeys := false, apart := false }
def PackJoinsSaid : Prop := packJoinsRow.holds Try.pinned (OpenSpec.ofChange packJoinsSpec)

/-- ITS FALSE NEIGHBOUR: 'it returns false'. Refute it at one input. -/
def packJoinsWrong : ChangeSpec := { name := "packJoins", fn := fun _ => fun
  | [d1, d2, d3] => { results := [.lit (.bool false)], args := [d1, d2, d3] }
  | _ => none }
def PackJoinsWrongFalsely : Prop := packJoinsRow.holds Try.pinned (OpenSpec.ofChange packJoinsWrong)

/-- 'garretlaw13.PackLists': WHATEVER THE INPUT: true; the input reads as it did. -/
def packListsSpec : ChangeSpec := { name := "packLists", fn := fun _ => fun
  | [d1, d2] => { results := [.lit (.bool true)], args := [d1, d2] }
  | _ => none }
def packListsRow : OpenClaim := { program := "ytdieeleaaejfhaa", sum := "13f843aba60a38ac049d4cab28d61493a1319e055ec97ba3a782f5a9cde62a03", func := "garret/garretlaw13.PackLists", spec := "packLists", plainKeys := false, apart := false }
def PackListsSaid : Prop := packListsRow.holds Try.pinned (OpenSpec.ofChange packListsSpec)

/-- ITS FALSE NEIGHBOUR: 'it returns false'. Refute it at one input. -/
def packListsWrong : ChangeSpec := { name := "packLists", fn := fun _ => fun
  | [d1, d2] => { results := [.lit (.bool false)], args := [d1, d2] }
  | _ => none }
def PackListsWrongFalsely : Prop := packListsRow.holds Try.pinned (OpenSpec.ofChange packListsWrong)

/-- 'garretlaw13.PackWide': WHATEVER THE INPUT: true; the input reads as it did. -/
def packWideSpec : ChangeSpec := { name := "packWide", fn := fun _ => fun
  | [d1, d2] => { results := [.lit (.bool true)], args := [d1, d2] }
  | _ => none }
def packWideRow : OpenClaim := { program := "ytdieeleaaejfhaa", sum := "13f843aba60a38ac049d4cab28d61493a1319e055ec97ba3a782f5a9cde62a03", func := "garret/garretlaw13.PackWide", spec := "packWide", unfollowed := true, recurses := true, plainKeys := false, apart := false }
def PackWideSaid : Prop := packWideRow.holds Try.pinned (OpenSpec.ofChange packWideSpec)

/-- ITS FALSE NEIGHBOUR: 'it returns false'. Refute it at one input. -/
def packWideWrong : ChangeSpec := { name := "packWide", fn := fun _ => fun
  | [d1, d2] => { results := [.lit (.bool false)], args := [d1, d2] }
  | _ => none }
def PackWideWrongFalsely : Prop := packWideRow.holds Try.pinned (OpenSpec.ofChange packWideWrong)

/- THE SECOND FORM. 'bulk': how many values and letters a reading holds, each counted each time it is reached (what is shared counts as often as it is met; a slice's spare places count too). A statement '..UptoSaid' is the law's where the arguments, and the package variables that the reading takes, are together of bulk at most 1048576: NARROWER than '..Said'. Prove '..Said' where nothing that the law and all that it calls make is longer than what came in: it says more and counts as full. Else prove '..UptoSaid'. A law counts once. -/
mutual
def uptoBulk {H : Type} : DataW H → Nat
  | .lit (.string bytes) => bytes.length + 1
  | .lit _ => 1
  | .nil => 1
  | .ptr d => uptoBulk d + 1
  | .slice elems spare => uptoBulkAll elems + uptoBulkAll spare + 1
  | .agg parts => uptoBulkAll parts + 1
  | .iface _ d => uptoBulk d + 1
  | .map entries => uptoBulkEntries entries + 1
  | .held _ => 1
def uptoBulkAll {H : Type} : List (DataW H) → Nat
  | [] => 0
  | d :: r => uptoBulk d + uptoBulkAll r
def uptoBulkEntries {H : Type} : List (Lit × DataW H) → Nat
  | [] => 0
  | x :: r => uptoBulkEntry x + uptoBulkEntries r
def uptoBulkEntry {H : Type} : Lit × DataW H → Nat
  | (.string bytes, d) => bytes.length + uptoBulk d + 1
  | (_, d) => uptoBulk d + 1
 end
def uptoSmall : (H : Type) → List (DataW H) → Bool := fun _ ds => decide (uptoBulkAll ds ≤ 1048576)
def OpenSpec.upto (s : _root_.Go.ChangeSpec) : _root_.Go.OpenSpec := { _root_.Go.OpenSpec.ofChange s with cond := some uptoSmall }

/-- 'garretlaw03.PowerPlays', WHERE WHAT IT READS IS OF BULK AT MOST 1048576: true; the input reads as it did. -/
def powerPlaysUptoRow : OpenClaim := { program := "ytdieeleaaejfhaa", sum := "13f843aba60a38ac049d4cab28d61493a1319e055ec97ba3a782f5a9cde62a03", func := "garret/garretlaw03.PowerPlays", spec := "powerPlays", plainKeys := false, apart := false, narrowed := true }
def PowerPlaysUptoSaid : Prop := powerPlaysUptoRow.holds Try.pinned (OpenSpec.upto powerPlaysSpec)

/-- 'garretlaw03.PowerCuts', WHERE WHAT IT READS IS OF BULK AT MOST 1048576: true; the input reads as it did. -/
def powerCutsUptoRow : OpenClaim := { program := "ytdieeleaaejfhaa", sum := "13f843aba60a38ac049d4cab28d61493a1319e055ec97ba3a782f5a9cde62a03", func := "garret/garretlaw03.PowerCuts", spec := "powerCuts", plainKeys := false, apart := false, narrowed := true }
def PowerCutsUptoSaid : Prop := powerCutsUptoRow.holds Try.pinned (OpenSpec.upto powerCutsSpec)

/-- 'garretlaw03.PowerCounts', WHERE WHAT IT READS IS OF BULK AT MOST 1048576: true; the input reads as it did. -/
def powerCountsUptoRow : OpenClaim := { program := "ytdieeleaaejfhaa", sum := "13f843aba60a38ac049d4cab28d61493a1319e055ec97ba3a782f5a9cde62a03", func := "garret/garretlaw03.PowerCounts", spec := "powerCounts", plainKeys := false, apart := false, narrowed := true }
def PowerCountsUptoSaid : Prop := powerCountsUptoRow.holds Try.pinned (OpenSpec.upto powerCountsSpec)

/-- 'garretlaw06.TagTells', WHERE WHAT IT READS IS OF BULK AT MOST 1048576: true; the input reads as it did. -/
def tagTellsUptoRow : OpenClaim := { program := "ytdieeleaaejfhaa", sum := "13f843aba60a38ac049d4cab28d61493a1319e055ec97ba3a782f5a9cde62a03", func := "garret/garretlaw06.TagTells", spec := "tagTells", plainKeys := false, apart := false, narrowed := true }
def TagTellsUptoSaid : Prop := tagTellsUptoRow.holds Try.pinned (OpenSpec.upto tagTellsSpec)

/-- 'garretlaw06.TagBack', WHERE WHAT IT READS IS OF BULK AT MOST 1048576: true; the input reads as it did. -/
def tagBackUptoRow : OpenClaim := { program := "ytdieeleaaejfhaa", sum := "13f843aba60a38ac049d4cab28d61493a1319e055ec97ba3a782f5a9cde62a03", func := "garret/garretlaw06.TagBack", spec := "tagBack", plainKeys := false, apart := false, narrowed := true }
def TagBackUptoSaid : Prop := tagBackUptoRow.holds Try.pinned (OpenSpec.upto tagBackSpec)

/-- 'garretlaw06.TagBounds', WHERE WHAT IT READS IS OF BULK AT MOST 1048576: true; the input reads as it did. -/
def tagBoundsUptoRow : OpenClaim := { program := "ytdieeleaaejfhaa", sum := "13f843aba60a38ac049d4cab28d61493a1319e055ec97ba3a782f5a9cde62a03", func := "garret/garretlaw06.TagBounds", spec := "tagBounds", plainKeys := false, apart := false, narrowed := true }
def TagBoundsUptoSaid : Prop := tagBoundsUptoRow.holds Try.pinned (OpenSpec.upto tagBoundsSpec)

/-- 'garretlaw06.TagEach', WHERE WHAT IT READS IS OF BULK AT MOST 1048576: true; the input reads as it did. -/
def tagEachUptoRow : OpenClaim := { program := "ytdieeleaaejfhaa", sum := "13f843aba60a38ac049d4cab28d61493a1319e055ec97ba3a782f5a9cde62a03", func := "garret/garretlaw06.TagEach", spec := "tagEach", plainKeys := false, apart := false, narrowed := true }
def TagEachUptoSaid : Prop := tagEachUptoRow.holds Try.pinned (OpenSpec.upto tagEachSpec)

/-- 'garretlaw13.PackTells', WHERE WHAT IT READS IS OF BULK AT MOST 1048576: true; the input reads as it did. -/
def packTellsUptoRow : OpenClaim := { program := "ytdieeleaaejfhaa", sum := "13f843aba60a38ac049d4cab28d61493a1319e055ec97ba3a782f5a9cde62a03", func := "garret/garretlaw13.PackTells", spec := "packTells", unfollowed := true, recurses := true, plainKeys := false, apart := false, narrowed := true }
def PackTellsUptoSaid : Prop := packTellsUptoRow.holds Try.pinned (OpenSpec.upto packTellsSpec)

/-- 'garretlaw13.PackBack', WHERE WHAT IT READS IS OF BULK AT MOST 1048576: true; the input reads as it did. -/
def packBackUptoRow : OpenClaim := { program := "ytdieeleaaejfhaa", sum := "13f843aba60a38ac049d4cab28d61493a1319e055ec97ba3a782f5a9cde62a03", func := "garret/garretlaw13.PackBack", spec := "packBack", unfollowed := true, recurses := true, plainKeys := false, apart := false, narrowed := true }
def PackBackUptoSaid : Prop := packBackUptoRow.holds Try.pinned (OpenSpec.upto packBackSpec)

/-- 'garretlaw13.PackJoins', WHERE WHAT IT READS IS OF BULK AT MOST 1048576: true; the input reads as it did. -/
def packJoinsUptoRow : OpenClaim := { program := "ytdieeleaaejfhaa", sum := "13f843aba60a38ac049d4cab28d61493a1319e055ec97ba3a782f5a9cde62a03", func := "garret/garretlaw13.PackJoins", spec := "packJoins", plainKeys := false, apart := false, narrowed := true }
def PackJoinsUptoSaid : Prop := packJoinsUptoRow.holds Try.pinned (OpenSpec.upto packJoinsSpec)

/-- 'garretlaw13.PackLists', WHERE WHAT IT READS IS OF BULK AT MOST 1048576: true; the input reads as it did. -/
def packListsUptoRow : OpenClaim := { program := "ytdieeleaaejfhaa", sum := "13f843aba60a38ac049d4cab28d61493a1319e055ec97ba3a782f5a9cde62a03", func := "garret/garretlaw13.PackLists", spec := "packLists", plainKeys := false, apart := false, narrowed := true }
def PackListsUptoSaid : Prop := packListsUptoRow.holds Try.pinned (OpenSpec.upto packListsSpec)

/-- 'garretlaw13.PackWide', WHERE WHAT IT READS IS OF BULK AT MOST 1048576: true; the input reads as it did. -/
def packWideUptoRow : OpenClaim := { program := "ytdieeleaaejfhaa", sum := "13f843aba60a38ac049d4cab28d61493a1319e055ec97ba3a782f5a9cde62a03", func := "garret/garretlaw13.PackWide", spec := "packWide", unfollowed := true, recurses := true, plainKeys := false, apart := false, narrowed := true }
def PackWideUptoSaid : Prop := packWideUptoRow.holds Try.pinned (OpenSpec.upto packWideSpec)

end Rows
end Go.Proofs.Ytdieeleaaejfhaa
