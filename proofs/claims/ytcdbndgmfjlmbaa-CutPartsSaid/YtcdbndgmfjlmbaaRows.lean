/-
  No cell of these rows narrows 'for every input' (looked for: loops, veiled, ifaces, maps, wideKeys, modest, calm, conditions, laid).
  DERIVED. THE GIVEN ROWS OF THIS SEAT. 12 by the template 'for every input the law returns true; each argument reads behind the call as it read before'; 0 by the template 'total and deterministic' (their statements: YtcdbndgmfjlmbaaTotals.lean).
  GIVEN WITH THE SEED: the statements are not yours to turn. If you find one false, say at which input.
  Laid BY PROGRAM, IN A SANDBOX (cutbox-rows.mjs): the forced cells as the released guide's own fill.sh prints them over the translation 4e3a8b3e9aeee326… (all of the seat's roots in one cut). By AI agents, Wed Nov 11 2026. No macro, syntax, notation, axiom, sorry.
-/
import Derived.Test.YtcdbndgmfjlmbaaChecked
import GoSem.Claim
import GoSem.ClaimJoined
import GoSem.ClaimMapViews
import Derived.JoinedTies
import Derived.KernelRfl
namespace Go.Proofs.Ytcdbndgmfjlmbaa
/- THE CELL 'sum', in the pinned program and in every row, IS THE sha256 OF THE DUMP (.gsa) THAT YtcdbndgmfjlmbaaProg.lean LOADS. Nothing in Lean hashes anything: it is a label: what it is worth is what the hold of that sum in a sandbox is worth. -/
noncomputable def Try.pinned : Pinned := { name := "ytcdbndgmfjlmbaa", sum := "4e3a8b3e9aeee326693801d2f3371801dcc52f7d71468f14e2f7367786c01f15", checked := Try.checked }
namespace Rows
def none {H : Type} : Left H := { results := [], args := [] }

/-- 'garretlaw02.SumTells': WHATEVER THE INPUT: true; the input reads as it did. -/
def sumTellsSpec : ChangeSpec := { name := "sumTells", fn := fun _ => fun
  | [d1, d2] => { results := [.lit (.bool true)], args := [d1, d2] }
  | _ => none }
def sumTellsRow : OpenClaim := { program := "ytcdbndgmfjlmbaa", sum := "4e3a8b3e9aeee326693801d2f3371801dcc52f7d71468f14e2f7367786c01f15", func := "garret/garretlaw02.SumTells", spec := "sumTells", apart := false }
def SumTellsSaid : Prop := sumTellsRow.holds Try.pinned (OpenSpec.ofChange sumTellsSpec)

/-- ITS FALSE NEIGHBOUR: 'it returns false'. Refute it at one input. -/
def sumTellsWrong : ChangeSpec := { name := "sumTells", fn := fun _ => fun
  | [d1, d2] => { results := [.lit (.bool false)], args := [d1, d2] }
  | _ => none }
def SumTellsWrongFalsely : Prop := sumTellsRow.holds Try.pinned (OpenSpec.ofChange sumTellsWrong)

/-- 'garretlaw02.SumSeen': WHATEVER THE INPUT: true; the input reads as it did. -/
def sumSeenSpec : ChangeSpec := { name := "sumSeen", fn := fun _ => fun
  | [d1, d2, d3, d4] => { results := [.lit (.bool true)], args := [d1, d2, d3, d4] }
  | _ => none }
def sumSeenRow : OpenClaim := { program := "ytcdbndgmfjlmbaa", sum := "4e3a8b3e9aeee326693801d2f3371801dcc52f7d71468f14e2f7367786c01f15", func := "garret/garretlaw02.SumSeen", spec := "sumSeen", apart := false }
def SumSeenSaid : Prop := sumSeenRow.holds Try.pinned (OpenSpec.ofChange sumSeenSpec)

/-- ITS FALSE NEIGHBOUR: 'it returns false'. Refute it at one input. -/
def sumSeenWrong : ChangeSpec := { name := "sumSeen", fn := fun _ => fun
  | [d1, d2, d3, d4] => { results := [.lit (.bool false)], args := [d1, d2, d3, d4] }
  | _ => none }
def SumSeenWrongFalsely : Prop := sumSeenRow.holds Try.pinned (OpenSpec.ofChange sumSeenWrong)

/-- 'garretlaw02.SumParts': WHATEVER THE INPUT: true; the input reads as it did. -/
def sumPartsSpec : ChangeSpec := { name := "sumParts", fn := fun _ => fun
  | [d1, d2] => { results := [.lit (.bool true)], args := [d1, d2] }
  | _ => none }
def sumPartsRow : OpenClaim := { program := "ytcdbndgmfjlmbaa", sum := "4e3a8b3e9aeee326693801d2f3371801dcc52f7d71468f14e2f7367786c01f15", func := "garret/garretlaw02.SumParts", spec := "sumParts", apart := false }
def SumPartsSaid : Prop := sumPartsRow.holds Try.pinned (OpenSpec.ofChange sumPartsSpec)

/-- ITS FALSE NEIGHBOUR: 'it returns false'. Refute it at one input. -/
def sumPartsWrong : ChangeSpec := { name := "sumParts", fn := fun _ => fun
  | [d1, d2] => { results := [.lit (.bool false)], args := [d1, d2] }
  | _ => none }
def SumPartsWrongFalsely : Prop := sumPartsRow.holds Try.pinned (OpenSpec.ofChange sumPartsWrong)

/-- 'garretlaw02.SumEach': WHATEVER THE INPUT: true; the input reads as it did. -/
def sumEachSpec : ChangeSpec := { name := "sumEach", fn := fun _ => fun
  | [d1, d2] => { results := [.lit (.bool true)], args := [d1, d2] }
  | _ => none }
def sumEachRow : OpenClaim := { program := "ytcdbndgmfjlmbaa", sum := "4e3a8b3e9aeee326693801d2f3371801dcc52f7d71468f14e2f7367786c01f15", func := "garret/garretlaw02.SumEach", spec := "sumEach", apart := false }
def SumEachSaid : Prop := sumEachRow.holds Try.pinned (OpenSpec.ofChange sumEachSpec)

/-- ITS FALSE NEIGHBOUR: 'it returns false'. Refute it at one input. -/
def sumEachWrong : ChangeSpec := { name := "sumEach", fn := fun _ => fun
  | [d1, d2] => { results := [.lit (.bool false)], args := [d1, d2] }
  | _ => none }
def SumEachWrongFalsely : Prop := sumEachRow.holds Try.pinned (OpenSpec.ofChange sumEachWrong)

/-- 'garretlaw21.CutTells': WHATEVER THE INPUT: true; the input reads as it did. -/
def cutTellsSpec : ChangeSpec := { name := "cutTells", fn := fun _ => fun
  | [d1, d2, d3, d4, d5, d6] => { results := [.lit (.bool true)], args := [d1, d2, d3, d4, d5, d6] }
  | _ => none }
def cutTellsRow : OpenClaim := { program := "ytcdbndgmfjlmbaa", sum := "4e3a8b3e9aeee326693801d2f3371801dcc52f7d71468f14e2f7367786c01f15", func := "garret/garretlaw21.CutTells", spec := "cutTells", unfollowed := true, recurses := true, apart := false }
def CutTellsSaid : Prop := cutTellsRow.holds Try.pinned (OpenSpec.ofChange cutTellsSpec)

/-- ITS FALSE NEIGHBOUR: 'it returns false'. Refute it at one input. -/
def cutTellsWrong : ChangeSpec := { name := "cutTells", fn := fun _ => fun
  | [d1, d2, d3, d4, d5, d6] => { results := [.lit (.bool false)], args := [d1, d2, d3, d4, d5, d6] }
  | _ => none }
def CutTellsWrongFalsely : Prop := cutTellsRow.holds Try.pinned (OpenSpec.ofChange cutTellsWrong)

/-- 'garretlaw21.CutWhole': WHATEVER THE INPUT: true; the input reads as it did. -/
def cutWholeSpec : ChangeSpec := { name := "cutWhole", fn := fun _ => fun
  | [d1, d2, d3, d4] => { results := [.lit (.bool true)], args := [d1, d2, d3, d4] }
  | _ => none }
def cutWholeRow : OpenClaim := { program := "ytcdbndgmfjlmbaa", sum := "4e3a8b3e9aeee326693801d2f3371801dcc52f7d71468f14e2f7367786c01f15", func := "garret/garretlaw21.CutWhole", spec := "cutWhole", apart := false }
def CutWholeSaid : Prop := cutWholeRow.holds Try.pinned (OpenSpec.ofChange cutWholeSpec)

/-- ITS FALSE NEIGHBOUR: 'it returns false'. Refute it at one input. -/
def cutWholeWrong : ChangeSpec := { name := "cutWhole", fn := fun _ => fun
  | [d1, d2, d3, d4] => { results := [.lit (.bool false)], args := [d1, d2, d3, d4] }
  | _ => none }
def CutWholeWrongFalsely : Prop := cutWholeRow.holds Try.pinned (OpenSpec.ofChange cutWholeWrong)

/-- 'garretlaw21.CutParts': WHATEVER THE INPUT: true; the input reads as it did. -/
def cutPartsSpec : ChangeSpec := { name := "cutParts", fn := fun _ => fun
  | [d1, d2, d3, d4] => { results := [.lit (.bool true)], args := [d1, d2, d3, d4] }
  | _ => none }
def cutPartsRow : OpenClaim := { program := "ytcdbndgmfjlmbaa", sum := "4e3a8b3e9aeee326693801d2f3371801dcc52f7d71468f14e2f7367786c01f15", func := "garret/garretlaw21.CutParts", spec := "cutParts", unfollowed := true, recurses := true, apart := false }
def CutPartsSaid : Prop := cutPartsRow.holds Try.pinned (OpenSpec.ofChange cutPartsSpec)

/-- ITS FALSE NEIGHBOUR: 'it returns false'. Refute it at one input. -/
def cutPartsWrong : ChangeSpec := { name := "cutParts", fn := fun _ => fun
  | [d1, d2, d3, d4] => { results := [.lit (.bool false)], args := [d1, d2, d3, d4] }
  | _ => none }
def CutPartsWrongFalsely : Prop := cutPartsRow.holds Try.pinned (OpenSpec.ofChange cutPartsWrong)

/-- 'garretlaw21.CutCeil': WHATEVER THE INPUT: true; the input reads as it did. -/
def cutCeilSpec : ChangeSpec := { name := "cutCeil", fn := fun _ => fun
  | [d1, d2] => { results := [.lit (.bool true)], args := [d1, d2] }
  | _ => none }
def cutCeilRow : OpenClaim := { program := "ytcdbndgmfjlmbaa", sum := "4e3a8b3e9aeee326693801d2f3371801dcc52f7d71468f14e2f7367786c01f15", func := "garret/garretlaw21.CutCeil", spec := "cutCeil", apart := false }
def CutCeilSaid : Prop := cutCeilRow.holds Try.pinned (OpenSpec.ofChange cutCeilSpec)

/-- ITS FALSE NEIGHBOUR: 'it returns false'. Refute it at one input. -/
def cutCeilWrong : ChangeSpec := { name := "cutCeil", fn := fun _ => fun
  | [d1, d2] => { results := [.lit (.bool false)], args := [d1, d2] }
  | _ => none }
def CutCeilWrongFalsely : Prop := cutCeilRow.holds Try.pinned (OpenSpec.ofChange cutCeilWrong)

/-- 'garretlaw01.CodecWide': WHATEVER THE INPUT: true; the input reads as it did. -/
def codecWideSpec : ChangeSpec := { name := "codecWide", fn := fun _ => fun
  | [d1, d2] => { results := [.lit (.bool true)], args := [d1, d2] }
  | _ => none }
def codecWideRow : OpenClaim := { program := "ytcdbndgmfjlmbaa", sum := "4e3a8b3e9aeee326693801d2f3371801dcc52f7d71468f14e2f7367786c01f15", func := "garret/garretlaw01.CodecWide", spec := "codecWide", apart := false }
def CodecWideSaid : Prop := codecWideRow.holds Try.pinned (OpenSpec.ofChange codecWideSpec)

/-- ITS FALSE NEIGHBOUR: 'it returns false'. Refute it at one input. -/
def codecWideWrong : ChangeSpec := { name := "codecWide", fn := fun _ => fun
  | [d1, d2] => { results := [.lit (.bool false)], args := [d1, d2] }
  | _ => none }
def CodecWideWrongFalsely : Prop := codecWideRow.holds Try.pinned (OpenSpec.ofChange codecWideWrong)

/-- 'garretlaw01.CodecTexts': WHATEVER THE INPUT: true; the input reads as it did. -/
def codecTextsSpec : ChangeSpec := { name := "codecTexts", fn := fun _ => fun
  | [d1, d2, d3] => { results := [.lit (.bool true)], args := [d1, d2, d3] }
  | _ => none }
def codecTextsRow : OpenClaim := { program := "ytcdbndgmfjlmbaa", sum := "4e3a8b3e9aeee326693801d2f3371801dcc52f7d71468f14e2f7367786c01f15", func := "garret/garretlaw01.CodecTexts", spec := "codecTexts", apart := false }
def CodecTextsSaid : Prop := codecTextsRow.holds Try.pinned (OpenSpec.ofChange codecTextsSpec)

/-- ITS FALSE NEIGHBOUR: 'it returns false'. Refute it at one input. -/
def codecTextsWrong : ChangeSpec := { name := "codecTexts", fn := fun _ => fun
  | [d1, d2, d3] => { results := [.lit (.bool false)], args := [d1, d2, d3] }
  | _ => none }
def CodecTextsWrongFalsely : Prop := codecTextsRow.holds Try.pinned (OpenSpec.ofChange codecTextsWrong)

/-- 'garretlaw01.CodecTells': WHATEVER THE INPUT: true; the input reads as it did. -/
def codecTellsSpec : ChangeSpec := { name := "codecTells", fn := fun _ => fun
  | [d1, d2, d3, d4, d5, d6] => { results := [.lit (.bool true)], args := [d1, d2, d3, d4, d5, d6] }
  | _ => none }
def codecTellsRow : OpenClaim := { program := "ytcdbndgmfjlmbaa", sum := "4e3a8b3e9aeee326693801d2f3371801dcc52f7d71468f14e2f7367786c01f15", func := "garret/garretlaw01.CodecTells", spec := "codecTells", unfollowed := true, recurses := true, apart := false }
def CodecTellsSaid : Prop := codecTellsRow.holds Try.pinned (OpenSpec.ofChange codecTellsSpec)

/-- ITS FALSE NEIGHBOUR: 'it returns false'. Refute it at one input. -/
def codecTellsWrong : ChangeSpec := { name := "codecTells", fn := fun _ => fun
  | [d1, d2, d3, d4, d5, d6] => { results := [.lit (.bool false)], args := [d1, d2, d3, d4, d5, d6] }
  | _ => none }
def CodecTellsWrongFalsely : Prop := codecTellsRow.holds Try.pinned (OpenSpec.ofChange codecTellsWrong)

/-- 'garretlaw01.CodecBack': WHATEVER THE INPUT: true; the input reads as it did. -/
def codecBackSpec : ChangeSpec := { name := "codecBack", fn := fun _ => fun
  | [d1, d2, d3] => { results := [.lit (.bool true)], args := [d1, d2, d3] }
  | _ => none }
def codecBackRow : OpenClaim := { program := "ytcdbndgmfjlmbaa", sum := "4e3a8b3e9aeee326693801d2f3371801dcc52f7d71468f14e2f7367786c01f15", func := "garret/garretlaw01.CodecBack", spec := "codecBack", apart := false }
def CodecBackSaid : Prop := codecBackRow.holds Try.pinned (OpenSpec.ofChange codecBackSpec)

/-- ITS FALSE NEIGHBOUR: 'it returns false'. Refute it at one input. -/
def codecBackWrong : ChangeSpec := { name := "codecBack", fn := fun _ => fun
  | [d1, d2, d3] => { results := [.lit (.bool false)], args := [d1, d2, d3] }
  | _ => none }
def CodecBackWrongFalsely : Prop := codecBackRow.holds Try.pinned (OpenSpec.ofChange codecBackWrong)

/- THE SECOND FORM. 'bulk': how many values and letters a reading holds, each counted each time it is reached (what is shared counts as often as it is met; a slice's spare places count too). A statement '..UptoSaid' is the law's where the arguments, and the package variables that the reading takes, are together of bulk at most 1048576: NARROWER than '..Said'. Prove '..Said' where nothing that the law and all that it calls make is longer than what came in: it says more and counts as full. Else prove '..UptoSaid'. A law counts once. -/
mutual
def uptoBulk {H : Type} : DataW H → Nat
  | .lit (.string bytes) => bytes.length + 1
  | .lit _ => 1
  | .nil => 1
  | .ptr d => uptoBulk d + 1
  | .slice elems spare => uptoBulkAll elems + uptoBulkAll spare + 1
  | .agg parts => uptoBulkAll parts + 1
  | .iface _ d => uptoBulk d + 1
  | .map entries => uptoBulkEntries entries + 1
  | .held _ => 1
def uptoBulkAll {H : Type} : List (DataW H) → Nat
  | [] => 0
  | d :: r => uptoBulk d + uptoBulkAll r
def uptoBulkEntries {H : Type} : List (Lit × DataW H) → Nat
  | [] => 0
  | x :: r => uptoBulkEntry x + uptoBulkEntries r
def uptoBulkEntry {H : Type} : Lit × DataW H → Nat
  | (.string bytes, d) => bytes.length + uptoBulk d + 1
  | (_, d) => uptoBulk d + 1
 end
def uptoSmall : (H : Type) → List (DataW H) → Bool := fun _ ds => decide (uptoBulkAll ds ≤ 1048576)
def OpenSpec.upto (s : _root_.Go.ChangeSpec) : _root_.Go.OpenSpec := { _root_.Go.OpenSpec.ofChange s with cond := some uptoSmall }

/-- 'garretlaw02.SumTells', WHERE WHAT IT READS IS OF BULK AT MOST 1048576: true; the input reads as it did. -/
def sumTellsUptoRow : OpenClaim := { program := "ytcdbndgmfjlmbaa", sum := "4e3a8b3e9aeee326693801d2f3371801dcc52f7d71468f14e2f7367786c01f15", func := "garret/garretlaw02.SumTells", spec := "sumTells", apart := false, narrowed := true }
def SumTellsUptoSaid : Prop := sumTellsUptoRow.holds Try.pinned (OpenSpec.upto sumTellsSpec)

/-- 'garretlaw02.SumSeen', WHERE WHAT IT READS IS OF BULK AT MOST 1048576: true; the input reads as it did. -/
def sumSeenUptoRow : OpenClaim := { program := "ytcdbndgmfjlmbaa", sum := "4e3a8b3e9aeee326693801d2f3371801dcc52f7d71468f14e2f7367786c01f15", func := "garret/garretlaw02.SumSeen", spec := "sumSeen", apart := false, narrowed := true }
def SumSeenUptoSaid : Prop := sumSeenUptoRow.holds Try.pinned (OpenSpec.upto sumSeenSpec)

/-- 'garretlaw02.SumParts', WHERE WHAT IT READS IS OF BULK AT MOST 1048576: true; the input reads as it did. -/
def sumPartsUptoRow : OpenClaim := { program := "ytcdbndgmfjlmbaa", sum := "4e3a8b3e9aeee326693801d2f3371801dcc52f7d71468f14e2f7367786c01f15", func := "garret/garretlaw02.SumParts", spec := "sumParts", apart := false, narrowed := true }
def SumPartsUptoSaid : Prop := sumPartsUptoRow.holds Try.pinned (OpenSpec.upto sumPartsSpec)

/-- 'garretlaw02.SumEach', WHERE WHAT IT READS IS OF BULK AT MOST 1048576: true; the input reads as it did. -/
def sumEachUptoRow : OpenClaim := { program := "ytcdbndgmfjlmbaa", sum := "4e3a8b3e9aeee326693801d2f3371801dcc52f7d71468f14e2f7367786c01f15", func := "garret/garretlaw02.SumEach", spec := "sumEach", apart := false, narrowed := true }
def SumEachUptoSaid : Prop := sumEachUptoRow.holds Try.pinned (OpenSpec.upto sumEachSpec)

/-- 'garretlaw21.CutTells', WHERE WHAT IT READS IS OF BULK AT MOST 1048576: true; the input reads as it did. -/
def cutTellsUptoRow : OpenClaim := { program := "ytcdbndgmfjlmbaa", sum := "4e3a8b3e9aeee326693801d2f3371801dcc52f7d71468f14e2f7367786c01f15", func := "garret/garretlaw21.CutTells", spec := "cutTells", unfollowed := true, recurses := true, apart := false, narrowed := true }
def CutTellsUptoSaid : Prop := cutTellsUptoRow.holds Try.pinned (OpenSpec.upto cutTellsSpec)

/-- 'garretlaw21.CutWhole', WHERE WHAT IT READS IS OF BULK AT MOST 1048576: true; the input reads as it did. -/
def cutWholeUptoRow : OpenClaim := { program := "ytcdbndgmfjlmbaa", sum := "4e3a8b3e9aeee326693801d2f3371801dcc52f7d71468f14e2f7367786c01f15", func := "garret/garretlaw21.CutWhole", spec := "cutWhole", apart := false, narrowed := true }
def CutWholeUptoSaid : Prop := cutWholeUptoRow.holds Try.pinned (OpenSpec.upto cutWholeSpec)

/-- 'garretlaw21.CutParts', WHERE WHAT IT READS IS OF BULK AT MOST 1048576: true; the input reads as it did. -/
def cutPartsUptoRow : OpenClaim := { program := "ytcdbndgmfjlmbaa", sum := "4e3a8b3e9aeee326693801d2f3371801dcc52f7d71468f14e2f7367786c01f15", func := "garret/garretlaw21.CutParts", spec := "cutParts", unfollowed := true, recurses := true, apart := false, narrowed := true }
def CutPartsUptoSaid : Prop := cutPartsUptoRow.holds Try.pinned (OpenSpec.upto cutPartsSpec)

/-- 'garretlaw21.CutCeil', WHERE WHAT IT READS IS OF BULK AT MOST 1048576: true; the input reads as it did. -/
def cutCeilUptoRow : OpenClaim := { program := "ytcdbndgmfjlmbaa", sum := "4e3a8b3e9aeee326693801d2f3371801dcc52f7d71468f14e2f7367786c01f15", func := "garret/garretlaw21.CutCeil", spec := "cutCeil", apart := false, narrowed := true }
def CutCeilUptoSaid : Prop := cutCeilUptoRow.holds Try.pinned (OpenSpec.upto cutCeilSpec)

/-- 'garretlaw01.CodecWide', WHERE WHAT IT READS IS OF BULK AT MOST 1048576: true; the input reads as it did. -/
def codecWideUptoRow : OpenClaim := { program := "ytcdbndgmfjlmbaa", sum := "4e3a8b3e9aeee326693801d2f3371801dcc52f7d71468f14e2f7367786c01f15", func := "garret/garretlaw01.CodecWide", spec := "codecWide", apart := false, narrowed := true }
def CodecWideUptoSaid : Prop := codecWideUptoRow.holds Try.pinned (OpenSpec.upto codecWideSpec)

/-- 'garretlaw01.CodecTexts', WHERE WHAT IT READS IS OF BULK AT MOST 1048576: true; the input reads as it did. -/
def codecTextsUptoRow : OpenClaim := { program := "ytcdbndgmfjlmbaa", sum := "4e3a8b3e9aeee326693801d2f3371801dcc52f7d71468f14e2f7367786c01f15", func := "garret/garretlaw01.CodecTexts", spec := "codecTexts", apart := false, narrowed := true }
def CodecTextsUptoSaid : Prop := codecTextsUptoRow.holds Try.pinned (OpenSpec.upto codecTextsSpec)

/-- 'garretlaw01.CodecTells', WHERE WHAT IT READS IS OF BULK AT MOST 1048576: true; the input reads as it did. -/
def codecTellsUptoRow : OpenClaim := { program := "ytcdbndgmfjlmbaa", sum := "4e3a8b3e9aeee326693801d2f3371801dcc52f7d71468f14e2f7367786c01f15", func := "garret/garretlaw01.CodecTells", spec := "codecTells", unfollowed := true, recurses := true, apart := false, narrowed := true }
def CodecTellsUptoSaid : Prop := codecTellsUptoRow.holds Try.pinned (OpenSpec.upto codecTellsSpec)

/-- 'garretlaw01.CodecBack', WHERE WHAT IT READS IS OF BULK AT MOST 1048576: true; the input reads as it did. -/
def codecBackUptoRow : OpenClaim := { program := "ytcdbndgmfjlmbaa", sum := "4e3a8b3e9aeee326693801d2f3371801dcc52f7d71468f14e2f7367786c01f15", func := "garret/garretlaw01.CodecBack", spec := "codecBack", apart := false, narrowed := true }
def CodecBackUptoSaid : Prop := codecBackUptoRow.holds Try.pinned (OpenSpec.upto codecBackSpec)

end Rows
end Go.Proofs.Ytcdbndgmfjlmbaa
