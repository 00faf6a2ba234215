/-
  No cell of these rows narrows 'for every input' (looked for: loops, veiled, ifaces, maps, wideKeys, modest, calm, conditions, laid).
  DERIVED. THE GIVEN ROWS OF THIS SEAT. 12 by the template 'for every input the law returns true; each argument reads behind the call as it read before'; 0 by the template 'total and deterministic' (their statements: YtcdgpioljilgeaaTotals.lean).
  GIVEN WITH THE SEED: the statements are not yours to turn. If you find one false, say at which input.
  Laid BY PROGRAM, IN A SANDBOX (cutbox-rows.mjs): the forced cells as the released guide's own fill.sh prints them over the translation a6dda4bc6a349219… (all of the seat's roots in one cut). By AI agents, Wed Nov 11 2026. No macro, syntax, notation, axiom, sorry.
-/
import Derived.Test.YtcdgpioljilgeaaChecked
import GoSem.Claim
import GoSem.ClaimJoined
import GoSem.ClaimMapViews
import Derived.JoinedTies
import Derived.KernelRfl
namespace Go.Proofs.Ytcdgpioljilgeaa
/- THE CELL 'sum', in the pinned program and in every row, IS THE sha256 OF THE DUMP (.gsa) THAT YtcdgpioljilgeaaProg.lean LOADS. Nothing in Lean hashes anything: it is a label: what it is worth is what the hold of that sum in a sandbox is worth. -/
noncomputable def Try.pinned : Pinned := { name := "ytcdgpioljilgeaa", sum := "a6dda4bc6a3492193ae4f07421ab0d17400890a2f9b8a2078e9456611bd050b4", checked := Try.checked }
namespace Rows
def none {H : Type} : Left H := { results := [], args := [] }

/-- 'garretlaw04.NorBits': WHATEVER THE INPUT: true; the input reads as it did. -/
def norBitsSpec : ChangeSpec := { name := "norBits", fn := fun _ => fun
  | [d1, d2, d3, d4] => { results := [.lit (.bool true)], args := [d1, d2, d3, d4] }
  | _ => none }
def norBitsRow : OpenClaim := { program := "ytcdgpioljilgeaa", sum := "a6dda4bc6a3492193ae4f07421ab0d17400890a2f9b8a2078e9456611bd050b4", func := "garret/garretlaw04.NorBits", spec := "norBits", inPlace := ["internal/bytealg.MakeNoZero"], plainKeys := false, apart := false }
def NorBitsSaid : Prop := norBitsRow.holds Try.pinned (OpenSpec.ofChange norBitsSpec)

/-- ITS FALSE NEIGHBOUR: 'it returns false'. Refute it at one input. -/
def norBitsWrong : ChangeSpec := { name := "norBits", fn := fun _ => fun
  | [d1, d2, d3, d4] => { results := [.lit (.bool false)], args := [d1, d2, d3, d4] }
  | _ => none }
def NorBitsWrongFalsely : Prop := norBitsRow.holds Try.pinned (OpenSpec.ofChange norBitsWrong)

/-- 'garretlaw04.NorTorn': WHATEVER THE INPUT: true; the input reads as it did. -/
def norTornSpec : ChangeSpec := { name := "norTorn", fn := fun _ => fun
  | [d1, d2, d3, d4] => { results := [.lit (.bool true)], args := [d1, d2, d3, d4] }
  | _ => none }
def norTornRow : OpenClaim := { program := "ytcdgpioljilgeaa", sum := "a6dda4bc6a3492193ae4f07421ab0d17400890a2f9b8a2078e9456611bd050b4", func := "garret/garretlaw04.NorTorn", spec := "norTorn", inPlace := ["internal/bytealg.MakeNoZero"], plainKeys := false, apart := false }
def NorTornSaid : Prop := norTornRow.holds Try.pinned (OpenSpec.ofChange norTornSpec)

/-- ITS FALSE NEIGHBOUR: 'it returns false'. Refute it at one input. -/
def norTornWrong : ChangeSpec := { name := "norTorn", fn := fun _ => fun
  | [d1, d2, d3, d4] => { results := [.lit (.bool false)], args := [d1, d2, d3, d4] }
  | _ => none }
def NorTornWrongFalsely : Prop := norTornRow.holds Try.pinned (OpenSpec.ofChange norTornWrong)

/-- 'garretlaw04.NorRight': WHATEVER THE INPUT: true; the input reads as it did. -/
def norRightSpec : ChangeSpec := { name := "norRight", fn := fun _ => fun
  | [d1, d2] => { results := [.lit (.bool true)], args := [d1, d2] }
  | _ => none }
def norRightRow : OpenClaim := { program := "ytcdgpioljilgeaa", sum := "a6dda4bc6a3492193ae4f07421ab0d17400890a2f9b8a2078e9456611bd050b4", func := "garret/garretlaw04.NorRight", spec := "norRight", inPlace := ["internal/bytealg.MakeNoZero"], plainKeys := false, apart := false }
def NorRightSaid : Prop := norRightRow.holds Try.pinned (OpenSpec.ofChange norRightSpec)

/-- ITS FALSE NEIGHBOUR: 'it returns false'. Refute it at one input. -/
def norRightWrong : ChangeSpec := { name := "norRight", fn := fun _ => fun
  | [d1, d2] => { results := [.lit (.bool false)], args := [d1, d2] }
  | _ => none }
def NorRightWrongFalsely : Prop := norRightRow.holds Try.pinned (OpenSpec.ofChange norRightWrong)

/-- 'garretlaw04.NorPlays': WHATEVER THE INPUT: true; the input reads as it did. -/
def norPlaysSpec : ChangeSpec := { name := "norPlays", fn := fun _ => fun
  | [d1, d2] => { results := [.lit (.bool true)], args := [d1, d2] }
  | _ => none }
def norPlaysRow : OpenClaim := { program := "ytcdgpioljilgeaa", sum := "a6dda4bc6a3492193ae4f07421ab0d17400890a2f9b8a2078e9456611bd050b4", func := "garret/garretlaw04.NorPlays", spec := "norPlays", inPlace := ["internal/bytealg.MakeNoZero"], unfollowed := true, recurses := true, plainKeys := false, apart := false }
def NorPlaysSaid : Prop := norPlaysRow.holds Try.pinned (OpenSpec.ofChange norPlaysSpec)

/-- ITS FALSE NEIGHBOUR: 'it returns false'. Refute it at one input. -/
def norPlaysWrong : ChangeSpec := { name := "norPlays", fn := fun _ => fun
  | [d1, d2] => { results := [.lit (.bool false)], args := [d1, d2] }
  | _ => none }
def NorPlaysWrongFalsely : Prop := norPlaysRow.holds Try.pinned (OpenSpec.ofChange norPlaysWrong)

/-- 'garretlaw07.FrameTells': WHATEVER THE INPUT: true; the input reads as it did. -/
def frameTellsSpec : ChangeSpec := { name := "frameTells", fn := fun _ => fun
  | [d1, d2] => { results := [.lit (.bool true)], args := [d1, d2] }
  | _ => none }
def frameTellsRow : OpenClaim := { program := "ytcdgpioljilgeaa", sum := "a6dda4bc6a3492193ae4f07421ab0d17400890a2f9b8a2078e9456611bd050b4", func := "garret/garretlaw07.FrameTells", spec := "frameTells", inPlace := ["internal/bytealg.Count", "internal/bytealg.IndexByte", "internal/bytealg.Index"], unfollowed := true, recurses := true, named := ["internal/bytealg.MaxLen"], plainKeys := false, apart := false }
def FrameTellsSaid : Prop := frameTellsRow.holds Try.pinned (OpenSpec.ofChange frameTellsSpec)

/-- ITS FALSE NEIGHBOUR: 'it returns false'. Refute it at one input. -/
def frameTellsWrong : ChangeSpec := { name := "frameTells", fn := fun _ => fun
  | [d1, d2] => { results := [.lit (.bool false)], args := [d1, d2] }
  | _ => none }
def FrameTellsWrongFalsely : Prop := frameTellsRow.holds Try.pinned (OpenSpec.ofChange frameTellsWrong)

/-- 'garretlaw07.FrameTorn': WHATEVER THE INPUT: true; the input reads as it did. -/
def frameTornSpec : ChangeSpec := { name := "frameTorn", fn := fun _ => fun
  | [d1, d2, d3, d4, d5] => { results := [.lit (.bool true)], args := [d1, d2, d3, d4, d5] }
  | _ => none }
def frameTornRow : OpenClaim := { program := "ytcdgpioljilgeaa", sum := "a6dda4bc6a3492193ae4f07421ab0d17400890a2f9b8a2078e9456611bd050b4", func := "garret/garretlaw07.FrameTorn", spec := "frameTorn", inPlace := ["internal/bytealg.Count", "internal/bytealg.IndexByte", "internal/bytealg.Index"], unfollowed := true, recurses := true, named := ["internal/bytealg.MaxLen"], plainKeys := false, apart := false }
def FrameTornSaid : Prop := frameTornRow.holds Try.pinned (OpenSpec.ofChange frameTornSpec)

/-- ITS FALSE NEIGHBOUR: 'it returns false'. Refute it at one input. -/
def frameTornWrong : ChangeSpec := { name := "frameTorn", fn := fun _ => fun
  | [d1, d2, d3, d4, d5] => { results := [.lit (.bool false)], args := [d1, d2, d3, d4, d5] }
  | _ => none }
def FrameTornWrongFalsely : Prop := frameTornRow.holds Try.pinned (OpenSpec.ofChange frameTornWrong)

/-- 'garretlaw07.FrameFlags': WHATEVER THE INPUT: true; the input reads as it did. -/
def frameFlagsSpec : ChangeSpec := { name := "frameFlags", fn := fun _ => fun
  | [d1, d2, d3] => { results := [.lit (.bool true)], args := [d1, d2, d3] }
  | _ => none }
def frameFlagsRow : OpenClaim := { program := "ytcdgpioljilgeaa", sum := "a6dda4bc6a3492193ae4f07421ab0d17400890a2f9b8a2078e9456611bd050b4", func := "garret/garretlaw07.FrameFlags", spec := "frameFlags", inPlace := ["internal/bytealg.Count", "internal/bytealg.IndexByte", "internal/bytealg.Index"], named := ["internal/bytealg.MaxLen"], plainKeys := false, apart := false }
def FrameFlagsSaid : Prop := frameFlagsRow.holds Try.pinned (OpenSpec.ofChange frameFlagsSpec)

/-- ITS FALSE NEIGHBOUR: 'it returns false'. Refute it at one input. -/
def frameFlagsWrong : ChangeSpec := { name := "frameFlags", fn := fun _ => fun
  | [d1, d2, d3] => { results := [.lit (.bool false)], args := [d1, d2, d3] }
  | _ => none }
def FrameFlagsWrongFalsely : Prop := frameFlagsRow.holds Try.pinned (OpenSpec.ofChange frameFlagsWrong)

/-- 'garretlaw07.FrameJoins': WHATEVER THE INPUT: true; the input reads as it did. -/
def frameJoinsSpec : ChangeSpec := { name := "frameJoins", fn := fun _ => fun
  | [d1, d2, d3] => { results := [.lit (.bool true)], args := [d1, d2, d3] }
  | _ => none }
def frameJoinsRow : OpenClaim := { program := "ytcdgpioljilgeaa", sum := "a6dda4bc6a3492193ae4f07421ab0d17400890a2f9b8a2078e9456611bd050b4", func := "garret/garretlaw07.FrameJoins", spec := "frameJoins", inPlace := ["internal/bytealg.Count", "internal/bytealg.IndexByte", "internal/bytealg.Index"], unfollowed := true, recurses := true, named := ["internal/bytealg.MaxLen"], plainKeys := false, apart := false }
def FrameJoinsSaid : Prop := frameJoinsRow.holds Try.pinned (OpenSpec.ofChange frameJoinsSpec)

/-- ITS FALSE NEIGHBOUR: 'it returns false'. Refute it at one input. -/
def frameJoinsWrong : ChangeSpec := { name := "frameJoins", fn := fun _ => fun
  | [d1, d2, d3] => { results := [.lit (.bool false)], args := [d1, d2, d3] }
  | _ => none }
def FrameJoinsWrongFalsely : Prop := frameJoinsRow.holds Try.pinned (OpenSpec.ofChange frameJoinsWrong)

/-- 'garretlaw08.HalfCounts': WHATEVER THE INPUT: true; the input reads as it did. -/
def halfCountsSpec : ChangeSpec := { name := "halfCounts", fn := fun _ => fun
  | [d1, d2, d3, d4, d5] => { results := [.lit (.bool true)], args := [d1, d2, d3, d4, d5] }
  | _ => none }
def halfCountsRow : OpenClaim := { program := "ytcdgpioljilgeaa", sum := "a6dda4bc6a3492193ae4f07421ab0d17400890a2f9b8a2078e9456611bd050b4", func := "garret/garretlaw08.HalfCounts", spec := "halfCounts", inPlace := ["internal/bytealg.MakeNoZero", "internal/bytealg.Count", "internal/bytealg.IndexByte", "internal/bytealg.Index"], unfollowed := true, recurses := true, named := ["internal/bytealg.MaxLen"], plainKeys := false, apart := false }
def HalfCountsSaid : Prop := halfCountsRow.holds Try.pinned (OpenSpec.ofChange halfCountsSpec)

/-- ITS FALSE NEIGHBOUR: 'it returns false'. Refute it at one input. -/
def halfCountsWrong : ChangeSpec := { name := "halfCounts", fn := fun _ => fun
  | [d1, d2, d3, d4, d5] => { results := [.lit (.bool false)], args := [d1, d2, d3, d4, d5] }
  | _ => none }
def HalfCountsWrongFalsely : Prop := halfCountsRow.holds Try.pinned (OpenSpec.ofChange halfCountsWrong)

/-- 'garretlaw08.HalfRoom': WHATEVER THE INPUT: true; the input reads as it did. -/
def halfRoomSpec : ChangeSpec := { name := "halfRoom", fn := fun _ => fun
  | [d1, d2, d3] => { results := [.lit (.bool true)], args := [d1, d2, d3] }
  | _ => none }
def halfRoomRow : OpenClaim := { program := "ytcdgpioljilgeaa", sum := "a6dda4bc6a3492193ae4f07421ab0d17400890a2f9b8a2078e9456611bd050b4", func := "garret/garretlaw08.HalfRoom", spec := "halfRoom", inPlace := ["internal/bytealg.MakeNoZero", "internal/bytealg.Count", "internal/bytealg.IndexByte", "internal/bytealg.Index"], named := ["internal/bytealg.MaxLen"], plainKeys := false, apart := false }
def HalfRoomSaid : Prop := halfRoomRow.holds Try.pinned (OpenSpec.ofChange halfRoomSpec)

/-- ITS FALSE NEIGHBOUR: 'it returns false'. Refute it at one input. -/
def halfRoomWrong : ChangeSpec := { name := "halfRoom", fn := fun _ => fun
  | [d1, d2, d3] => { results := [.lit (.bool false)], args := [d1, d2, d3] }
  | _ => none }
def HalfRoomWrongFalsely : Prop := halfRoomRow.holds Try.pinned (OpenSpec.ofChange halfRoomWrong)

/-- 'garretlaw08.HalfPlays': WHATEVER THE INPUT: true; the input reads as it did. -/
def halfPlaysSpec : ChangeSpec := { name := "halfPlays", fn := fun _ => fun
  | [d1, d2] => { results := [.lit (.bool true)], args := [d1, d2] }
  | _ => none }
def halfPlaysRow : OpenClaim := { program := "ytcdgpioljilgeaa", sum := "a6dda4bc6a3492193ae4f07421ab0d17400890a2f9b8a2078e9456611bd050b4", func := "garret/garretlaw08.HalfPlays", spec := "halfPlays", inPlace := ["internal/bytealg.MakeNoZero", "internal/bytealg.Count", "internal/bytealg.IndexByte", "internal/bytealg.Index"], named := ["internal/bytealg.MaxLen"], plainKeys := false, apart := false }
def HalfPlaysSaid : Prop := halfPlaysRow.holds Try.pinned (OpenSpec.ofChange halfPlaysSpec)

/-- ITS FALSE NEIGHBOUR: 'it returns false'. Refute it at one input. -/
def halfPlaysWrong : ChangeSpec := { name := "halfPlays", fn := fun _ => fun
  | [d1, d2] => { results := [.lit (.bool false)], args := [d1, d2] }
  | _ => none }
def HalfPlaysWrongFalsely : Prop := halfPlaysRow.holds Try.pinned (OpenSpec.ofChange halfPlaysWrong)

/-- 'garretlaw08.HalfWipes': WHATEVER THE INPUT: true; the input reads as it did. -/
def halfWipesSpec : ChangeSpec := { name := "halfWipes", fn := fun _ => fun
  | [d1, d2, d3, d4, d5, d6] => { results := [.lit (.bool true)], args := [d1, d2, d3, d4, d5, d6] }
  | _ => none }
def halfWipesRow : OpenClaim := { program := "ytcdgpioljilgeaa", sum := "a6dda4bc6a3492193ae4f07421ab0d17400890a2f9b8a2078e9456611bd050b4", func := "garret/garretlaw08.HalfWipes", spec := "halfWipes", inPlace := ["internal/bytealg.MakeNoZero", "internal/bytealg.Count", "internal/bytealg.IndexByte", "internal/bytealg.Index"], named := ["internal/bytealg.MaxLen"], plainKeys := false, apart := false }
def HalfWipesSaid : Prop := halfWipesRow.holds Try.pinned (OpenSpec.ofChange halfWipesSpec)

/-- ITS FALSE NEIGHBOUR: 'it returns false'. Refute it at one input. -/
def halfWipesWrong : ChangeSpec := { name := "halfWipes", fn := fun _ => fun
  | [d1, d2, d3, d4, d5, d6] => { results := [.lit (.bool false)], args := [d1, d2, d3, d4, d5, d6] }
  | _ => none }
def HalfWipesWrongFalsely : Prop := halfWipesRow.holds Try.pinned (OpenSpec.ofChange halfWipesWrong)

/- THE SECOND FORM. 'bulk': how many values and letters a reading holds, each counted each time it is reached (what is shared counts as often as it is met; a slice's spare places count too). A statement '..UptoSaid' is the law's where the arguments, and the package variables that the reading takes, are together of bulk at most 1048576: NARROWER than '..Said'. Prove '..Said' where nothing that the law and all that it calls make is longer than what came in: it says more and counts as full. Else prove '..UptoSaid'. A law counts once. -/
mutual
def uptoBulk {H : Type} : DataW H → Nat
  | .lit (.string bytes) => bytes.length + 1
  | .lit _ => 1
  | .nil => 1
  | .ptr d => uptoBulk d + 1
  | .slice elems spare => uptoBulkAll elems + uptoBulkAll spare + 1
  | .agg parts => uptoBulkAll parts + 1
  | .iface _ d => uptoBulk d + 1
  | .map entries => uptoBulkEntries entries + 1
  | .held _ => 1
def uptoBulkAll {H : Type} : List (DataW H) → Nat
  | [] => 0
  | d :: r => uptoBulk d + uptoBulkAll r
def uptoBulkEntries {H : Type} : List (Lit × DataW H) → Nat
  | [] => 0
  | x :: r => uptoBulkEntry x + uptoBulkEntries r
def uptoBulkEntry {H : Type} : Lit × DataW H → Nat
  | (.string bytes, d) => bytes.length + uptoBulk d + 1
  | (_, d) => uptoBulk d + 1
 end
def uptoSmall : (H : Type) → List (DataW H) → Bool := fun _ ds => decide (uptoBulkAll ds ≤ 1048576)
def OpenSpec.upto (s : _root_.Go.ChangeSpec) : _root_.Go.OpenSpec := { _root_.Go.OpenSpec.ofChange s with cond := some uptoSmall }

/-- 'garretlaw04.NorBits', WHERE WHAT IT READS IS OF BULK AT MOST 1048576: true; the input reads as it did. -/
def norBitsUptoRow : OpenClaim := { program := "ytcdgpioljilgeaa", sum := "a6dda4bc6a3492193ae4f07421ab0d17400890a2f9b8a2078e9456611bd050b4", func := "garret/garretlaw04.NorBits", spec := "norBits", inPlace := ["internal/bytealg.MakeNoZero"], plainKeys := false, apart := false, narrowed := true }
def NorBitsUptoSaid : Prop := norBitsUptoRow.holds Try.pinned (OpenSpec.upto norBitsSpec)

/-- 'garretlaw04.NorTorn', WHERE WHAT IT READS IS OF BULK AT MOST 1048576: true; the input reads as it did. -/
def norTornUptoRow : OpenClaim := { program := "ytcdgpioljilgeaa", sum := "a6dda4bc6a3492193ae4f07421ab0d17400890a2f9b8a2078e9456611bd050b4", func := "garret/garretlaw04.NorTorn", spec := "norTorn", inPlace := ["internal/bytealg.MakeNoZero"], plainKeys := false, apart := false, narrowed := true }
def NorTornUptoSaid : Prop := norTornUptoRow.holds Try.pinned (OpenSpec.upto norTornSpec)

/-- 'garretlaw04.NorRight', WHERE WHAT IT READS IS OF BULK AT MOST 1048576: true; the input reads as it did. -/
def norRightUptoRow : OpenClaim := { program := "ytcdgpioljilgeaa", sum := "a6dda4bc6a3492193ae4f07421ab0d17400890a2f9b8a2078e9456611bd050b4", func := "garret/garretlaw04.NorRight", spec := "norRight", inPlace := ["internal/bytealg.MakeNoZero"], plainKeys := false, apart := false, narrowed := true }
def NorRightUptoSaid : Prop := norRightUptoRow.holds Try.pinned (OpenSpec.upto norRightSpec)

/-- 'garretlaw04.NorPlays', WHERE WHAT IT READS IS OF BULK AT MOST 1048576: true; the input reads as it did. -/
def norPlaysUptoRow : OpenClaim := { program := "ytcdgpioljilgeaa", sum := "a6dda4bc6a3492193ae4f07421ab0d17400890a2f9b8a2078e9456611bd050b4", func := "garret/garretlaw04.NorPlays", spec := "norPlays", inPlace := ["internal/bytealg.MakeNoZero"], unfollowed := true, recurses := true, plainKeys := false, apart := false, narrowed := true }
def NorPlaysUptoSaid : Prop := norPlaysUptoRow.holds Try.pinned (OpenSpec.upto norPlaysSpec)

/-- 'garretlaw07.FrameTells', WHERE WHAT IT READS IS OF BULK AT MOST 1048576: true; the input reads as it did. -/
def frameTellsUptoRow : OpenClaim := { program := "ytcdgpioljilgeaa", sum := "a6dda4bc6a3492193ae4f07421ab0d17400890a2f9b8a2078e9456611bd050b4", func := "garret/garretlaw07.FrameTells", spec := "frameTells", inPlace := ["internal/bytealg.Count", "internal/bytealg.IndexByte", "internal/bytealg.Index"], unfollowed := true, recurses := true, named := ["internal/bytealg.MaxLen"], plainKeys := false, apart := false, narrowed := true }
def FrameTellsUptoSaid : Prop := frameTellsUptoRow.holds Try.pinned (OpenSpec.upto frameTellsSpec)

/-- 'garretlaw07.FrameTorn', WHERE WHAT IT READS IS OF BULK AT MOST 1048576: true; the input reads as it did. -/
def frameTornUptoRow : OpenClaim := { program := "ytcdgpioljilgeaa", sum := "a6dda4bc6a3492193ae4f07421ab0d17400890a2f9b8a2078e9456611bd050b4", func := "garret/garretlaw07.FrameTorn", spec := "frameTorn", inPlace := ["internal/bytealg.Count", "internal/bytealg.IndexByte", "internal/bytealg.Index"], unfollowed := true, recurses := true, named := ["internal/bytealg.MaxLen"], plainKeys := false, apart := false, narrowed := true }
def FrameTornUptoSaid : Prop := frameTornUptoRow.holds Try.pinned (OpenSpec.upto frameTornSpec)

/-- 'garretlaw07.FrameFlags', WHERE WHAT IT READS IS OF BULK AT MOST 1048576: true; the input reads as it did. -/
def frameFlagsUptoRow : OpenClaim := { program := "ytcdgpioljilgeaa", sum := "a6dda4bc6a3492193ae4f07421ab0d17400890a2f9b8a2078e9456611bd050b4", func := "garret/garretlaw07.FrameFlags", spec := "frameFlags", inPlace := ["internal/bytealg.Count", "internal/bytealg.IndexByte", "internal/bytealg.Index"], named := ["internal/bytealg.MaxLen"], plainKeys := false, apart := false, narrowed := true }
def FrameFlagsUptoSaid : Prop := frameFlagsUptoRow.holds Try.pinned (OpenSpec.upto frameFlagsSpec)

/-- 'garretlaw07.FrameJoins', WHERE WHAT IT READS IS OF BULK AT MOST 1048576: true; the input reads as it did. -/
def frameJoinsUptoRow : OpenClaim := { program := "ytcdgpioljilgeaa", sum := "a6dda4bc6a3492193ae4f07421ab0d17400890a2f9b8a2078e9456611bd050b4", func := "garret/garretlaw07.FrameJoins", spec := "frameJoins", inPlace := ["internal/bytealg.Count", "internal/bytealg.IndexByte", "internal/bytealg.Index"], unfollowed := true, recurses := true, named := ["internal/bytealg.MaxLen"], plainKeys := false, apart := false, narrowed := true }
def FrameJoinsUptoSaid : Prop := frameJoinsUptoRow.holds Try.pinned (OpenSpec.upto frameJoinsSpec)

/-- 'garretlaw08.HalfCounts', WHERE WHAT IT READS IS OF BULK AT MOST 1048576: true; the input reads as it did. -/
def halfCountsUptoRow : OpenClaim := { program := "ytcdgpioljilgeaa", sum := "a6dda4bc6a3492193ae4f07421ab0d17400890a2f9b8a2078e9456611bd050b4", func := "garret/garretlaw08.HalfCounts", spec := "halfCounts", inPlace := ["internal/bytealg.MakeNoZero", "internal/bytealg.Count", "internal/bytealg.IndexByte", "internal/bytealg.Index"], unfollowed := true, recurses := true, named := ["internal/bytealg.MaxLen"], plainKeys := false, apart := false, narrowed := true }
def HalfCountsUptoSaid : Prop := halfCountsUptoRow.holds Try.pinned (OpenSpec.upto halfCountsSpec)

/-- 'garretlaw08.HalfRoom', WHERE WHAT IT READS IS OF BULK AT MOST 1048576: true; the input reads as it did. -/
def halfRoomUptoRow : OpenClaim := { program := "ytcdgpioljilgeaa", sum := "a6dda4bc6a3492193ae4f07421ab0d17400890a2f9b8a2078e9456611bd050b4", func := "garret/garretlaw08.HalfRoom", spec := "halfRoom", inPlace := ["internal/bytealg.MakeNoZero", "internal/bytealg.Count", "internal/bytealg.IndexByte", "internal/bytealg.Index"], named := ["internal/bytealg.MaxLen"], plainKeys := false, apart := false, narrowed := true }
def HalfRoomUptoSaid : Prop := halfRoomUptoRow.holds Try.pinned (OpenSpec.upto halfRoomSpec)

/-- 'garretlaw08.HalfPlays', WHERE WHAT IT READS IS OF BULK AT MOST 1048576: true; the input reads as it did. -/
def halfPlaysUptoRow : OpenClaim := { program := "ytcdgpioljilgeaa", sum := "a6dda4bc6a3492193ae4f07421ab0d17400890a2f9b8a2078e9456611bd050b4", func := "garret/garretlaw08.HalfPlays", spec := "halfPlays", inPlace := ["internal/bytealg.MakeNoZero", "internal/bytealg.Count", "internal/bytealg.IndexByte", "internal/bytealg.Index"], named := ["internal/bytealg.MaxLen"], plainKeys := false, apart := false, narrowed := true }
def HalfPlaysUptoSaid : Prop := halfPlaysUptoRow.holds Try.pinned (OpenSpec.upto halfPlaysSpec)

/-- 'garretlaw08.HalfWipes', WHERE WHAT IT READS IS OF BULK AT MOST 1048576: true; the input reads as it did. -/
def halfWipesUptoRow : OpenClaim := { program := "ytcdgpioljilgeaa", sum := "a6dda4bc6a3492193ae4f07421ab0d17400890a2f9b8a2078e9456611bd050b4", func := "garret/garretlaw08.HalfWipes", spec := "halfWipes", inPlace := ["internal/bytealg.MakeNoZero", "internal/bytealg.Count", "internal/bytealg.IndexByte", "internal/bytealg.Index"], named := ["internal/bytealg.MaxLen"], plainKeys := false, apart := false, narrowed := true }
def HalfWipesUptoSaid : Prop := halfWipesUptoRow.holds Try.pinned (OpenSpec.upto halfWipesSpec)

end Rows
end Go.Proofs.Ytcdgpioljilgeaa
