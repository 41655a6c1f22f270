/-
  No cell of these rows narrows 'for every input' (looked for: loops, veiled, ifaces, maps, wideKeys, modest, calm, conditions, laid).
  DERIVED. THE GIVEN ROWS OF THIS SEAT. 16 by the template 'for every input the law returns true; each argument reads behind the call as it read before'; 0 by the template 'total and deterministic' (their statements: YtpbflkbelhlogaaTotals.lean).
  GIVEN WITH THE SEED: the statements are not yours to turn. If you find one false, say at which input.
  Laid BY PROGRAM, IN A SANDBOX (cutbox-rows.mjs): the forced cells as the released guide's own fill.sh prints them over the translation 158d70039ab997af… (all of the seat's roots in one cut). By AI agents, Wed Nov 11 2026. No macro, syntax, notation, axiom, sorry.
-/
import Derived.Test.YtpbflkbelhlogaaChecked
import GoSem.Claim
import GoSem.ClaimJoined
import GoSem.ClaimMapViews
import Derived.JoinedTies
import Derived.KernelRfl
namespace Go.Proofs.Ytpbflkbelhlogaa
/- THE CELL 'sum', in the pinned program and in every row, IS THE sha256 OF THE DUMP (.gsa) THAT YtpbflkbelhlogaaProg.lean LOADS. Nothing in Lean hashes anything: it is a label: what it is worth is what the hold of that sum in a sandbox is worth. -/
noncomputable def Try.pinned : Pinned := { name := "ytpbflkbelhlogaa", sum := "158d70039ab997afc3e0f8f4832bffbc9d06f625eb871c6666e88be852cd81d8", checked := Try.checked }
namespace Rows
def none {H : Type} : Left H := { results := [], args := [] }

/-- 'vyakaranalaw05.MachineCounts': WHATEVER THE INPUT: true; the input reads as it did. -/
def machineCountsSpec : ChangeSpec := { name := "machineCounts", fn := fun _ => fun
  | [d1, d2] => { results := [.lit (.bool true)], args := [d1, d2] }
  | _ => none }
def machineCountsRow : OpenClaim := { program := "ytpbflkbelhlogaa", sum := "158d70039ab997afc3e0f8f4832bffbc9d06f625eb871c6666e88be852cd81d8", func := "vyakarana/vyakaranalaw05.MachineCounts", spec := "machineCounts", unfollowed := true, recurses := true, plainKeys := false, apart := false }
def MachineCountsSaid : Prop := machineCountsRow.holds Try.pinned (OpenSpec.ofChange machineCountsSpec)

/-- ITS FALSE NEIGHBOUR: 'it returns false'. Refute it at one input. -/
def machineCountsWrong : ChangeSpec := { name := "machineCounts", fn := fun _ => fun
  | [d1, d2] => { results := [.lit (.bool false)], args := [d1, d2] }
  | _ => none }
def MachineCountsWrongFalsely : Prop := machineCountsRow.holds Try.pinned (OpenSpec.ofChange machineCountsWrong)

/-- 'vyakaranalaw05.MachineImages': WHATEVER THE INPUT: true; the input reads as it did. -/
def machineImagesSpec : ChangeSpec := { name := "machineImages", fn := fun _ => fun
  | [d1, d2] => { results := [.lit (.bool true)], args := [d1, d2] }
  | _ => none }
def machineImagesRow : OpenClaim := { program := "ytpbflkbelhlogaa", sum := "158d70039ab997afc3e0f8f4832bffbc9d06f625eb871c6666e88be852cd81d8", func := "vyakarana/vyakaranalaw05.MachineImages", spec := "machineImages", unfollowed := true, recurses := true, plainKeys := false, apart := false }
def MachineImagesSaid : Prop := machineImagesRow.holds Try.pinned (OpenSpec.ofChange machineImagesSpec)

/-- ITS FALSE NEIGHBOUR: 'it returns false'. Refute it at one input. -/
def machineImagesWrong : ChangeSpec := { name := "machineImages", fn := fun _ => fun
  | [d1, d2] => { results := [.lit (.bool false)], args := [d1, d2] }
  | _ => none }
def MachineImagesWrongFalsely : Prop := machineImagesRow.holds Try.pinned (OpenSpec.ofChange machineImagesWrong)

/-- 'vyakaranalaw05.MachineFunctions': WHATEVER THE INPUT: true; the input reads as it did. -/
def machineFunctionsSpec : ChangeSpec := { name := "machineFunctions", fn := fun _ => fun
  | [d] => { results := [.lit (.bool true)], args := [d] }
  | _ => none }
def machineFunctionsRow : OpenClaim := { program := "ytpbflkbelhlogaa", sum := "158d70039ab997afc3e0f8f4832bffbc9d06f625eb871c6666e88be852cd81d8", func := "vyakarana/vyakaranalaw05.MachineFunctions", spec := "machineFunctions", unfollowed := true, recurses := true, plainKeys := false, apart := false }
def MachineFunctionsSaid : Prop := machineFunctionsRow.holds Try.pinned (OpenSpec.ofChange machineFunctionsSpec)

/-- ITS FALSE NEIGHBOUR: 'it returns false'. Refute it at one input. -/
def machineFunctionsWrong : ChangeSpec := { name := "machineFunctions", fn := fun _ => fun
  | [d] => { results := [.lit (.bool false)], args := [d] }
  | _ => none }
def MachineFunctionsWrongFalsely : Prop := machineFunctionsRow.holds Try.pinned (OpenSpec.ofChange machineFunctionsWrong)

/-- 'vyakaranalaw05.MachineSources': WHATEVER THE INPUT: true; the input reads as it did. -/
def machineSourcesSpec : ChangeSpec := { name := "machineSources", fn := fun _ => fun
  | [d1, d2] => { results := [.lit (.bool true)], args := [d1, d2] }
  | _ => none }
def machineSourcesRow : OpenClaim := { program := "ytpbflkbelhlogaa", sum := "158d70039ab997afc3e0f8f4832bffbc9d06f625eb871c6666e88be852cd81d8", func := "vyakarana/vyakaranalaw05.MachineSources", spec := "machineSources", unfollowed := true, recurses := true, plainKeys := false, apart := false }
def MachineSourcesSaid : Prop := machineSourcesRow.holds Try.pinned (OpenSpec.ofChange machineSourcesSpec)

/-- ITS FALSE NEIGHBOUR: 'it returns false'. Refute it at one input. -/
def machineSourcesWrong : ChangeSpec := { name := "machineSources", fn := fun _ => fun
  | [d1, d2] => { results := [.lit (.bool false)], args := [d1, d2] }
  | _ => none }
def MachineSourcesWrongFalsely : Prop := machineSourcesRow.holds Try.pinned (OpenSpec.ofChange machineSourcesWrong)

/-- 'vyakaranalaw05.MachineTurns': WHATEVER THE INPUT: true; the input reads as it did. -/
def machineTurnsSpec : ChangeSpec := { name := "machineTurns", fn := fun _ => fun
  | [d1, d2] => { results := [.lit (.bool true)], args := [d1, d2] }
  | _ => none }
def machineTurnsRow : OpenClaim := { program := "ytpbflkbelhlogaa", sum := "158d70039ab997afc3e0f8f4832bffbc9d06f625eb871c6666e88be852cd81d8", func := "vyakarana/vyakaranalaw05.MachineTurns", spec := "machineTurns", unfollowed := true, recurses := true, plainKeys := false, apart := false }
def MachineTurnsSaid : Prop := machineTurnsRow.holds Try.pinned (OpenSpec.ofChange machineTurnsSpec)

/-- ITS FALSE NEIGHBOUR: 'it returns false'. Refute it at one input. -/
def machineTurnsWrong : ChangeSpec := { name := "machineTurns", fn := fun _ => fun
  | [d1, d2] => { results := [.lit (.bool false)], args := [d1, d2] }
  | _ => none }
def MachineTurnsWrongFalsely : Prop := machineTurnsRow.holds Try.pinned (OpenSpec.ofChange machineTurnsWrong)

/-- 'vyakaranalaw05.MachineRuns': WHATEVER THE INPUT: true; the input reads as it did. -/
def machineRunsSpec : ChangeSpec := { name := "machineRuns", fn := fun _ => fun
  | [d1, d2] => { results := [.lit (.bool true)], args := [d1, d2] }
  | _ => none }
def machineRunsRow : OpenClaim := { program := "ytpbflkbelhlogaa", sum := "158d70039ab997afc3e0f8f4832bffbc9d06f625eb871c6666e88be852cd81d8", func := "vyakarana/vyakaranalaw05.MachineRuns", spec := "machineRuns", unfollowed := true, recurses := true, plainKeys := false, apart := false }
def MachineRunsSaid : Prop := machineRunsRow.holds Try.pinned (OpenSpec.ofChange machineRunsSpec)

/-- ITS FALSE NEIGHBOUR: 'it returns false'. Refute it at one input. -/
def machineRunsWrong : ChangeSpec := { name := "machineRuns", fn := fun _ => fun
  | [d1, d2] => { results := [.lit (.bool false)], args := [d1, d2] }
  | _ => none }
def MachineRunsWrongFalsely : Prop := machineRunsRow.holds Try.pinned (OpenSpec.ofChange machineRunsWrong)

/-- 'vyakaranalaw05.MachineAgrees': WHATEVER THE INPUT: true; the input reads as it did. -/
def machineAgreesSpec : ChangeSpec := { name := "machineAgrees", fn := fun _ => fun
  | [d1, d2, d3] => { results := [.lit (.bool true)], args := [d1, d2, d3] }
  | _ => none }
def machineAgreesRow : OpenClaim := { program := "ytpbflkbelhlogaa", sum := "158d70039ab997afc3e0f8f4832bffbc9d06f625eb871c6666e88be852cd81d8", func := "vyakarana/vyakaranalaw05.MachineAgrees", spec := "machineAgrees", unfollowed := true, recurses := true, plainKeys := false, apart := false }
def MachineAgreesSaid : Prop := machineAgreesRow.holds Try.pinned (OpenSpec.ofChange machineAgreesSpec)

/-- ITS FALSE NEIGHBOUR: 'it returns false'. Refute it at one input. -/
def machineAgreesWrong : ChangeSpec := { name := "machineAgrees", fn := fun _ => fun
  | [d1, d2, d3] => { results := [.lit (.bool false)], args := [d1, d2, d3] }
  | _ => none }
def MachineAgreesWrongFalsely : Prop := machineAgreesRow.holds Try.pinned (OpenSpec.ofChange machineAgreesWrong)

/-- 'vyakaranalaw05.MachineChecks': WHATEVER THE INPUT: true; the input reads as it did. -/
def machineChecksSpec : ChangeSpec := { name := "machineChecks", fn := fun _ => fun
  | [d1, d2] => { results := [.lit (.bool true)], args := [d1, d2] }
  | _ => none }
def machineChecksRow : OpenClaim := { program := "ytpbflkbelhlogaa", sum := "158d70039ab997afc3e0f8f4832bffbc9d06f625eb871c6666e88be852cd81d8", func := "vyakarana/vyakaranalaw05.MachineChecks", spec := "machineChecks", unfollowed := true, recurses := true, plainKeys := false, apart := false }
def MachineChecksSaid : Prop := machineChecksRow.holds Try.pinned (OpenSpec.ofChange machineChecksSpec)

/-- ITS FALSE NEIGHBOUR: 'it returns false'. Refute it at one input. -/
def machineChecksWrong : ChangeSpec := { name := "machineChecks", fn := fun _ => fun
  | [d1, d2] => { results := [.lit (.bool false)], args := [d1, d2] }
  | _ => none }
def MachineChecksWrongFalsely : Prop := machineChecksRow.holds Try.pinned (OpenSpec.ofChange machineChecksWrong)

/-- 'vyakaranalaw05.MachineRelates': WHATEVER THE INPUT: true; the input reads as it did. -/
def machineRelatesSpec : ChangeSpec := { name := "machineRelates", fn := fun _ => fun
  | [d1, d2, d3] => { results := [.lit (.bool true)], args := [d1, d2, d3] }
  | _ => none }
def machineRelatesRow : OpenClaim := { program := "ytpbflkbelhlogaa", sum := "158d70039ab997afc3e0f8f4832bffbc9d06f625eb871c6666e88be852cd81d8", func := "vyakarana/vyakaranalaw05.MachineRelates", spec := "machineRelates", unfollowed := true, recurses := true, plainKeys := false, apart := false }
def MachineRelatesSaid : Prop := machineRelatesRow.holds Try.pinned (OpenSpec.ofChange machineRelatesSpec)

/-- ITS FALSE NEIGHBOUR: 'it returns false'. Refute it at one input. -/
def machineRelatesWrong : ChangeSpec := { name := "machineRelates", fn := fun _ => fun
  | [d1, d2, d3] => { results := [.lit (.bool false)], args := [d1, d2, d3] }
  | _ => none }
def MachineRelatesWrongFalsely : Prop := machineRelatesRow.holds Try.pinned (OpenSpec.ofChange machineRelatesWrong)

/-- 'vyakaranatop.TopMachines': WHATEVER THE INPUT: true; the input reads as it did. -/
def topMachinesSpec : ChangeSpec := { name := "topMachines", fn := fun _ => fun
  | [d1, d2, d3] => { results := [.lit (.bool true)], args := [d1, d2, d3] }
  | _ => none }
def topMachinesRow : OpenClaim := { program := "ytpbflkbelhlogaa", sum := "158d70039ab997afc3e0f8f4832bffbc9d06f625eb871c6666e88be852cd81d8", func := "vyakarana/vyakaranatop.TopMachines", spec := "topMachines", unfollowed := true, recurses := true, plainKeys := false, apart := false }
def TopMachinesSaid : Prop := topMachinesRow.holds Try.pinned (OpenSpec.ofChange topMachinesSpec)

/-- ITS FALSE NEIGHBOUR: 'it returns false'. Refute it at one input. -/
def topMachinesWrong : ChangeSpec := { name := "topMachines", fn := fun _ => fun
  | [d1, d2, d3] => { results := [.lit (.bool false)], args := [d1, d2, d3] }
  | _ => none }
def TopMachinesWrongFalsely : Prop := topMachinesRow.holds Try.pinned (OpenSpec.ofChange topMachinesWrong)

/-- 'vyakaranalaw05.MachineShortest': WHATEVER THE INPUT: true; the input reads as it did. -/
def machineShortestSpec : ChangeSpec := { name := "machineShortest", fn := fun _ => fun
  | [d] => { results := [.lit (.bool true)], args := [d] }
  | _ => none }
def machineShortestRow : OpenClaim := { program := "ytpbflkbelhlogaa", sum := "158d70039ab997afc3e0f8f4832bffbc9d06f625eb871c6666e88be852cd81d8", func := "vyakarana/vyakaranalaw05.MachineShortest", spec := "machineShortest", unfollowed := true, recurses := true, plainKeys := false, apart := false }
def MachineShortestSaid : Prop := machineShortestRow.holds Try.pinned (OpenSpec.ofChange machineShortestSpec)

/-- ITS FALSE NEIGHBOUR: 'it returns false'. Refute it at one input. -/
def machineShortestWrong : ChangeSpec := { name := "machineShortest", fn := fun _ => fun
  | [d] => { results := [.lit (.bool false)], args := [d] }
  | _ => none }
def MachineShortestWrongFalsely : Prop := machineShortestRow.holds Try.pinned (OpenSpec.ofChange machineShortestWrong)

/-- 'vyakaranalaw05.MachinePlains': WHATEVER THE INPUT: true; the input reads as it did. -/
def machinePlainsSpec : ChangeSpec := { name := "machinePlains", fn := fun _ => fun
  | [d1, d2, d3] => { results := [.lit (.bool true)], args := [d1, d2, d3] }
  | _ => none }
def machinePlainsRow : OpenClaim := { program := "ytpbflkbelhlogaa", sum := "158d70039ab997afc3e0f8f4832bffbc9d06f625eb871c6666e88be852cd81d8", func := "vyakarana/vyakaranalaw05.MachinePlains", spec := "machinePlains", unfollowed := true, recurses := true, plainKeys := false, apart := false }
def MachinePlainsSaid : Prop := machinePlainsRow.holds Try.pinned (OpenSpec.ofChange machinePlainsSpec)

/-- ITS FALSE NEIGHBOUR: 'it returns false'. Refute it at one input. -/
def machinePlainsWrong : ChangeSpec := { name := "machinePlains", fn := fun _ => fun
  | [d1, d2, d3] => { results := [.lit (.bool false)], args := [d1, d2, d3] }
  | _ => none }
def MachinePlainsWrongFalsely : Prop := machinePlainsRow.holds Try.pinned (OpenSpec.ofChange machinePlainsWrong)

/-- 'vyakaranalaw05.MachineComposes': WHATEVER THE INPUT: true; the input reads as it did. -/
def machineComposesSpec : ChangeSpec := { name := "machineComposes", fn := fun _ => fun
  | [d1, d2] => { results := [.lit (.bool true)], args := [d1, d2] }
  | _ => none }
def machineComposesRow : OpenClaim := { program := "ytpbflkbelhlogaa", sum := "158d70039ab997afc3e0f8f4832bffbc9d06f625eb871c6666e88be852cd81d8", func := "vyakarana/vyakaranalaw05.MachineComposes", spec := "machineComposes", unfollowed := true, recurses := true, plainKeys := false, apart := false }
def MachineComposesSaid : Prop := machineComposesRow.holds Try.pinned (OpenSpec.ofChange machineComposesSpec)

/-- ITS FALSE NEIGHBOUR: 'it returns false'. Refute it at one input. -/
def machineComposesWrong : ChangeSpec := { name := "machineComposes", fn := fun _ => fun
  | [d1, d2] => { results := [.lit (.bool false)], args := [d1, d2] }
  | _ => none }
def MachineComposesWrongFalsely : Prop := machineComposesRow.holds Try.pinned (OpenSpec.ofChange machineComposesWrong)

/-- 'vyakaranalaw05.MachineFeeds': WHATEVER THE INPUT: true; the input reads as it did. -/
def machineFeedsSpec : ChangeSpec := { name := "machineFeeds", fn := fun _ => fun
  | [d1, d2, d3] => { results := [.lit (.bool true)], args := [d1, d2, d3] }
  | _ => none }
def machineFeedsRow : OpenClaim := { program := "ytpbflkbelhlogaa", sum := "158d70039ab997afc3e0f8f4832bffbc9d06f625eb871c6666e88be852cd81d8", func := "vyakarana/vyakaranalaw05.MachineFeeds", spec := "machineFeeds", unfollowed := true, recurses := true, plainKeys := false, apart := false }
def MachineFeedsSaid : Prop := machineFeedsRow.holds Try.pinned (OpenSpec.ofChange machineFeedsSpec)

/-- ITS FALSE NEIGHBOUR: 'it returns false'. Refute it at one input. -/
def machineFeedsWrong : ChangeSpec := { name := "machineFeeds", fn := fun _ => fun
  | [d1, d2, d3] => { results := [.lit (.bool false)], args := [d1, d2, d3] }
  | _ => none }
def MachineFeedsWrongFalsely : Prop := machineFeedsRow.holds Try.pinned (OpenSpec.ofChange machineFeedsWrong)

/-- 'vyakaranalaw05.MachineEithers': WHATEVER THE INPUT: true; the input reads as it did. -/
def machineEithersSpec : ChangeSpec := { name := "machineEithers", fn := fun _ => fun
  | [d1, d2, d3] => { results := [.lit (.bool true)], args := [d1, d2, d3] }
  | _ => none }
def machineEithersRow : OpenClaim := { program := "ytpbflkbelhlogaa", sum := "158d70039ab997afc3e0f8f4832bffbc9d06f625eb871c6666e88be852cd81d8", func := "vyakarana/vyakaranalaw05.MachineEithers", spec := "machineEithers", unfollowed := true, recurses := true, plainKeys := false, apart := false }
def MachineEithersSaid : Prop := machineEithersRow.holds Try.pinned (OpenSpec.ofChange machineEithersSpec)

/-- ITS FALSE NEIGHBOUR: 'it returns false'. Refute it at one input. -/
def machineEithersWrong : ChangeSpec := { name := "machineEithers", fn := fun _ => fun
  | [d1, d2, d3] => { results := [.lit (.bool false)], args := [d1, d2, d3] }
  | _ => none }
def MachineEithersWrongFalsely : Prop := machineEithersRow.holds Try.pinned (OpenSpec.ofChange machineEithersWrong)

/-- 'vyakaranalaw05.MachineTrims': WHATEVER THE INPUT: true; the input reads as it did. -/
def machineTrimsSpec : ChangeSpec := { name := "machineTrims", fn := fun _ => fun
  | [d1, d2] => { results := [.lit (.bool true)], args := [d1, d2] }
  | _ => none }
def machineTrimsRow : OpenClaim := { program := "ytpbflkbelhlogaa", sum := "158d70039ab997afc3e0f8f4832bffbc9d06f625eb871c6666e88be852cd81d8", func := "vyakarana/vyakaranalaw05.MachineTrims", spec := "machineTrims", unfollowed := true, recurses := true, plainKeys := false, apart := false }
def MachineTrimsSaid : Prop := machineTrimsRow.holds Try.pinned (OpenSpec.ofChange machineTrimsSpec)

/-- ITS FALSE NEIGHBOUR: 'it returns false'. Refute it at one input. -/
def machineTrimsWrong : ChangeSpec := { name := "machineTrims", fn := fun _ => fun
  | [d1, d2] => { results := [.lit (.bool false)], args := [d1, d2] }
  | _ => none }
def MachineTrimsWrongFalsely : Prop := machineTrimsRow.holds Try.pinned (OpenSpec.ofChange machineTrimsWrong)

/- THE SECOND FORM. 'bulk': how many values and letters a reading holds, each counted each time it is reached (what is shared counts as often as it is met; a slice's spare places count too). A statement '..UptoSaid' is the law's where the arguments, and the package variables that the reading takes, are together of bulk at most 1048576: NARROWER than '..Said'. Prove '..Said' where nothing that the law and all that it calls make is longer than what came in: it says more and counts as full. Else prove '..UptoSaid'. A law counts once. -/
mutual
def uptoBulk {H : Type} : DataW H → Nat
  | .lit (.string bytes) => bytes.length + 1
  | .lit _ => 1
  | .nil => 1
  | .ptr d => uptoBulk d + 1
  | .slice elems spare => uptoBulkAll elems + uptoBulkAll spare + 1
  | .agg parts => uptoBulkAll parts + 1
  | .iface _ d => uptoBulk d + 1
  | .map entries => uptoBulkEntries entries + 1
  | .held _ => 1
def uptoBulkAll {H : Type} : List (DataW H) → Nat
  | [] => 0
  | d :: r => uptoBulk d + uptoBulkAll r
def uptoBulkEntries {H : Type} : List (Lit × DataW H) → Nat
  | [] => 0
  | x :: r => uptoBulkEntry x + uptoBulkEntries r
def uptoBulkEntry {H : Type} : Lit × DataW H → Nat
  | (.string bytes, d) => bytes.length + uptoBulk d + 1
  | (_, d) => uptoBulk d + 1
 end
def uptoSmall : (H : Type) → List (DataW H) → Bool := fun _ ds => decide (uptoBulkAll ds ≤ 1048576)
def OpenSpec.upto (s : _root_.Go.ChangeSpec) : _root_.Go.OpenSpec := { _root_.Go.OpenSpec.ofChange s with cond := some uptoSmall }

/-- 'vyakaranalaw05.MachineCounts', WHERE WHAT IT READS IS OF BULK AT MOST 1048576: true; the input reads as it did. -/
def machineCountsUptoRow : OpenClaim := { program := "ytpbflkbelhlogaa", sum := "158d70039ab997afc3e0f8f4832bffbc9d06f625eb871c6666e88be852cd81d8", func := "vyakarana/vyakaranalaw05.MachineCounts", spec := "machineCounts", unfollowed := true, recurses := true, plainKeys := false, apart := false, narrowed := true }
def MachineCountsUptoSaid : Prop := machineCountsUptoRow.holds Try.pinned (OpenSpec.upto machineCountsSpec)

/-- 'vyakaranalaw05.MachineImages', WHERE WHAT IT READS IS OF BULK AT MOST 1048576: true; the input reads as it did. -/
def machineImagesUptoRow : OpenClaim := { program := "ytpbflkbelhlogaa", sum := "158d70039ab997afc3e0f8f4832bffbc9d06f625eb871c6666e88be852cd81d8", func := "vyakarana/vyakaranalaw05.MachineImages", spec := "machineImages", unfollowed := true, recurses := true, plainKeys := false, apart := false, narrowed := true }
def MachineImagesUptoSaid : Prop := machineImagesUptoRow.holds Try.pinned (OpenSpec.upto machineImagesSpec)

/-- 'vyakaranalaw05.MachineFunctions', WHERE WHAT IT READS IS OF BULK AT MOST 1048576: true; the input reads as it did. -/
def machineFunctionsUptoRow : OpenClaim := { program := "ytpbflkbelhlogaa", sum := "158d70039ab997afc3e0f8f4832bffbc9d06f625eb871c6666e88be852cd81d8", func := "vyakarana/vyakaranalaw05.MachineFunctions", spec := "machineFunctions", unfollowed := true, recurses := true, plainKeys := false, apart := false, narrowed := true }
def MachineFunctionsUptoSaid : Prop := machineFunctionsUptoRow.holds Try.pinned (OpenSpec.upto machineFunctionsSpec)

/-- 'vyakaranalaw05.MachineSources', WHERE WHAT IT READS IS OF BULK AT MOST 1048576: true; the input reads as it did. -/
def machineSourcesUptoRow : OpenClaim := { program := "ytpbflkbelhlogaa", sum := "158d70039ab997afc3e0f8f4832bffbc9d06f625eb871c6666e88be852cd81d8", func := "vyakarana/vyakaranalaw05.MachineSources", spec := "machineSources", unfollowed := true, recurses := true, plainKeys := false, apart := false, narrowed := true }
def MachineSourcesUptoSaid : Prop := machineSourcesUptoRow.holds Try.pinned (OpenSpec.upto machineSourcesSpec)

/-- 'vyakaranalaw05.MachineTurns', WHERE WHAT IT READS IS OF BULK AT MOST 1048576: true; the input reads as it did. -/
def machineTurnsUptoRow : OpenClaim := { program := "ytpbflkbelhlogaa", sum := "158d70039ab997afc3e0f8f4832bffbc9d06f625eb871c6666e88be852cd81d8", func := "vyakarana/vyakaranalaw05.MachineTurns", spec := "machineTurns", unfollowed := true, recurses := true, plainKeys := false, apart := false, narrowed := true }
def MachineTurnsUptoSaid : Prop := machineTurnsUptoRow.holds Try.pinned (OpenSpec.upto machineTurnsSpec)

/-- 'vyakaranalaw05.MachineRuns', WHERE WHAT IT READS IS OF BULK AT MOST 1048576: true; the input reads as it did. -/
def machineRunsUptoRow : OpenClaim := { program := "ytpbflkbelhlogaa", sum := "158d70039ab997afc3e0f8f4832bffbc9d06f625eb871c6666e88be852cd81d8", func := "vyakarana/vyakaranalaw05.MachineRuns", spec := "machineRuns", unfollowed := true, recurses := true, plainKeys := false, apart := false, narrowed := true }
def MachineRunsUptoSaid : Prop := machineRunsUptoRow.holds Try.pinned (OpenSpec.upto machineRunsSpec)

/-- 'vyakaranalaw05.MachineAgrees', WHERE WHAT IT READS IS OF BULK AT MOST 1048576: true; the input reads as it did. -/
def machineAgreesUptoRow : OpenClaim := { program := "ytpbflkbelhlogaa", sum := "158d70039ab997afc3e0f8f4832bffbc9d06f625eb871c6666e88be852cd81d8", func := "vyakarana/vyakaranalaw05.MachineAgrees", spec := "machineAgrees", unfollowed := true, recurses := true, plainKeys := false, apart := false, narrowed := true }
def MachineAgreesUptoSaid : Prop := machineAgreesUptoRow.holds Try.pinned (OpenSpec.upto machineAgreesSpec)

/-- 'vyakaranalaw05.MachineChecks', WHERE WHAT IT READS IS OF BULK AT MOST 1048576: true; the input reads as it did. -/
def machineChecksUptoRow : OpenClaim := { program := "ytpbflkbelhlogaa", sum := "158d70039ab997afc3e0f8f4832bffbc9d06f625eb871c6666e88be852cd81d8", func := "vyakarana/vyakaranalaw05.MachineChecks", spec := "machineChecks", unfollowed := true, recurses := true, plainKeys := false, apart := false, narrowed := true }
def MachineChecksUptoSaid : Prop := machineChecksUptoRow.holds Try.pinned (OpenSpec.upto machineChecksSpec)

/-- 'vyakaranalaw05.MachineRelates', WHERE WHAT IT READS IS OF BULK AT MOST 1048576: true; the input reads as it did. -/
def machineRelatesUptoRow : OpenClaim := { program := "ytpbflkbelhlogaa", sum := "158d70039ab997afc3e0f8f4832bffbc9d06f625eb871c6666e88be852cd81d8", func := "vyakarana/vyakaranalaw05.MachineRelates", spec := "machineRelates", unfollowed := true, recurses := true, plainKeys := false, apart := false, narrowed := true }
def MachineRelatesUptoSaid : Prop := machineRelatesUptoRow.holds Try.pinned (OpenSpec.upto machineRelatesSpec)

/-- 'vyakaranatop.TopMachines', WHERE WHAT IT READS IS OF BULK AT MOST 1048576: true; the input reads as it did. -/
def topMachinesUptoRow : OpenClaim := { program := "ytpbflkbelhlogaa", sum := "158d70039ab997afc3e0f8f4832bffbc9d06f625eb871c6666e88be852cd81d8", func := "vyakarana/vyakaranatop.TopMachines", spec := "topMachines", unfollowed := true, recurses := true, plainKeys := false, apart := false, narrowed := true }
def TopMachinesUptoSaid : Prop := topMachinesUptoRow.holds Try.pinned (OpenSpec.upto topMachinesSpec)

/-- 'vyakaranalaw05.MachineShortest', WHERE WHAT IT READS IS OF BULK AT MOST 1048576: true; the input reads as it did. -/
def machineShortestUptoRow : OpenClaim := { program := "ytpbflkbelhlogaa", sum := "158d70039ab997afc3e0f8f4832bffbc9d06f625eb871c6666e88be852cd81d8", func := "vyakarana/vyakaranalaw05.MachineShortest", spec := "machineShortest", unfollowed := true, recurses := true, plainKeys := false, apart := false, narrowed := true }
def MachineShortestUptoSaid : Prop := machineShortestUptoRow.holds Try.pinned (OpenSpec.upto machineShortestSpec)

/-- 'vyakaranalaw05.MachinePlains', WHERE WHAT IT READS IS OF BULK AT MOST 1048576: true; the input reads as it did. -/
def machinePlainsUptoRow : OpenClaim := { program := "ytpbflkbelhlogaa", sum := "158d70039ab997afc3e0f8f4832bffbc9d06f625eb871c6666e88be852cd81d8", func := "vyakarana/vyakaranalaw05.MachinePlains", spec := "machinePlains", unfollowed := true, recurses := true, plainKeys := false, apart := false, narrowed := true }
def MachinePlainsUptoSaid : Prop := machinePlainsUptoRow.holds Try.pinned (OpenSpec.upto machinePlainsSpec)

/-- 'vyakaranalaw05.MachineComposes', WHERE WHAT IT READS IS OF BULK AT MOST 1048576: true; the input reads as it did. -/
def machineComposesUptoRow : OpenClaim := { program := "ytpbflkbelhlogaa", sum := "158d70039ab997afc3e0f8f4832bffbc9d06f625eb871c6666e88be852cd81d8", func := "vyakarana/vyakaranalaw05.MachineComposes", spec := "machineComposes", unfollowed := true, recurses := true, plainKeys := false, apart := false, narrowed := true }
def MachineComposesUptoSaid : Prop := machineComposesUptoRow.holds Try.pinned (OpenSpec.upto machineComposesSpec)

/-- 'vyakaranalaw05.MachineFeeds', WHERE WHAT IT READS IS OF BULK AT MOST 1048576: true; the input reads as it did. -/
def machineFeedsUptoRow : OpenClaim := { program := "ytpbflkbelhlogaa", sum := "158d70039ab997afc3e0f8f4832bffbc9d06f625eb871c6666e88be852cd81d8", func := "vyakarana/vyakaranalaw05.MachineFeeds", spec := "machineFeeds", unfollowed := true, recurses := true, plainKeys := false, apart := false, narrowed := true }
def MachineFeedsUptoSaid : Prop := machineFeedsUptoRow.holds Try.pinned (OpenSpec.upto machineFeedsSpec)

/-- 'vyakaranalaw05.MachineEithers', WHERE WHAT IT READS IS OF BULK AT MOST 1048576: true; the input reads as it did. -/
def machineEithersUptoRow : OpenClaim := { program := "ytpbflkbelhlogaa", sum := "158d70039ab997afc3e0f8f4832bffbc9d06f625eb871c6666e88be852cd81d8", func := "vyakarana/vyakaranalaw05.MachineEithers", spec := "machineEithers", unfollowed := true, recurses := true, plainKeys := false, apart := false, narrowed := true }
def MachineEithersUptoSaid : Prop := machineEithersUptoRow.holds Try.pinned (OpenSpec.upto machineEithersSpec)

/-- 'vyakaranalaw05.MachineTrims', WHERE WHAT IT READS IS OF BULK AT MOST 1048576: true; the input reads as it did. -/
def machineTrimsUptoRow : OpenClaim := { program := "ytpbflkbelhlogaa", sum := "158d70039ab997afc3e0f8f4832bffbc9d06f625eb871c6666e88be852cd81d8", func := "vyakarana/vyakaranalaw05.MachineTrims", spec := "machineTrims", unfollowed := true, recurses := true, plainKeys := false, apart := false, narrowed := true }
def MachineTrimsUptoSaid : Prop := machineTrimsUptoRow.holds Try.pinned (OpenSpec.upto machineTrimsSpec)

end Rows
end Go.Proofs.Ytpbflkbelhlogaa
