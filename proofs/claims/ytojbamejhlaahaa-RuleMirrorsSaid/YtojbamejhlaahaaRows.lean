/-
  No cell of these rows narrows 'for every input' (looked for: loops, veiled, ifaces, maps, wideKeys, modest, calm, conditions, laid).
  DERIVED. THE GIVEN ROWS OF THIS SEAT. 14 by the template 'for every input the law returns true; each argument reads behind the call as it read before'; 0 by the template 'total and deterministic' (their statements: YtojbamejhlaahaaTotals.lean).
  GIVEN WITH THE SEED: the statements are not yours to turn. If you find one false, say at which input.
  Laid BY PROGRAM, IN A SANDBOX (cutbox-rows.mjs): the forced cells as the released guide's own fill.sh prints them over the translation 1c373558b3626a24… (all of the seat's roots in one cut). By AI agents, Wed Nov 11 2026. No macro, syntax, notation, axiom, sorry.
-/
import Derived.Test.YtojbamejhlaahaaChecked
import GoSem.Claim
import GoSem.ClaimJoined
import GoSem.ClaimMapViews
import Derived.JoinedTies
import Derived.KernelRfl
namespace Go.Proofs.Ytojbamejhlaahaa
/- THE CELL 'sum', in the pinned program and in every row, IS THE sha256 OF THE DUMP (.gsa) THAT YtojbamejhlaahaaProg.lean LOADS. Nothing in Lean hashes anything: it is a label: what it is worth is what the hold of that sum in a sandbox is worth. -/
noncomputable def Try.pinned : Pinned := { name := "ytojbamejhlaahaa", sum := "1c373558b3626a243275f8b4651f8554b37bf6a709f795b1743ce8e7a54ae361", checked := Try.checked }
namespace Rows
def none {H : Type} : Left H := { results := [], args := [] }

/-- 'vyakaranalaw02.RuleAlong': WHATEVER THE INPUT: true; the input reads as it did. -/
def ruleAlongSpec : ChangeSpec := { name := "ruleAlong", fn := fun _ => fun
  | [d1, d2] => { results := [.lit (.bool true)], args := [d1, d2] }
  | _ => none }
def ruleAlongRow : OpenClaim := { program := "ytojbamejhlaahaa", sum := "1c373558b3626a243275f8b4651f8554b37bf6a709f795b1743ce8e7a54ae361", func := "vyakarana/vyakaranalaw02.RuleAlong", spec := "ruleAlong", unfollowed := true, recurses := true, apart := false }
def RuleAlongSaid : Prop := ruleAlongRow.holds Try.pinned (OpenSpec.ofChange ruleAlongSpec)

/-- ITS FALSE NEIGHBOUR: 'it returns false'. Refute it at one input. -/
def ruleAlongWrong : ChangeSpec := { name := "ruleAlong", fn := fun _ => fun
  | [d1, d2] => { results := [.lit (.bool false)], args := [d1, d2] }
  | _ => none }
def RuleAlongWrongFalsely : Prop := ruleAlongRow.holds Try.pinned (OpenSpec.ofChange ruleAlongWrong)

/-- 'vyakaranalaw02.RulePlaces': WHATEVER THE INPUT: true; the input reads as it did. -/
def rulePlacesSpec : ChangeSpec := { name := "rulePlaces", fn := fun _ => fun
  | [d1, d2] => { results := [.lit (.bool true)], args := [d1, d2] }
  | _ => none }
def rulePlacesRow : OpenClaim := { program := "ytojbamejhlaahaa", sum := "1c373558b3626a243275f8b4651f8554b37bf6a709f795b1743ce8e7a54ae361", func := "vyakarana/vyakaranalaw02.RulePlaces", spec := "rulePlaces", unfollowed := true, recurses := true, apart := false }
def RulePlacesSaid : Prop := rulePlacesRow.holds Try.pinned (OpenSpec.ofChange rulePlacesSpec)

/-- ITS FALSE NEIGHBOUR: 'it returns false'. Refute it at one input. -/
def rulePlacesWrong : ChangeSpec := { name := "rulePlaces", fn := fun _ => fun
  | [d1, d2] => { results := [.lit (.bool false)], args := [d1, d2] }
  | _ => none }
def RulePlacesWrongFalsely : Prop := rulePlacesRow.holds Try.pinned (OpenSpec.ofChange rulePlacesWrong)

/-- 'vyakaranalaw02.RuleAll': WHATEVER THE INPUT: true; the input reads as it did. -/
def ruleAllSpec : ChangeSpec := { name := "ruleAll", fn := fun _ => fun
  | [d1, d2] => { results := [.lit (.bool true)], args := [d1, d2] }
  | _ => none }
def ruleAllRow : OpenClaim := { program := "ytojbamejhlaahaa", sum := "1c373558b3626a243275f8b4651f8554b37bf6a709f795b1743ce8e7a54ae361", func := "vyakarana/vyakaranalaw02.RuleAll", spec := "ruleAll", unfollowed := true, recurses := true, apart := false }
def RuleAllSaid : Prop := ruleAllRow.holds Try.pinned (OpenSpec.ofChange ruleAllSpec)

/-- ITS FALSE NEIGHBOUR: 'it returns false'. Refute it at one input. -/
def ruleAllWrong : ChangeSpec := { name := "ruleAll", fn := fun _ => fun
  | [d1, d2] => { results := [.lit (.bool false)], args := [d1, d2] }
  | _ => none }
def RuleAllWrongFalsely : Prop := ruleAllRow.holds Try.pinned (OpenSpec.ofChange ruleAllWrong)

/-- 'vyakaranalaw02.RuleApplies': WHATEVER THE INPUT: true; the input reads as it did. -/
def ruleAppliesSpec : ChangeSpec := { name := "ruleApplies", fn := fun _ => fun
  | [d1, d2, d3] => { results := [.lit (.bool true)], args := [d1, d2, d3] }
  | _ => none }
def ruleAppliesRow : OpenClaim := { program := "ytojbamejhlaahaa", sum := "1c373558b3626a243275f8b4651f8554b37bf6a709f795b1743ce8e7a54ae361", func := "vyakarana/vyakaranalaw02.RuleApplies", spec := "ruleApplies", unfollowed := true, recurses := true, apart := false }
def RuleAppliesSaid : Prop := ruleAppliesRow.holds Try.pinned (OpenSpec.ofChange ruleAppliesSpec)

/-- ITS FALSE NEIGHBOUR: 'it returns false'. Refute it at one input. -/
def ruleAppliesWrong : ChangeSpec := { name := "ruleApplies", fn := fun _ => fun
  | [d1, d2, d3] => { results := [.lit (.bool false)], args := [d1, d2, d3] }
  | _ => none }
def RuleAppliesWrongFalsely : Prop := ruleAppliesRow.holds Try.pinned (OpenSpec.ofChange ruleAppliesWrong)

/-- 'vyakaranalaw02.RuleMays': WHATEVER THE INPUT: true; the input reads as it did. -/
def ruleMaysSpec : ChangeSpec := { name := "ruleMays", fn := fun _ => fun
  | [d1, d2, d3] => { results := [.lit (.bool true)], args := [d1, d2, d3] }
  | _ => none }
def ruleMaysRow : OpenClaim := { program := "ytojbamejhlaahaa", sum := "1c373558b3626a243275f8b4651f8554b37bf6a709f795b1743ce8e7a54ae361", func := "vyakarana/vyakaranalaw02.RuleMays", spec := "ruleMays", unfollowed := true, recurses := true, apart := false }
def RuleMaysSaid : Prop := ruleMaysRow.holds Try.pinned (OpenSpec.ofChange ruleMaysSpec)

/-- ITS FALSE NEIGHBOUR: 'it returns false'. Refute it at one input. -/
def ruleMaysWrong : ChangeSpec := { name := "ruleMays", fn := fun _ => fun
  | [d1, d2, d3] => { results := [.lit (.bool false)], args := [d1, d2, d3] }
  | _ => none }
def RuleMaysWrongFalsely : Prop := ruleMaysRow.holds Try.pinned (OpenSpec.ofChange ruleMaysWrong)

/-- 'vyakaranalaw02.RuleMeasures': WHATEVER THE INPUT: true; the input reads as it did. -/
def ruleMeasuresSpec : ChangeSpec := { name := "ruleMeasures", fn := fun _ => fun
  | [d] => { results := [.lit (.bool true)], args := [d] }
  | _ => none }
def ruleMeasuresRow : OpenClaim := { program := "ytojbamejhlaahaa", sum := "1c373558b3626a243275f8b4651f8554b37bf6a709f795b1743ce8e7a54ae361", func := "vyakarana/vyakaranalaw02.RuleMeasures", spec := "ruleMeasures", unfollowed := true, recurses := true, apart := false }
def RuleMeasuresSaid : Prop := ruleMeasuresRow.holds Try.pinned (OpenSpec.ofChange ruleMeasuresSpec)

/-- ITS FALSE NEIGHBOUR: 'it returns false'. Refute it at one input. -/
def ruleMeasuresWrong : ChangeSpec := { name := "ruleMeasures", fn := fun _ => fun
  | [d] => { results := [.lit (.bool false)], args := [d] }
  | _ => none }
def RuleMeasuresWrongFalsely : Prop := ruleMeasuresRow.holds Try.pinned (OpenSpec.ofChange ruleMeasuresWrong)

/-- 'vyakaranalaw02.RuleCommutes': WHATEVER THE INPUT: true; the input reads as it did. -/
def ruleCommutesSpec : ChangeSpec := { name := "ruleCommutes", fn := fun _ => fun
  | [d1, d2] => { results := [.lit (.bool true)], args := [d1, d2] }
  | _ => none }
def ruleCommutesRow : OpenClaim := { program := "ytojbamejhlaahaa", sum := "1c373558b3626a243275f8b4651f8554b37bf6a709f795b1743ce8e7a54ae361", func := "vyakarana/vyakaranalaw02.RuleCommutes", spec := "ruleCommutes", unfollowed := true, recurses := true, apart := false }
def RuleCommutesSaid : Prop := ruleCommutesRow.holds Try.pinned (OpenSpec.ofChange ruleCommutesSpec)

/-- ITS FALSE NEIGHBOUR: 'it returns false'. Refute it at one input. -/
def ruleCommutesWrong : ChangeSpec := { name := "ruleCommutes", fn := fun _ => fun
  | [d1, d2] => { results := [.lit (.bool false)], args := [d1, d2] }
  | _ => none }
def RuleCommutesWrongFalsely : Prop := ruleCommutesRow.holds Try.pinned (OpenSpec.ofChange ruleCommutesWrong)

/-- 'vyakaranalaw02.RuleFirsts': WHATEVER THE INPUT: true; the input reads as it did. -/
def ruleFirstsSpec : ChangeSpec := { name := "ruleFirsts", fn := fun _ => fun
  | [d1, d2] => { results := [.lit (.bool true)], args := [d1, d2] }
  | _ => none }
def ruleFirstsRow : OpenClaim := { program := "ytojbamejhlaahaa", sum := "1c373558b3626a243275f8b4651f8554b37bf6a709f795b1743ce8e7a54ae361", func := "vyakarana/vyakaranalaw02.RuleFirsts", spec := "ruleFirsts", unfollowed := true, recurses := true, apart := false }
def RuleFirstsSaid : Prop := ruleFirstsRow.holds Try.pinned (OpenSpec.ofChange ruleFirstsSpec)

/-- ITS FALSE NEIGHBOUR: 'it returns false'. Refute it at one input. -/
def ruleFirstsWrong : ChangeSpec := { name := "ruleFirsts", fn := fun _ => fun
  | [d1, d2] => { results := [.lit (.bool false)], args := [d1, d2] }
  | _ => none }
def RuleFirstsWrongFalsely : Prop := ruleFirstsRow.holds Try.pinned (OpenSpec.ofChange ruleFirstsWrong)

/-- 'vyakaranalaw02.RuleSpecial': WHATEVER THE INPUT: true; the input reads as it did. -/
def ruleSpecialSpec : ChangeSpec := { name := "ruleSpecial", fn := fun _ => fun
  | [d1, d2] => { results := [.lit (.bool true)], args := [d1, d2] }
  | _ => none }
def ruleSpecialRow : OpenClaim := { program := "ytojbamejhlaahaa", sum := "1c373558b3626a243275f8b4651f8554b37bf6a709f795b1743ce8e7a54ae361", func := "vyakarana/vyakaranalaw02.RuleSpecial", spec := "ruleSpecial", unfollowed := true, recurses := true, apart := false }
def RuleSpecialSaid : Prop := ruleSpecialRow.holds Try.pinned (OpenSpec.ofChange ruleSpecialSpec)

/-- ITS FALSE NEIGHBOUR: 'it returns false'. Refute it at one input. -/
def ruleSpecialWrong : ChangeSpec := { name := "ruleSpecial", fn := fun _ => fun
  | [d1, d2] => { results := [.lit (.bool false)], args := [d1, d2] }
  | _ => none }
def RuleSpecialWrongFalsely : Prop := ruleSpecialRow.holds Try.pinned (OpenSpec.ofChange ruleSpecialWrong)

/-- 'vyakaranalaw02.RuleMirrors': WHATEVER THE INPUT: true; the input reads as it did. -/
def ruleMirrorsSpec : ChangeSpec := { name := "ruleMirrors", fn := fun _ => fun
  | [d1, d2] => { results := [.lit (.bool true)], args := [d1, d2] }
  | _ => none }
def ruleMirrorsRow : OpenClaim := { program := "ytojbamejhlaahaa", sum := "1c373558b3626a243275f8b4651f8554b37bf6a709f795b1743ce8e7a54ae361", func := "vyakarana/vyakaranalaw02.RuleMirrors", spec := "ruleMirrors", unfollowed := true, recurses := true, apart := false }
def RuleMirrorsSaid : Prop := ruleMirrorsRow.holds Try.pinned (OpenSpec.ofChange ruleMirrorsSpec)

/-- ITS FALSE NEIGHBOUR: 'it returns false'. Refute it at one input. -/
def ruleMirrorsWrong : ChangeSpec := { name := "ruleMirrors", fn := fun _ => fun
  | [d1, d2] => { results := [.lit (.bool false)], args := [d1, d2] }
  | _ => none }
def RuleMirrorsWrongFalsely : Prop := ruleMirrorsRow.holds Try.pinned (OpenSpec.ofChange ruleMirrorsWrong)

/-- 'vyakaranalaw02.RuleGains': WHATEVER THE INPUT: true; the input reads as it did. -/
def ruleGainsSpec : ChangeSpec := { name := "ruleGains", fn := fun _ => fun
  | [d1, d2, d3] => { results := [.lit (.bool true)], args := [d1, d2, d3] }
  | _ => none }
def ruleGainsRow : OpenClaim := { program := "ytojbamejhlaahaa", sum := "1c373558b3626a243275f8b4651f8554b37bf6a709f795b1743ce8e7a54ae361", func := "vyakarana/vyakaranalaw02.RuleGains", spec := "ruleGains", unfollowed := true, recurses := true, apart := false }
def RuleGainsSaid : Prop := ruleGainsRow.holds Try.pinned (OpenSpec.ofChange ruleGainsSpec)

/-- ITS FALSE NEIGHBOUR: 'it returns false'. Refute it at one input. -/
def ruleGainsWrong : ChangeSpec := { name := "ruleGains", fn := fun _ => fun
  | [d1, d2, d3] => { results := [.lit (.bool false)], args := [d1, d2, d3] }
  | _ => none }
def RuleGainsWrongFalsely : Prop := ruleGainsRow.holds Try.pinned (OpenSpec.ofChange ruleGainsWrong)

/-- 'vyakaranalaw02.RuleMeetsIn': WHATEVER THE INPUT: true; the input reads as it did. -/
def ruleMeetsInSpec : ChangeSpec := { name := "ruleMeetsIn", fn := fun _ => fun
  | [d1, d2] => { results := [.lit (.bool true)], args := [d1, d2] }
  | _ => none }
def ruleMeetsInRow : OpenClaim := { program := "ytojbamejhlaahaa", sum := "1c373558b3626a243275f8b4651f8554b37bf6a709f795b1743ce8e7a54ae361", func := "vyakarana/vyakaranalaw02.RuleMeetsIn", spec := "ruleMeetsIn", unfollowed := true, recurses := true, apart := false }
def RuleMeetsInSaid : Prop := ruleMeetsInRow.holds Try.pinned (OpenSpec.ofChange ruleMeetsInSpec)

/-- ITS FALSE NEIGHBOUR: 'it returns false'. Refute it at one input. -/
def ruleMeetsInWrong : ChangeSpec := { name := "ruleMeetsIn", fn := fun _ => fun
  | [d1, d2] => { results := [.lit (.bool false)], args := [d1, d2] }
  | _ => none }
def RuleMeetsInWrongFalsely : Prop := ruleMeetsInRow.holds Try.pinned (OpenSpec.ofChange ruleMeetsInWrong)

/-- 'vyakaranalaw02.RuleMeets': WHATEVER THE INPUT: true; the input reads as it did. -/
def ruleMeetsSpec : ChangeSpec := { name := "ruleMeets", fn := fun _ => fun
  | [d] => { results := [.lit (.bool true)], args := [d] }
  | _ => none }
def ruleMeetsRow : OpenClaim := { program := "ytojbamejhlaahaa", sum := "1c373558b3626a243275f8b4651f8554b37bf6a709f795b1743ce8e7a54ae361", func := "vyakarana/vyakaranalaw02.RuleMeets", spec := "ruleMeets", unfollowed := true, recurses := true, apart := false }
def RuleMeetsSaid : Prop := ruleMeetsRow.holds Try.pinned (OpenSpec.ofChange ruleMeetsSpec)

/-- ITS FALSE NEIGHBOUR: 'it returns false'. Refute it at one input. -/
def ruleMeetsWrong : ChangeSpec := { name := "ruleMeets", fn := fun _ => fun
  | [d] => { results := [.lit (.bool false)], args := [d] }
  | _ => none }
def RuleMeetsWrongFalsely : Prop := ruleMeetsRow.holds Try.pinned (OpenSpec.ofChange ruleMeetsWrong)

/-- 'vyakaranalaw02.RuleRenames': WHATEVER THE INPUT: true; the input reads as it did. -/
def ruleRenamesSpec : ChangeSpec := { name := "ruleRenames", fn := fun _ => fun
  | [d1, d2, d3] => { results := [.lit (.bool true)], args := [d1, d2, d3] }
  | _ => none }
def ruleRenamesRow : OpenClaim := { program := "ytojbamejhlaahaa", sum := "1c373558b3626a243275f8b4651f8554b37bf6a709f795b1743ce8e7a54ae361", func := "vyakarana/vyakaranalaw02.RuleRenames", spec := "ruleRenames", unfollowed := true, recurses := true, apart := false }
def RuleRenamesSaid : Prop := ruleRenamesRow.holds Try.pinned (OpenSpec.ofChange ruleRenamesSpec)

/-- ITS FALSE NEIGHBOUR: 'it returns false'. Refute it at one input. -/
def ruleRenamesWrong : ChangeSpec := { name := "ruleRenames", fn := fun _ => fun
  | [d1, d2, d3] => { results := [.lit (.bool false)], args := [d1, d2, d3] }
  | _ => none }
def RuleRenamesWrongFalsely : Prop := ruleRenamesRow.holds Try.pinned (OpenSpec.ofChange ruleRenamesWrong)

/- THE SECOND FORM. 'bulk': how many values and letters a reading holds, each counted each time it is reached (what is shared counts as often as it is met; a slice's spare places count too). A statement '..UptoSaid' is the law's where the arguments, and the package variables that the reading takes, are together of bulk at most 1048576: NARROWER than '..Said'. Prove '..Said' where nothing that the law and all that it calls make is longer than what came in: it says more and counts as full. Else prove '..UptoSaid'. A law counts once. -/
mutual
def uptoBulk {H : Type} : DataW H → Nat
  | .lit (.string bytes) => bytes.length + 1
  | .lit _ => 1
  | .nil => 1
  | .ptr d => uptoBulk d + 1
  | .slice elems spare => uptoBulkAll elems + uptoBulkAll spare + 1
  | .agg parts => uptoBulkAll parts + 1
  | .iface _ d => uptoBulk d + 1
  | .map entries => uptoBulkEntries entries + 1
  | .held _ => 1
def uptoBulkAll {H : Type} : List (DataW H) → Nat
  | [] => 0
  | d :: r => uptoBulk d + uptoBulkAll r
def uptoBulkEntries {H : Type} : List (Lit × DataW H) → Nat
  | [] => 0
  | x :: r => uptoBulkEntry x + uptoBulkEntries r
def uptoBulkEntry {H : Type} : Lit × DataW H → Nat
  | (.string bytes, d) => bytes.length + uptoBulk d + 1
  | (_, d) => uptoBulk d + 1
 end
def uptoSmall : (H : Type) → List (DataW H) → Bool := fun _ ds => decide (uptoBulkAll ds ≤ 1048576)
def OpenSpec.upto (s : _root_.Go.ChangeSpec) : _root_.Go.OpenSpec := { _root_.Go.OpenSpec.ofChange s with cond := some uptoSmall }

/-- 'vyakaranalaw02.RuleAlong', WHERE WHAT IT READS IS OF BULK AT MOST 1048576: true; the input reads as it did. -/
def ruleAlongUptoRow : OpenClaim := { program := "ytojbamejhlaahaa", sum := "1c373558b3626a243275f8b4651f8554b37bf6a709f795b1743ce8e7a54ae361", func := "vyakarana/vyakaranalaw02.RuleAlong", spec := "ruleAlong", unfollowed := true, recurses := true, apart := false, narrowed := true }
def RuleAlongUptoSaid : Prop := ruleAlongUptoRow.holds Try.pinned (OpenSpec.upto ruleAlongSpec)

/-- 'vyakaranalaw02.RulePlaces', WHERE WHAT IT READS IS OF BULK AT MOST 1048576: true; the input reads as it did. -/
def rulePlacesUptoRow : OpenClaim := { program := "ytojbamejhlaahaa", sum := "1c373558b3626a243275f8b4651f8554b37bf6a709f795b1743ce8e7a54ae361", func := "vyakarana/vyakaranalaw02.RulePlaces", spec := "rulePlaces", unfollowed := true, recurses := true, apart := false, narrowed := true }
def RulePlacesUptoSaid : Prop := rulePlacesUptoRow.holds Try.pinned (OpenSpec.upto rulePlacesSpec)

/-- 'vyakaranalaw02.RuleAll', WHERE WHAT IT READS IS OF BULK AT MOST 1048576: true; the input reads as it did. -/
def ruleAllUptoRow : OpenClaim := { program := "ytojbamejhlaahaa", sum := "1c373558b3626a243275f8b4651f8554b37bf6a709f795b1743ce8e7a54ae361", func := "vyakarana/vyakaranalaw02.RuleAll", spec := "ruleAll", unfollowed := true, recurses := true, apart := false, narrowed := true }
def RuleAllUptoSaid : Prop := ruleAllUptoRow.holds Try.pinned (OpenSpec.upto ruleAllSpec)

/-- 'vyakaranalaw02.RuleApplies', WHERE WHAT IT READS IS OF BULK AT MOST 1048576: true; the input reads as it did. -/
def ruleAppliesUptoRow : OpenClaim := { program := "ytojbamejhlaahaa", sum := "1c373558b3626a243275f8b4651f8554b37bf6a709f795b1743ce8e7a54ae361", func := "vyakarana/vyakaranalaw02.RuleApplies", spec := "ruleApplies", unfollowed := true, recurses := true, apart := false, narrowed := true }
def RuleAppliesUptoSaid : Prop := ruleAppliesUptoRow.holds Try.pinned (OpenSpec.upto ruleAppliesSpec)

/-- 'vyakaranalaw02.RuleMays', WHERE WHAT IT READS IS OF BULK AT MOST 1048576: true; the input reads as it did. -/
def ruleMaysUptoRow : OpenClaim := { program := "ytojbamejhlaahaa", sum := "1c373558b3626a243275f8b4651f8554b37bf6a709f795b1743ce8e7a54ae361", func := "vyakarana/vyakaranalaw02.RuleMays", spec := "ruleMays", unfollowed := true, recurses := true, apart := false, narrowed := true }
def RuleMaysUptoSaid : Prop := ruleMaysUptoRow.holds Try.pinned (OpenSpec.upto ruleMaysSpec)

/-- 'vyakaranalaw02.RuleMeasures', WHERE WHAT IT READS IS OF BULK AT MOST 1048576: true; the input reads as it did. -/
def ruleMeasuresUptoRow : OpenClaim := { program := "ytojbamejhlaahaa", sum := "1c373558b3626a243275f8b4651f8554b37bf6a709f795b1743ce8e7a54ae361", func := "vyakarana/vyakaranalaw02.RuleMeasures", spec := "ruleMeasures", unfollowed := true, recurses := true, apart := false, narrowed := true }
def RuleMeasuresUptoSaid : Prop := ruleMeasuresUptoRow.holds Try.pinned (OpenSpec.upto ruleMeasuresSpec)

/-- 'vyakaranalaw02.RuleCommutes', WHERE WHAT IT READS IS OF BULK AT MOST 1048576: true; the input reads as it did. -/
def ruleCommutesUptoRow : OpenClaim := { program := "ytojbamejhlaahaa", sum := "1c373558b3626a243275f8b4651f8554b37bf6a709f795b1743ce8e7a54ae361", func := "vyakarana/vyakaranalaw02.RuleCommutes", spec := "ruleCommutes", unfollowed := true, recurses := true, apart := false, narrowed := true }
def RuleCommutesUptoSaid : Prop := ruleCommutesUptoRow.holds Try.pinned (OpenSpec.upto ruleCommutesSpec)

/-- 'vyakaranalaw02.RuleFirsts', WHERE WHAT IT READS IS OF BULK AT MOST 1048576: true; the input reads as it did. -/
def ruleFirstsUptoRow : OpenClaim := { program := "ytojbamejhlaahaa", sum := "1c373558b3626a243275f8b4651f8554b37bf6a709f795b1743ce8e7a54ae361", func := "vyakarana/vyakaranalaw02.RuleFirsts", spec := "ruleFirsts", unfollowed := true, recurses := true, apart := false, narrowed := true }
def RuleFirstsUptoSaid : Prop := ruleFirstsUptoRow.holds Try.pinned (OpenSpec.upto ruleFirstsSpec)

/-- 'vyakaranalaw02.RuleSpecial', WHERE WHAT IT READS IS OF BULK AT MOST 1048576: true; the input reads as it did. -/
def ruleSpecialUptoRow : OpenClaim := { program := "ytojbamejhlaahaa", sum := "1c373558b3626a243275f8b4651f8554b37bf6a709f795b1743ce8e7a54ae361", func := "vyakarana/vyakaranalaw02.RuleSpecial", spec := "ruleSpecial", unfollowed := true, recurses := true, apart := false, narrowed := true }
def RuleSpecialUptoSaid : Prop := ruleSpecialUptoRow.holds Try.pinned (OpenSpec.upto ruleSpecialSpec)

/-- 'vyakaranalaw02.RuleMirrors', WHERE WHAT IT READS IS OF BULK AT MOST 1048576: true; the input reads as it did. -/
def ruleMirrorsUptoRow : OpenClaim := { program := "ytojbamejhlaahaa", sum := "1c373558b3626a243275f8b4651f8554b37bf6a709f795b1743ce8e7a54ae361", func := "vyakarana/vyakaranalaw02.RuleMirrors", spec := "ruleMirrors", unfollowed := true, recurses := true, apart := false, narrowed := true }
def RuleMirrorsUptoSaid : Prop := ruleMirrorsUptoRow.holds Try.pinned (OpenSpec.upto ruleMirrorsSpec)

/-- 'vyakaranalaw02.RuleGains', WHERE WHAT IT READS IS OF BULK AT MOST 1048576: true; the input reads as it did. -/
def ruleGainsUptoRow : OpenClaim := { program := "ytojbamejhlaahaa", sum := "1c373558b3626a243275f8b4651f8554b37bf6a709f795b1743ce8e7a54ae361", func := "vyakarana/vyakaranalaw02.RuleGains", spec := "ruleGains", unfollowed := true, recurses := true, apart := false, narrowed := true }
def RuleGainsUptoSaid : Prop := ruleGainsUptoRow.holds Try.pinned (OpenSpec.upto ruleGainsSpec)

/-- 'vyakaranalaw02.RuleMeetsIn', WHERE WHAT IT READS IS OF BULK AT MOST 1048576: true; the input reads as it did. -/
def ruleMeetsInUptoRow : OpenClaim := { program := "ytojbamejhlaahaa", sum := "1c373558b3626a243275f8b4651f8554b37bf6a709f795b1743ce8e7a54ae361", func := "vyakarana/vyakaranalaw02.RuleMeetsIn", spec := "ruleMeetsIn", unfollowed := true, recurses := true, apart := false, narrowed := true }
def RuleMeetsInUptoSaid : Prop := ruleMeetsInUptoRow.holds Try.pinned (OpenSpec.upto ruleMeetsInSpec)

/-- 'vyakaranalaw02.RuleMeets', WHERE WHAT IT READS IS OF BULK AT MOST 1048576: true; the input reads as it did. -/
def ruleMeetsUptoRow : OpenClaim := { program := "ytojbamejhlaahaa", sum := "1c373558b3626a243275f8b4651f8554b37bf6a709f795b1743ce8e7a54ae361", func := "vyakarana/vyakaranalaw02.RuleMeets", spec := "ruleMeets", unfollowed := true, recurses := true, apart := false, narrowed := true }
def RuleMeetsUptoSaid : Prop := ruleMeetsUptoRow.holds Try.pinned (OpenSpec.upto ruleMeetsSpec)

/-- 'vyakaranalaw02.RuleRenames', WHERE WHAT IT READS IS OF BULK AT MOST 1048576: true; the input reads as it did. -/
def ruleRenamesUptoRow : OpenClaim := { program := "ytojbamejhlaahaa", sum := "1c373558b3626a243275f8b4651f8554b37bf6a709f795b1743ce8e7a54ae361", func := "vyakarana/vyakaranalaw02.RuleRenames", spec := "ruleRenames", unfollowed := true, recurses := true, apart := false, narrowed := true }
def RuleRenamesUptoSaid : Prop := ruleRenamesUptoRow.holds Try.pinned (OpenSpec.upto ruleRenamesSpec)

end Rows
end Go.Proofs.Ytojbamejhlaahaa
