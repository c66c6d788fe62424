/-
  No cell of these rows narrows 'for every input' (looked for: loops, veiled, ifaces, maps, wideKeys, modest, calm, conditions, laid).
  DERIVED. THE GIVEN ROWS OF THIS SEAT. 9 by the template 'for every input the law returns true; each argument reads behind the call as it read before'; 0 by the template 'total and deterministic' (their statements: YtjokpjfmnjefdaaTotals.lean).
  GIVEN WITH THE SEED: the statements are not yours to turn. If you find one false, say at which input.
  Laid BY PROGRAM, IN A SANDBOX (cutbox-rows.mjs): the forced cells as the released guide's own fill.sh prints them over the translation 02b21db616dc3486… (all of the seat's roots in one cut). By AI agents, Wed Nov 11 2026. No macro, syntax, notation, axiom, sorry.
-/
import Derived.Test.YtjokpjfmnjefdaaChecked
import GoSem.Claim
import GoSem.ClaimJoined
import GoSem.ClaimMapViews
import Derived.JoinedTies
import Derived.KernelRfl
namespace Go.Proofs.Ytjokpjfmnjefdaa
/- THE CELL 'sum', in the pinned program and in every row, IS THE sha256 OF THE DUMP (.gsa) THAT YtjokpjfmnjefdaaProg.lean LOADS. Nothing in Lean hashes anything: it is a label: what it is worth is what the hold of that sum in a sandbox is worth. -/
noncomputable def Try.pinned : Pinned := { name := "ytjokpjfmnjefdaa", sum := "02b21db616dc3486613e01c67b2f85bae42401f7d3a8216cf451e886f4eb653c", checked := Try.checked }
namespace Rows
def none {H : Type} : Left H := { results := [], args := [] }

/-- 'gazettelaw22.ViewLatest': WHATEVER THE INPUT: true; the input reads as it did. -/
def viewLatestSpec : ChangeSpec := { name := "viewLatest", fn := fun _ => fun
  | [d] => { results := [.lit (.bool true)], args := [d] }
  | _ => none }
def viewLatestRow : OpenClaim := { program := "ytjokpjfmnjefdaa", sum := "02b21db616dc3486613e01c67b2f85bae42401f7d3a8216cf451e886f4eb653c", func := "gazette/gazettelaw22.ViewLatest", spec := "viewLatest", unfollowed := true, recurses := true, apart := false }
def ViewLatestSaid : Prop := viewLatestRow.holds Try.pinned (OpenSpec.ofChange viewLatestSpec)

/-- ITS FALSE NEIGHBOUR: 'it returns false'. Refute it at one input. -/
def viewLatestWrong : ChangeSpec := { name := "viewLatest", fn := fun _ => fun
  | [d] => { results := [.lit (.bool false)], args := [d] }
  | _ => none }
def ViewLatestWrongFalsely : Prop := viewLatestRow.holds Try.pinned (OpenSpec.ofChange viewLatestWrong)

/-- 'gazettelaw22.ViewDiffs': WHATEVER THE INPUT: true; the input reads as it did. -/
def viewDiffsSpec : ChangeSpec := { name := "viewDiffs", fn := fun _ => fun
  | [d1, d2] => { results := [.lit (.bool true)], args := [d1, d2] }
  | _ => none }
def viewDiffsRow : OpenClaim := { program := "ytjokpjfmnjefdaa", sum := "02b21db616dc3486613e01c67b2f85bae42401f7d3a8216cf451e886f4eb653c", func := "gazette/gazettelaw22.ViewDiffs", spec := "viewDiffs", unfollowed := true, recurses := true, apart := false }
def ViewDiffsSaid : Prop := viewDiffsRow.holds Try.pinned (OpenSpec.ofChange viewDiffsSpec)

/-- ITS FALSE NEIGHBOUR: 'it returns false'. Refute it at one input. -/
def viewDiffsWrong : ChangeSpec := { name := "viewDiffs", fn := fun _ => fun
  | [d1, d2] => { results := [.lit (.bool false)], args := [d1, d2] }
  | _ => none }
def ViewDiffsWrongFalsely : Prop := viewDiffsRow.holds Try.pinned (OpenSpec.ofChange viewDiffsWrong)

/-- 'gazettelaw22.ViewGets': WHATEVER THE INPUT: true; the input reads as it did. -/
def viewGetsSpec : ChangeSpec := { name := "viewGets", fn := fun _ => fun
  | [d1, d2] => { results := [.lit (.bool true)], args := [d1, d2] }
  | _ => none }
def viewGetsRow : OpenClaim := { program := "ytjokpjfmnjefdaa", sum := "02b21db616dc3486613e01c67b2f85bae42401f7d3a8216cf451e886f4eb653c", func := "gazette/gazettelaw22.ViewGets", spec := "viewGets", unfollowed := true, recurses := true, apart := false }
def ViewGetsSaid : Prop := viewGetsRow.holds Try.pinned (OpenSpec.ofChange viewGetsSpec)

/-- ITS FALSE NEIGHBOUR: 'it returns false'. Refute it at one input. -/
def viewGetsWrong : ChangeSpec := { name := "viewGets", fn := fun _ => fun
  | [d1, d2] => { results := [.lit (.bool false)], args := [d1, d2] }
  | _ => none }
def ViewGetsWrongFalsely : Prop := viewGetsRow.holds Try.pinned (OpenSpec.ofChange viewGetsWrong)

/-- 'gazettelaw22.ViewAdvances': WHATEVER THE INPUT: true; the input reads as it did. -/
def viewAdvancesSpec : ChangeSpec := { name := "viewAdvances", fn := fun _ => fun
  | [d1, d2] => { results := [.lit (.bool true)], args := [d1, d2] }
  | _ => none }
def viewAdvancesRow : OpenClaim := { program := "ytjokpjfmnjefdaa", sum := "02b21db616dc3486613e01c67b2f85bae42401f7d3a8216cf451e886f4eb653c", func := "gazette/gazettelaw22.ViewAdvances", spec := "viewAdvances", unfollowed := true, recurses := true, apart := false }
def ViewAdvancesSaid : Prop := viewAdvancesRow.holds Try.pinned (OpenSpec.ofChange viewAdvancesSpec)

/-- ITS FALSE NEIGHBOUR: 'it returns false'. Refute it at one input. -/
def viewAdvancesWrong : ChangeSpec := { name := "viewAdvances", fn := fun _ => fun
  | [d1, d2] => { results := [.lit (.bool false)], args := [d1, d2] }
  | _ => none }
def ViewAdvancesWrongFalsely : Prop := viewAdvancesRow.holds Try.pinned (OpenSpec.ofChange viewAdvancesWrong)

/-- 'gazettelaw22.ViewSteps': WHATEVER THE INPUT: true; the input reads as it did. -/
def viewStepsSpec : ChangeSpec := { name := "viewSteps", fn := fun _ => fun
  | [d1, d2] => { results := [.lit (.bool true)], args := [d1, d2] }
  | _ => none }
def viewStepsRow : OpenClaim := { program := "ytjokpjfmnjefdaa", sum := "02b21db616dc3486613e01c67b2f85bae42401f7d3a8216cf451e886f4eb653c", func := "gazette/gazettelaw22.ViewSteps", spec := "viewSteps", unfollowed := true, recurses := true, apart := false }
def ViewStepsSaid : Prop := viewStepsRow.holds Try.pinned (OpenSpec.ofChange viewStepsSpec)

/-- ITS FALSE NEIGHBOUR: 'it returns false'. Refute it at one input. -/
def viewStepsWrong : ChangeSpec := { name := "viewSteps", fn := fun _ => fun
  | [d1, d2] => { results := [.lit (.bool false)], args := [d1, d2] }
  | _ => none }
def ViewStepsWrongFalsely : Prop := viewStepsRow.holds Try.pinned (OpenSpec.ofChange viewStepsWrong)

/-- 'gazettelaw22.ViewRanges': WHATEVER THE INPUT: true; the input reads as it did. -/
def viewRangesSpec : ChangeSpec := { name := "viewRanges", fn := fun _ => fun
  | [d1, d2, d3] => { results := [.lit (.bool true)], args := [d1, d2, d3] }
  | _ => none }
def viewRangesRow : OpenClaim := { program := "ytjokpjfmnjefdaa", sum := "02b21db616dc3486613e01c67b2f85bae42401f7d3a8216cf451e886f4eb653c", func := "gazette/gazettelaw22.ViewRanges", spec := "viewRanges", unfollowed := true, recurses := true, apart := false }
def ViewRangesSaid : Prop := viewRangesRow.holds Try.pinned (OpenSpec.ofChange viewRangesSpec)

/-- ITS FALSE NEIGHBOUR: 'it returns false'. Refute it at one input. -/
def viewRangesWrong : ChangeSpec := { name := "viewRanges", fn := fun _ => fun
  | [d1, d2, d3] => { results := [.lit (.bool false)], args := [d1, d2, d3] }
  | _ => none }
def ViewRangesWrongFalsely : Prop := viewRangesRow.holds Try.pinned (OpenSpec.ofChange viewRangesWrong)

/-- 'gazettelaw22.ViewParts': WHATEVER THE INPUT: true; the input reads as it did. -/
def viewPartsSpec : ChangeSpec := { name := "viewParts", fn := fun _ => fun
  | [d1, d2] => { results := [.lit (.bool true)], args := [d1, d2] }
  | _ => none }
def viewPartsRow : OpenClaim := { program := "ytjokpjfmnjefdaa", sum := "02b21db616dc3486613e01c67b2f85bae42401f7d3a8216cf451e886f4eb653c", func := "gazette/gazettelaw22.ViewParts", spec := "viewParts", unfollowed := true, recurses := true, apart := false }
def ViewPartsSaid : Prop := viewPartsRow.holds Try.pinned (OpenSpec.ofChange viewPartsSpec)

/-- ITS FALSE NEIGHBOUR: 'it returns false'. Refute it at one input. -/
def viewPartsWrong : ChangeSpec := { name := "viewParts", fn := fun _ => fun
  | [d1, d2] => { results := [.lit (.bool false)], args := [d1, d2] }
  | _ => none }
def ViewPartsWrongFalsely : Prop := viewPartsRow.holds Try.pinned (OpenSpec.ofChange viewPartsWrong)

/-- 'gazettelaw22.ViewPatches': WHATEVER THE INPUT: true; the input reads as it did. -/
def viewPatchesSpec : ChangeSpec := { name := "viewPatches", fn := fun _ => fun
  | [d1, d2] => { results := [.lit (.bool true)], args := [d1, d2] }
  | _ => none }
def viewPatchesRow : OpenClaim := { program := "ytjokpjfmnjefdaa", sum := "02b21db616dc3486613e01c67b2f85bae42401f7d3a8216cf451e886f4eb653c", func := "gazette/gazettelaw22.ViewPatches", spec := "viewPatches", inPlace := ["slices.overlaps[gazette/view.Pair]"], unfollowed := true, recurses := true, apart := false }
def ViewPatchesSaid : Prop := viewPatchesRow.holds Try.pinned (OpenSpec.ofChange viewPatchesSpec)

/-- ITS FALSE NEIGHBOUR: 'it returns false'. Refute it at one input. -/
def viewPatchesWrong : ChangeSpec := { name := "viewPatches", fn := fun _ => fun
  | [d1, d2] => { results := [.lit (.bool false)], args := [d1, d2] }
  | _ => none }
def ViewPatchesWrongFalsely : Prop := viewPatchesRow.holds Try.pinned (OpenSpec.ofChange viewPatchesWrong)

/-- 'gazettelaw22.ViewThere': WHATEVER THE INPUT: true; the input reads as it did. -/
def viewThereSpec : ChangeSpec := { name := "viewThere", fn := fun _ => fun
  | [d1, d2] => { results := [.lit (.bool true)], args := [d1, d2] }
  | _ => none }
def viewThereRow : OpenClaim := { program := "ytjokpjfmnjefdaa", sum := "02b21db616dc3486613e01c67b2f85bae42401f7d3a8216cf451e886f4eb653c", func := "gazette/gazettelaw22.ViewThere", spec := "viewThere", inPlace := ["slices.overlaps[gazette/view.Pair]"], unfollowed := true, recurses := true, apart := false }
def ViewThereSaid : Prop := viewThereRow.holds Try.pinned (OpenSpec.ofChange viewThereSpec)

/-- ITS FALSE NEIGHBOUR: 'it returns false'. Refute it at one input. -/
def viewThereWrong : ChangeSpec := { name := "viewThere", fn := fun _ => fun
  | [d1, d2] => { results := [.lit (.bool false)], args := [d1, d2] }
  | _ => none }
def ViewThereWrongFalsely : Prop := viewThereRow.holds Try.pinned (OpenSpec.ofChange viewThereWrong)

/- THE SECOND FORM. 'bulk': how many values and letters a reading holds, each counted each time it is reached (what is shared counts as often as it is met; a slice's spare places count too). A statement '..UptoSaid' is the law's where the arguments, and the package variables that the reading takes, are together of bulk at most 1048576: NARROWER than '..Said'. Prove '..Said' where nothing that the law and all that it calls make is longer than what came in: it says more and counts as full. Else prove '..UptoSaid'. A law counts once. -/
mutual
def uptoBulk {H : Type} : DataW H → Nat
  | .lit (.string bytes) => bytes.length + 1
  | .lit _ => 1
  | .nil => 1
  | .ptr d => uptoBulk d + 1
  | .slice elems spare => uptoBulkAll elems + uptoBulkAll spare + 1
  | .agg parts => uptoBulkAll parts + 1
  | .iface _ d => uptoBulk d + 1
  | .map entries => uptoBulkEntries entries + 1
  | .held _ => 1
def uptoBulkAll {H : Type} : List (DataW H) → Nat
  | [] => 0
  | d :: r => uptoBulk d + uptoBulkAll r
def uptoBulkEntries {H : Type} : List (Lit × DataW H) → Nat
  | [] => 0
  | x :: r => uptoBulkEntry x + uptoBulkEntries r
def uptoBulkEntry {H : Type} : Lit × DataW H → Nat
  | (.string bytes, d) => bytes.length + uptoBulk d + 1
  | (_, d) => uptoBulk d + 1
 end
def uptoSmall : (H : Type) → List (DataW H) → Bool := fun _ ds => decide (uptoBulkAll ds ≤ 1048576)
def OpenSpec.upto (s : _root_.Go.ChangeSpec) : _root_.Go.OpenSpec := { _root_.Go.OpenSpec.ofChange s with cond := some uptoSmall }

/-- 'gazettelaw22.ViewLatest', WHERE WHAT IT READS IS OF BULK AT MOST 1048576: true; the input reads as it did. -/
def viewLatestUptoRow : OpenClaim := { program := "ytjokpjfmnjefdaa", sum := "02b21db616dc3486613e01c67b2f85bae42401f7d3a8216cf451e886f4eb653c", func := "gazette/gazettelaw22.ViewLatest", spec := "viewLatest", unfollowed := true, recurses := true, apart := false, narrowed := true }
def ViewLatestUptoSaid : Prop := viewLatestUptoRow.holds Try.pinned (OpenSpec.upto viewLatestSpec)

/-- 'gazettelaw22.ViewDiffs', WHERE WHAT IT READS IS OF BULK AT MOST 1048576: true; the input reads as it did. -/
def viewDiffsUptoRow : OpenClaim := { program := "ytjokpjfmnjefdaa", sum := "02b21db616dc3486613e01c67b2f85bae42401f7d3a8216cf451e886f4eb653c", func := "gazette/gazettelaw22.ViewDiffs", spec := "viewDiffs", unfollowed := true, recurses := true, apart := false, narrowed := true }
def ViewDiffsUptoSaid : Prop := viewDiffsUptoRow.holds Try.pinned (OpenSpec.upto viewDiffsSpec)

/-- 'gazettelaw22.ViewGets', WHERE WHAT IT READS IS OF BULK AT MOST 1048576: true; the input reads as it did. -/
def viewGetsUptoRow : OpenClaim := { program := "ytjokpjfmnjefdaa", sum := "02b21db616dc3486613e01c67b2f85bae42401f7d3a8216cf451e886f4eb653c", func := "gazette/gazettelaw22.ViewGets", spec := "viewGets", unfollowed := true, recurses := true, apart := false, narrowed := true }
def ViewGetsUptoSaid : Prop := viewGetsUptoRow.holds Try.pinned (OpenSpec.upto viewGetsSpec)

/-- 'gazettelaw22.ViewAdvances', WHERE WHAT IT READS IS OF BULK AT MOST 1048576: true; the input reads as it did. -/
def viewAdvancesUptoRow : OpenClaim := { program := "ytjokpjfmnjefdaa", sum := "02b21db616dc3486613e01c67b2f85bae42401f7d3a8216cf451e886f4eb653c", func := "gazette/gazettelaw22.ViewAdvances", spec := "viewAdvances", unfollowed := true, recurses := true, apart := false, narrowed := true }
def ViewAdvancesUptoSaid : Prop := viewAdvancesUptoRow.holds Try.pinned (OpenSpec.upto viewAdvancesSpec)

/-- 'gazettelaw22.ViewSteps', WHERE WHAT IT READS IS OF BULK AT MOST 1048576: true; the input reads as it did. -/
def viewStepsUptoRow : OpenClaim := { program := "ytjokpjfmnjefdaa", sum := "02b21db616dc3486613e01c67b2f85bae42401f7d3a8216cf451e886f4eb653c", func := "gazette/gazettelaw22.ViewSteps", spec := "viewSteps", unfollowed := true, recurses := true, apart := false, narrowed := true }
def ViewStepsUptoSaid : Prop := viewStepsUptoRow.holds Try.pinned (OpenSpec.upto viewStepsSpec)

/-- 'gazettelaw22.ViewRanges', WHERE WHAT IT READS IS OF BULK AT MOST 1048576: true; the input reads as it did. -/
def viewRangesUptoRow : OpenClaim := { program := "ytjokpjfmnjefdaa", sum := "02b21db616dc3486613e01c67b2f85bae42401f7d3a8216cf451e886f4eb653c", func := "gazette/gazettelaw22.ViewRanges", spec := "viewRanges", unfollowed := true, recurses := true, apart := false, narrowed := true }
def ViewRangesUptoSaid : Prop := viewRangesUptoRow.holds Try.pinned (OpenSpec.upto viewRangesSpec)

/-- 'gazettelaw22.ViewParts', WHERE WHAT IT READS IS OF BULK AT MOST 1048576: true; the input reads as it did. -/
def viewPartsUptoRow : OpenClaim := { program := "ytjokpjfmnjefdaa", sum := "02b21db616dc3486613e01c67b2f85bae42401f7d3a8216cf451e886f4eb653c", func := "gazette/gazettelaw22.ViewParts", spec := "viewParts", unfollowed := true, recurses := true, apart := false, narrowed := true }
def ViewPartsUptoSaid : Prop := viewPartsUptoRow.holds Try.pinned (OpenSpec.upto viewPartsSpec)

/-- 'gazettelaw22.ViewPatches', WHERE WHAT IT READS IS OF BULK AT MOST 1048576: true; the input reads as it did. -/
def viewPatchesUptoRow : OpenClaim := { program := "ytjokpjfmnjefdaa", sum := "02b21db616dc3486613e01c67b2f85bae42401f7d3a8216cf451e886f4eb653c", func := "gazette/gazettelaw22.ViewPatches", spec := "viewPatches", inPlace := ["slices.overlaps[gazette/view.Pair]"], unfollowed := true, recurses := true, apart := false, narrowed := true }
def ViewPatchesUptoSaid : Prop := viewPatchesUptoRow.holds Try.pinned (OpenSpec.upto viewPatchesSpec)

/-- 'gazettelaw22.ViewThere', WHERE WHAT IT READS IS OF BULK AT MOST 1048576: true; the input reads as it did. -/
def viewThereUptoRow : OpenClaim := { program := "ytjokpjfmnjefdaa", sum := "02b21db616dc3486613e01c67b2f85bae42401f7d3a8216cf451e886f4eb653c", func := "gazette/gazettelaw22.ViewThere", spec := "viewThere", inPlace := ["slices.overlaps[gazette/view.Pair]"], unfollowed := true, recurses := true, apart := false, narrowed := true }
def ViewThereUptoSaid : Prop := viewThereUptoRow.holds Try.pinned (OpenSpec.upto viewThereSpec)

end Rows
end Go.Proofs.Ytjokpjfmnjefdaa
