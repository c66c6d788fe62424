/-
  No cell of these rows narrows 'for every input' (looked for: loops, veiled, ifaces, maps, wideKeys, modest, calm, conditions, laid).
  DERIVED. THE GIVEN ROWS OF THIS SEAT. 5 by the template 'for every input the law returns true; each argument reads behind the call as it read before'; 0 by the template 'total and deterministic' (their statements: YtbjjhnlifgbpmaaTotals.lean).
  GIVEN WITH THE SEED: the statements are not yours to turn. If you find one false, say at which input.
  Laid BY PROGRAM, IN A SANDBOX (cutbox-rows.mjs): the forced cells as the released guide's own fill.sh prints them over the translation 7d106e783824f8c3… (all of the seat's roots in one cut). By AI agents, Wed Nov 11 2026. No macro, syntax, notation, axiom, sorry.
-/
import Derived.Test.YtbjjhnlifgbpmaaChecked
import GoSem.Claim
import GoSem.ClaimJoined
import GoSem.ClaimMapViews
import Derived.JoinedTies
import Derived.KernelRfl
namespace Go.Proofs.Ytbjjhnlifgbpmaa
/- THE CELL 'sum', in the pinned program and in every row, IS THE sha256 OF THE DUMP (.gsa) THAT YtbjjhnlifgbpmaaProg.lean LOADS. Nothing in Lean hashes anything: it is a label: what it is worth is what the hold of that sum in a sandbox is worth. -/
noncomputable def Try.pinned : Pinned := { name := "ytbjjhnlifgbpmaa", sum := "7d106e783824f8c3b65197a6feb08eda6d087653a03de29275d839359bce7510", checked := Try.checked }
namespace Rows
def none {H : Type} : Left H := { results := [], args := [] }

/-- 'gazettelaw14.AssignRanges': WHATEVER THE INPUT: true; the input reads as it did. -/
def assignRangesSpec : ChangeSpec := { name := "assignRanges", fn := fun _ => fun
  | [d1, d2] => { results := [.lit (.bool true)], args := [d1, d2] }
  | _ => none }
def assignRangesRow : OpenClaim := { program := "ytbjjhnlifgbpmaa", sum := "7d106e783824f8c3b65197a6feb08eda6d087653a03de29275d839359bce7510", func := "gazette/gazettelaw14.AssignRanges", spec := "assignRanges", unfollowed := true, recurses := true, apart := false }
def AssignRangesSaid : Prop := assignRangesRow.holds Try.pinned (OpenSpec.ofChange assignRangesSpec)

/-- ITS FALSE NEIGHBOUR: 'it returns false'. Refute it at one input. -/
def assignRangesWrong : ChangeSpec := { name := "assignRanges", fn := fun _ => fun
  | [d1, d2] => { results := [.lit (.bool false)], args := [d1, d2] }
  | _ => none }
def AssignRangesWrongFalsely : Prop := assignRangesRow.holds Try.pinned (OpenSpec.ofChange assignRangesWrong)

/-- 'gazettelaw14.AssignSticks': WHATEVER THE INPUT: true; the input reads as it did. -/
def assignSticksSpec : ChangeSpec := { name := "assignSticks", fn := fun _ => fun
  | [d1, d2, d3] => { results := [.lit (.bool true)], args := [d1, d2, d3] }
  | _ => none }
def assignSticksRow : OpenClaim := { program := "ytbjjhnlifgbpmaa", sum := "7d106e783824f8c3b65197a6feb08eda6d087653a03de29275d839359bce7510", func := "gazette/gazettelaw14.AssignSticks", spec := "assignSticks", unfollowed := true, recurses := true, apart := false }
def AssignSticksSaid : Prop := assignSticksRow.holds Try.pinned (OpenSpec.ofChange assignSticksSpec)

/-- ITS FALSE NEIGHBOUR: 'it returns false'. Refute it at one input. -/
def assignSticksWrong : ChangeSpec := { name := "assignSticks", fn := fun _ => fun
  | [d1, d2, d3] => { results := [.lit (.bool false)], args := [d1, d2, d3] }
  | _ => none }
def AssignSticksWrongFalsely : Prop := assignSticksRow.holds Try.pinned (OpenSpec.ofChange assignSticksWrong)

/-- 'gazettelaw14.AssignCovers': WHATEVER THE INPUT: true; the input reads as it did. -/
def assignCoversSpec : ChangeSpec := { name := "assignCovers", fn := fun _ => fun
  | [d1, d2, d3] => { results := [.lit (.bool true)], args := [d1, d2, d3] }
  | _ => none }
def assignCoversRow : OpenClaim := { program := "ytbjjhnlifgbpmaa", sum := "7d106e783824f8c3b65197a6feb08eda6d087653a03de29275d839359bce7510", func := "gazette/gazettelaw14.AssignCovers", spec := "assignCovers", unfollowed := true, recurses := true, apart := false }
def AssignCoversSaid : Prop := assignCoversRow.holds Try.pinned (OpenSpec.ofChange assignCoversSpec)

/-- ITS FALSE NEIGHBOUR: 'it returns false'. Refute it at one input. -/
def assignCoversWrong : ChangeSpec := { name := "assignCovers", fn := fun _ => fun
  | [d1, d2, d3] => { results := [.lit (.bool false)], args := [d1, d2, d3] }
  | _ => none }
def AssignCoversWrongFalsely : Prop := assignCoversRow.holds Try.pinned (OpenSpec.ofChange assignCoversWrong)

/-- 'gazettelaw14.AssignStays': WHATEVER THE INPUT: true; the input reads as it did. -/
def assignStaysSpec : ChangeSpec := { name := "assignStays", fn := fun _ => fun
  | [d1, d2, d3, d4] => { results := [.lit (.bool true)], args := [d1, d2, d3, d4] }
  | _ => none }
def assignStaysRow : OpenClaim := { program := "ytbjjhnlifgbpmaa", sum := "7d106e783824f8c3b65197a6feb08eda6d087653a03de29275d839359bce7510", func := "gazette/gazettelaw14.AssignStays", spec := "assignStays", unfollowed := true, recurses := true, apart := false }
def AssignStaysSaid : Prop := assignStaysRow.holds Try.pinned (OpenSpec.ofChange assignStaysSpec)

/-- ITS FALSE NEIGHBOUR: 'it returns false'. Refute it at one input. -/
def assignStaysWrong : ChangeSpec := { name := "assignStays", fn := fun _ => fun
  | [d1, d2, d3, d4] => { results := [.lit (.bool false)], args := [d1, d2, d3, d4] }
  | _ => none }
def AssignStaysWrongFalsely : Prop := assignStaysRow.holds Try.pinned (OpenSpec.ofChange assignStaysWrong)

/-- 'gazettelaw14.AssignKeys': WHATEVER THE INPUT: true; the input reads as it did. -/
def assignKeysSpec : ChangeSpec := { name := "assignKeys", fn := fun _ => fun
  | [d1, d2] => { results := [.lit (.bool true)], args := [d1, d2] }
  | _ => none }
def assignKeysRow : OpenClaim := { program := "ytbjjhnlifgbpmaa", sum := "7d106e783824f8c3b65197a6feb08eda6d087653a03de29275d839359bce7510", func := "gazette/gazettelaw14.AssignKeys", spec := "assignKeys", unfollowed := true, recurses := true, apart := false }
def AssignKeysSaid : Prop := assignKeysRow.holds Try.pinned (OpenSpec.ofChange assignKeysSpec)

/-- ITS FALSE NEIGHBOUR: 'it returns false'. Refute it at one input. -/
def assignKeysWrong : ChangeSpec := { name := "assignKeys", fn := fun _ => fun
  | [d1, d2] => { results := [.lit (.bool false)], args := [d1, d2] }
  | _ => none }
def AssignKeysWrongFalsely : Prop := assignKeysRow.holds Try.pinned (OpenSpec.ofChange assignKeysWrong)

/- THE SECOND FORM. 'bulk': how many values and letters a reading holds, each counted each time it is reached (what is shared counts as often as it is met; a slice's spare places count too). A statement '..UptoSaid' is the law's where the arguments, and the package variables that the reading takes, are together of bulk at most 1048576: NARROWER than '..Said'. Prove '..Said' where nothing that the law and all that it calls make is longer than what came in: it says more and counts as full. Else prove '..UptoSaid'. A law counts once. -/
mutual
def uptoBulk {H : Type} : DataW H → Nat
  | .lit (.string bytes) => bytes.length + 1
  | .lit _ => 1
  | .nil => 1
  | .ptr d => uptoBulk d + 1
  | .slice elems spare => uptoBulkAll elems + uptoBulkAll spare + 1
  | .agg parts => uptoBulkAll parts + 1
  | .iface _ d => uptoBulk d + 1
  | .map entries => uptoBulkEntries entries + 1
  | .held _ => 1
def uptoBulkAll {H : Type} : List (DataW H) → Nat
  | [] => 0
  | d :: r => uptoBulk d + uptoBulkAll r
def uptoBulkEntries {H : Type} : List (Lit × DataW H) → Nat
  | [] => 0
  | x :: r => uptoBulkEntry x + uptoBulkEntries r
def uptoBulkEntry {H : Type} : Lit × DataW H → Nat
  | (.string bytes, d) => bytes.length + uptoBulk d + 1
  | (_, d) => uptoBulk d + 1
 end
def uptoSmall : (H : Type) → List (DataW H) → Bool := fun _ ds => decide (uptoBulkAll ds ≤ 1048576)
def OpenSpec.upto (s : _root_.Go.ChangeSpec) : _root_.Go.OpenSpec := { _root_.Go.OpenSpec.ofChange s with cond := some uptoSmall }

/-- 'gazettelaw14.AssignRanges', WHERE WHAT IT READS IS OF BULK AT MOST 1048576: true; the input reads as it did. -/
def assignRangesUptoRow : OpenClaim := { program := "ytbjjhnlifgbpmaa", sum := "7d106e783824f8c3b65197a6feb08eda6d087653a03de29275d839359bce7510", func := "gazette/gazettelaw14.AssignRanges", spec := "assignRanges", unfollowed := true, recurses := true, apart := false, narrowed := true }
def AssignRangesUptoSaid : Prop := assignRangesUptoRow.holds Try.pinned (OpenSpec.upto assignRangesSpec)

/-- 'gazettelaw14.AssignSticks', WHERE WHAT IT READS IS OF BULK AT MOST 1048576: true; the input reads as it did. -/
def assignSticksUptoRow : OpenClaim := { program := "ytbjjhnlifgbpmaa", sum := "7d106e783824f8c3b65197a6feb08eda6d087653a03de29275d839359bce7510", func := "gazette/gazettelaw14.AssignSticks", spec := "assignSticks", unfollowed := true, recurses := true, apart := false, narrowed := true }
def AssignSticksUptoSaid : Prop := assignSticksUptoRow.holds Try.pinned (OpenSpec.upto assignSticksSpec)

/-- 'gazettelaw14.AssignCovers', WHERE WHAT IT READS IS OF BULK AT MOST 1048576: true; the input reads as it did. -/
def assignCoversUptoRow : OpenClaim := { program := "ytbjjhnlifgbpmaa", sum := "7d106e783824f8c3b65197a6feb08eda6d087653a03de29275d839359bce7510", func := "gazette/gazettelaw14.AssignCovers", spec := "assignCovers", unfollowed := true, recurses := true, apart := false, narrowed := true }
def AssignCoversUptoSaid : Prop := assignCoversUptoRow.holds Try.pinned (OpenSpec.upto assignCoversSpec)

/-- 'gazettelaw14.AssignStays', WHERE WHAT IT READS IS OF BULK AT MOST 1048576: true; the input reads as it did. -/
def assignStaysUptoRow : OpenClaim := { program := "ytbjjhnlifgbpmaa", sum := "7d106e783824f8c3b65197a6feb08eda6d087653a03de29275d839359bce7510", func := "gazette/gazettelaw14.AssignStays", spec := "assignStays", unfollowed := true, recurses := true, apart := false, narrowed := true }
def AssignStaysUptoSaid : Prop := assignStaysUptoRow.holds Try.pinned (OpenSpec.upto assignStaysSpec)

/-- 'gazettelaw14.AssignKeys', WHERE WHAT IT READS IS OF BULK AT MOST 1048576: true; the input reads as it did. -/
def assignKeysUptoRow : OpenClaim := { program := "ytbjjhnlifgbpmaa", sum := "7d106e783824f8c3b65197a6feb08eda6d087653a03de29275d839359bce7510", func := "gazette/gazettelaw14.AssignKeys", spec := "assignKeys", unfollowed := true, recurses := true, apart := false, narrowed := true }
def AssignKeysUptoSaid : Prop := assignKeysUptoRow.holds Try.pinned (OpenSpec.upto assignKeysSpec)

end Rows
end Go.Proofs.Ytbjjhnlifgbpmaa
