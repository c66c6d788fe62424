/-
  No cell of these rows narrows 'for every input' (looked for: loops, veiled, ifaces, maps, wideKeys, modest, calm, conditions, laid).
  DERIVED. THE GIVEN ROWS OF THIS SEAT. 6 by the template 'for every input the law returns true; each argument reads behind the call as it read before'; 0 by the template 'total and deterministic' (their statements: YtjpmdjjihdicdaaTotals.lean).
  GIVEN WITH THE SEED: the statements are not yours to turn. If you find one false, say at which input.
  Laid BY PROGRAM, IN A SANDBOX (cutbox-rows.mjs): the forced cells as the released guide's own fill.sh prints them over the translation 9abee10a6d1c9cd6… (all of the seat's roots in one cut). By AI agents, Wed Nov 11 2026. No macro, syntax, notation, axiom, sorry.
-/
import Derived.Test.YtjpmdjjihdicdaaChecked
import GoSem.Claim
import GoSem.ClaimJoined
import GoSem.ClaimMapViews
import Derived.JoinedTies
import Derived.KernelRfl
namespace Go.Proofs.Ytjpmdjjihdicdaa
/- THE CELL 'sum', in the pinned program and in every row, IS THE sha256 OF THE DUMP (.gsa) THAT YtjpmdjjihdicdaaProg.lean LOADS. Nothing in Lean hashes anything: it is a label: what it is worth is what the hold of that sum in a sandbox is worth. -/
noncomputable def Try.pinned : Pinned := { name := "ytjpmdjjihdicdaa", sum := "9abee10a6d1c9cd62b59b52a13c14a7ea8f63b754d551528bc4e9b77fec441a5", checked := Try.checked }
namespace Rows
def none {H : Type} : Left H := { results := [], args := [] }

/-- 'gazettelaw12.ProducerOnce': WHATEVER THE INPUT: true; the input reads as it did. -/
def producerOnceSpec : ChangeSpec := { name := "producerOnce", fn := fun _ => fun
  | [d] => { results := [.lit (.bool true)], args := [d] }
  | _ => none }
def producerOnceRow : OpenClaim := { program := "ytjpmdjjihdicdaa", sum := "9abee10a6d1c9cd62b59b52a13c14a7ea8f63b754d551528bc4e9b77fec441a5", func := "gazette/gazettelaw12.ProducerOnce", spec := "producerOnce", unfollowed := true, recurses := true, plainKeys := false, apart := false }
def ProducerOnceSaid : Prop := producerOnceRow.holds Try.pinned (OpenSpec.ofChange producerOnceSpec)

/-- ITS FALSE NEIGHBOUR: 'it returns false'. Refute it at one input. -/
def producerOnceWrong : ChangeSpec := { name := "producerOnce", fn := fun _ => fun
  | [d] => { results := [.lit (.bool false)], args := [d] }
  | _ => none }
def ProducerOnceWrongFalsely : Prop := producerOnceRow.holds Try.pinned (OpenSpec.ofChange producerOnceWrong)

/-- 'gazettelaw12.ProducerPlays': WHATEVER THE INPUT: true; the input reads as it did. -/
def producerPlaysSpec : ChangeSpec := { name := "producerPlays", fn := fun _ => fun
  | [d1, d2] => { results := [.lit (.bool true)], args := [d1, d2] }
  | _ => none }
def producerPlaysRow : OpenClaim := { program := "ytjpmdjjihdicdaa", sum := "9abee10a6d1c9cd62b59b52a13c14a7ea8f63b754d551528bc4e9b77fec441a5", func := "gazette/gazettelaw12.ProducerPlays", spec := "producerPlays", unfollowed := true, recurses := true, plainKeys := false, apart := false }
def ProducerPlaysSaid : Prop := producerPlaysRow.holds Try.pinned (OpenSpec.ofChange producerPlaysSpec)

/-- ITS FALSE NEIGHBOUR: 'it returns false'. Refute it at one input. -/
def producerPlaysWrong : ChangeSpec := { name := "producerPlays", fn := fun _ => fun
  | [d1, d2] => { results := [.lit (.bool false)], args := [d1, d2] }
  | _ => none }
def ProducerPlaysWrongFalsely : Prop := producerPlaysRow.holds Try.pinned (OpenSpec.ofChange producerPlaysWrong)

/-- 'gazettelaw12.ProducerAgain': WHATEVER THE INPUT: true; the input reads as it did. -/
def producerAgainSpec : ChangeSpec := { name := "producerAgain", fn := fun _ => fun
  | [d1, d2] => { results := [.lit (.bool true)], args := [d1, d2] }
  | _ => none }
def producerAgainRow : OpenClaim := { program := "ytjpmdjjihdicdaa", sum := "9abee10a6d1c9cd62b59b52a13c14a7ea8f63b754d551528bc4e9b77fec441a5", func := "gazette/gazettelaw12.ProducerAgain", spec := "producerAgain", unfollowed := true, recurses := true, plainKeys := false, apart := false }
def ProducerAgainSaid : Prop := producerAgainRow.holds Try.pinned (OpenSpec.ofChange producerAgainSpec)

/-- ITS FALSE NEIGHBOUR: 'it returns false'. Refute it at one input. -/
def producerAgainWrong : ChangeSpec := { name := "producerAgain", fn := fun _ => fun
  | [d1, d2] => { results := [.lit (.bool false)], args := [d1, d2] }
  | _ => none }
def ProducerAgainWrongFalsely : Prop := producerAgainRow.holds Try.pinned (OpenSpec.ofChange producerAgainWrong)

/-- 'gazettelaw12.ProducerLoads': WHATEVER THE INPUT: true; the input reads as it did. -/
def producerLoadsSpec : ChangeSpec := { name := "producerLoads", fn := fun _ => fun
  | [d1, d2] => { results := [.lit (.bool true)], args := [d1, d2] }
  | _ => none }
def producerLoadsRow : OpenClaim := { program := "ytjpmdjjihdicdaa", sum := "9abee10a6d1c9cd62b59b52a13c14a7ea8f63b754d551528bc4e9b77fec441a5", func := "gazette/gazettelaw12.ProducerLoads", spec := "producerLoads", unfollowed := true, recurses := true, plainKeys := false, apart := false }
def ProducerLoadsSaid : Prop := producerLoadsRow.holds Try.pinned (OpenSpec.ofChange producerLoadsSpec)

/-- ITS FALSE NEIGHBOUR: 'it returns false'. Refute it at one input. -/
def producerLoadsWrong : ChangeSpec := { name := "producerLoads", fn := fun _ => fun
  | [d1, d2] => { results := [.lit (.bool false)], args := [d1, d2] }
  | _ => none }
def ProducerLoadsWrongFalsely : Prop := producerLoadsRow.holds Try.pinned (OpenSpec.ofChange producerLoadsWrong)

/-- 'gazettelaw12.ProducerBack': WHATEVER THE INPUT: true; the input reads as it did. -/
def producerBackSpec : ChangeSpec := { name := "producerBack", fn := fun _ => fun
  | [d1, d2] => { results := [.lit (.bool true)], args := [d1, d2] }
  | _ => none }
def producerBackRow : OpenClaim := { program := "ytjpmdjjihdicdaa", sum := "9abee10a6d1c9cd62b59b52a13c14a7ea8f63b754d551528bc4e9b77fec441a5", func := "gazette/gazettelaw12.ProducerBack", spec := "producerBack", unfollowed := true, recurses := true, plainKeys := false, apart := false }
def ProducerBackSaid : Prop := producerBackRow.holds Try.pinned (OpenSpec.ofChange producerBackSpec)

/-- ITS FALSE NEIGHBOUR: 'it returns false'. Refute it at one input. -/
def producerBackWrong : ChangeSpec := { name := "producerBack", fn := fun _ => fun
  | [d1, d2] => { results := [.lit (.bool false)], args := [d1, d2] }
  | _ => none }
def ProducerBackWrongFalsely : Prop := producerBackRow.holds Try.pinned (OpenSpec.ofChange producerBackWrong)

/-- 'gazettelaw12.ProducerDecides': WHATEVER THE INPUT: true; the input reads as it did. -/
def producerDecidesSpec : ChangeSpec := { name := "producerDecides", fn := fun _ => fun
  | [d1, d2, d3] => { results := [.lit (.bool true)], args := [d1, d2, d3] }
  | _ => none }
def producerDecidesRow : OpenClaim := { program := "ytjpmdjjihdicdaa", sum := "9abee10a6d1c9cd62b59b52a13c14a7ea8f63b754d551528bc4e9b77fec441a5", func := "gazette/gazettelaw12.ProducerDecides", spec := "producerDecides", unfollowed := true, recurses := true, plainKeys := false, apart := false }
def ProducerDecidesSaid : Prop := producerDecidesRow.holds Try.pinned (OpenSpec.ofChange producerDecidesSpec)

/-- ITS FALSE NEIGHBOUR: 'it returns false'. Refute it at one input. -/
def producerDecidesWrong : ChangeSpec := { name := "producerDecides", fn := fun _ => fun
  | [d1, d2, d3] => { results := [.lit (.bool false)], args := [d1, d2, d3] }
  | _ => none }
def ProducerDecidesWrongFalsely : Prop := producerDecidesRow.holds Try.pinned (OpenSpec.ofChange producerDecidesWrong)

/- THE SECOND FORM. 'bulk': how many values and letters a reading holds, each counted each time it is reached (what is shared counts as often as it is met; a slice's spare places count too). A statement '..UptoSaid' is the law's where the arguments, and the package variables that the reading takes, are together of bulk at most 1048576: NARROWER than '..Said'. Prove '..Said' where nothing that the law and all that it calls make is longer than what came in: it says more and counts as full. Else prove '..UptoSaid'. A law counts once. -/
mutual
def uptoBulk {H : Type} : DataW H → Nat
  | .lit (.string bytes) => bytes.length + 1
  | .lit _ => 1
  | .nil => 1
  | .ptr d => uptoBulk d + 1
  | .slice elems spare => uptoBulkAll elems + uptoBulkAll spare + 1
  | .agg parts => uptoBulkAll parts + 1
  | .iface _ d => uptoBulk d + 1
  | .map entries => uptoBulkEntries entries + 1
  | .held _ => 1
def uptoBulkAll {H : Type} : List (DataW H) → Nat
  | [] => 0
  | d :: r => uptoBulk d + uptoBulkAll r
def uptoBulkEntries {H : Type} : List (Lit × DataW H) → Nat
  | [] => 0
  | x :: r => uptoBulkEntry x + uptoBulkEntries r
def uptoBulkEntry {H : Type} : Lit × DataW H → Nat
  | (.string bytes, d) => bytes.length + uptoBulk d + 1
  | (_, d) => uptoBulk d + 1
 end
def uptoSmall : (H : Type) → List (DataW H) → Bool := fun _ ds => decide (uptoBulkAll ds ≤ 1048576)
def OpenSpec.upto (s : _root_.Go.ChangeSpec) : _root_.Go.OpenSpec := { _root_.Go.OpenSpec.ofChange s with cond := some uptoSmall }

/-- 'gazettelaw12.ProducerOnce', WHERE WHAT IT READS IS OF BULK AT MOST 1048576: true; the input reads as it did. -/
def producerOnceUptoRow : OpenClaim := { program := "ytjpmdjjihdicdaa", sum := "9abee10a6d1c9cd62b59b52a13c14a7ea8f63b754d551528bc4e9b77fec441a5", func := "gazette/gazettelaw12.ProducerOnce", spec := "producerOnce", unfollowed := true, recurses := true, plainKeys := false, apart := false, narrowed := true }
def ProducerOnceUptoSaid : Prop := producerOnceUptoRow.holds Try.pinned (OpenSpec.upto producerOnceSpec)

/-- 'gazettelaw12.ProducerPlays', WHERE WHAT IT READS IS OF BULK AT MOST 1048576: true; the input reads as it did. -/
def producerPlaysUptoRow : OpenClaim := { program := "ytjpmdjjihdicdaa", sum := "9abee10a6d1c9cd62b59b52a13c14a7ea8f63b754d551528bc4e9b77fec441a5", func := "gazette/gazettelaw12.ProducerPlays", spec := "producerPlays", unfollowed := true, recurses := true, plainKeys := false, apart := false, narrowed := true }
def ProducerPlaysUptoSaid : Prop := producerPlaysUptoRow.holds Try.pinned (OpenSpec.upto producerPlaysSpec)

/-- 'gazettelaw12.ProducerAgain', WHERE WHAT IT READS IS OF BULK AT MOST 1048576: true; the input reads as it did. -/
def producerAgainUptoRow : OpenClaim := { program := "ytjpmdjjihdicdaa", sum := "9abee10a6d1c9cd62b59b52a13c14a7ea8f63b754d551528bc4e9b77fec441a5", func := "gazette/gazettelaw12.ProducerAgain", spec := "producerAgain", unfollowed := true, recurses := true, plainKeys := false, apart := false, narrowed := true }
def ProducerAgainUptoSaid : Prop := producerAgainUptoRow.holds Try.pinned (OpenSpec.upto producerAgainSpec)

/-- 'gazettelaw12.ProducerLoads', WHERE WHAT IT READS IS OF BULK AT MOST 1048576: true; the input reads as it did. -/
def producerLoadsUptoRow : OpenClaim := { program := "ytjpmdjjihdicdaa", sum := "9abee10a6d1c9cd62b59b52a13c14a7ea8f63b754d551528bc4e9b77fec441a5", func := "gazette/gazettelaw12.ProducerLoads", spec := "producerLoads", unfollowed := true, recurses := true, plainKeys := false, apart := false, narrowed := true }
def ProducerLoadsUptoSaid : Prop := producerLoadsUptoRow.holds Try.pinned (OpenSpec.upto producerLoadsSpec)

/-- 'gazettelaw12.ProducerBack', WHERE WHAT IT READS IS OF BULK AT MOST 1048576: true; the input reads as it did. -/
def producerBackUptoRow : OpenClaim := { program := "ytjpmdjjihdicdaa", sum := "9abee10a6d1c9cd62b59b52a13c14a7ea8f63b754d551528bc4e9b77fec441a5", func := "gazette/gazettelaw12.ProducerBack", spec := "producerBack", unfollowed := true, recurses := true, plainKeys := false, apart := false, narrowed := true }
def ProducerBackUptoSaid : Prop := producerBackUptoRow.holds Try.pinned (OpenSpec.upto producerBackSpec)

/-- 'gazettelaw12.ProducerDecides', WHERE WHAT IT READS IS OF BULK AT MOST 1048576: true; the input reads as it did. -/
def producerDecidesUptoRow : OpenClaim := { program := "ytjpmdjjihdicdaa", sum := "9abee10a6d1c9cd62b59b52a13c14a7ea8f63b754d551528bc4e9b77fec441a5", func := "gazette/gazettelaw12.ProducerDecides", spec := "producerDecides", unfollowed := true, recurses := true, plainKeys := false, apart := false, narrowed := true }
def ProducerDecidesUptoSaid : Prop := producerDecidesUptoRow.holds Try.pinned (OpenSpec.upto producerDecidesSpec)

end Rows
end Go.Proofs.Ytjpmdjjihdicdaa
