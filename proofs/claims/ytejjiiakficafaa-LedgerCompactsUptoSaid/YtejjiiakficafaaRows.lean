/-
  No cell of these rows narrows 'for every input' (looked for: loops, veiled, ifaces, maps, wideKeys, modest, calm, conditions, laid).
  DERIVED. THE GIVEN ROWS OF THIS SEAT. 5 by the template 'for every input the law returns true; each argument reads behind the call as it read before'; 0 by the template 'total and deterministic' (their statements: YtejjiiakficafaaTotals.lean).
  GIVEN WITH THE SEED: the statements are not yours to turn. If you find one false, say at which input.
  Laid BY PROGRAM, IN A SANDBOX (cutbox-rows.mjs): the forced cells as the released guide's own fill.sh prints them over the translation 4a718e4cc73c08f2… (all of the seat's roots in one cut). By AI agents, Wed Nov 11 2026. No macro, syntax, notation, axiom, sorry.
-/
import Derived.Test.YtejjiiakficafaaChecked
import GoSem.Claim
import GoSem.ClaimJoined
import GoSem.ClaimMapViews
import Derived.JoinedTies
import Derived.KernelRfl
namespace Go.Proofs.Ytejjiiakficafaa
/- THE CELL 'sum', in the pinned program and in every row, IS THE sha256 OF THE DUMP (.gsa) THAT YtejjiiakficafaaProg.lean LOADS. Nothing in Lean hashes anything: it is a label: what it is worth is what the hold of that sum in a sandbox is worth. -/
noncomputable def Try.pinned : Pinned := { name := "ytejjiiakficafaa", sum := "4a718e4cc73c08f28e5e051c28af1bf64751eccb73e772d1376c9c8c01879cb4", checked := Try.checked }
namespace Rows
def none {H : Type} : Left H := { results := [], args := [] }

/-- 'gazettelaw13.LedgerCommitted': WHATEVER THE INPUT: true; the input reads as it did. -/
def ledgerCommittedSpec : ChangeSpec := { name := "ledgerCommitted", fn := fun _ => fun
  | [d] => { results := [.lit (.bool true)], args := [d] }
  | _ => none }
def ledgerCommittedRow : OpenClaim := { program := "ytejjiiakficafaa", sum := "4a718e4cc73c08f28e5e051c28af1bf64751eccb73e772d1376c9c8c01879cb4", func := "gazette/gazettelaw13.LedgerCommitted", spec := "ledgerCommitted", unfollowed := true, recurses := true, apart := false }
def LedgerCommittedSaid : Prop := ledgerCommittedRow.holds Try.pinned (OpenSpec.ofChange ledgerCommittedSpec)

/-- ITS FALSE NEIGHBOUR: 'it returns false'. Refute it at one input. -/
def ledgerCommittedWrong : ChangeSpec := { name := "ledgerCommitted", fn := fun _ => fun
  | [d] => { results := [.lit (.bool false)], args := [d] }
  | _ => none }
def LedgerCommittedWrongFalsely : Prop := ledgerCommittedRow.holds Try.pinned (OpenSpec.ofChange ledgerCommittedWrong)

/-- 'gazettelaw13.LedgerPages': WHATEVER THE INPUT: true; the input reads as it did. -/
def ledgerPagesSpec : ChangeSpec := { name := "ledgerPages", fn := fun _ => fun
  | [d1, d2, d3] => { results := [.lit (.bool true)], args := [d1, d2, d3] }
  | _ => none }
def ledgerPagesRow : OpenClaim := { program := "ytejjiiakficafaa", sum := "4a718e4cc73c08f28e5e051c28af1bf64751eccb73e772d1376c9c8c01879cb4", func := "gazette/gazettelaw13.LedgerPages", spec := "ledgerPages", unfollowed := true, recurses := true, apart := false }
def LedgerPagesSaid : Prop := ledgerPagesRow.holds Try.pinned (OpenSpec.ofChange ledgerPagesSpec)

/-- ITS FALSE NEIGHBOUR: 'it returns false'. Refute it at one input. -/
def ledgerPagesWrong : ChangeSpec := { name := "ledgerPages", fn := fun _ => fun
  | [d1, d2, d3] => { results := [.lit (.bool false)], args := [d1, d2, d3] }
  | _ => none }
def LedgerPagesWrongFalsely : Prop := ledgerPagesRow.holds Try.pinned (OpenSpec.ofChange ledgerPagesWrong)

/-- 'gazettelaw13.LedgerGrows': WHATEVER THE INPUT: true; the input reads as it did. -/
def ledgerGrowsSpec : ChangeSpec := { name := "ledgerGrows", fn := fun _ => fun
  | [d] => { results := [.lit (.bool true)], args := [d] }
  | _ => none }
def ledgerGrowsRow : OpenClaim := { program := "ytejjiiakficafaa", sum := "4a718e4cc73c08f28e5e051c28af1bf64751eccb73e772d1376c9c8c01879cb4", func := "gazette/gazettelaw13.LedgerGrows", spec := "ledgerGrows", unfollowed := true, recurses := true, apart := false }
def LedgerGrowsSaid : Prop := ledgerGrowsRow.holds Try.pinned (OpenSpec.ofChange ledgerGrowsSpec)

/-- ITS FALSE NEIGHBOUR: 'it returns false'. Refute it at one input. -/
def ledgerGrowsWrong : ChangeSpec := { name := "ledgerGrows", fn := fun _ => fun
  | [d] => { results := [.lit (.bool false)], args := [d] }
  | _ => none }
def LedgerGrowsWrongFalsely : Prop := ledgerGrowsRow.holds Try.pinned (OpenSpec.ofChange ledgerGrowsWrong)

/-- 'gazettelaw13.LedgerCompacts': WHATEVER THE INPUT: true; the input reads as it did. -/
def ledgerCompactsSpec : ChangeSpec := { name := "ledgerCompacts", fn := fun _ => fun
  | [d1, d2, d3] => { results := [.lit (.bool true)], args := [d1, d2, d3] }
  | _ => none }
def ledgerCompactsRow : OpenClaim := { program := "ytejjiiakficafaa", sum := "4a718e4cc73c08f28e5e051c28af1bf64751eccb73e772d1376c9c8c01879cb4", func := "gazette/gazettelaw13.LedgerCompacts", spec := "ledgerCompacts", unfollowed := true, recurses := true, apart := false }
def LedgerCompactsSaid : Prop := ledgerCompactsRow.holds Try.pinned (OpenSpec.ofChange ledgerCompactsSpec)

/-- ITS FALSE NEIGHBOUR: 'it returns false'. Refute it at one input. -/
def ledgerCompactsWrong : ChangeSpec := { name := "ledgerCompacts", fn := fun _ => fun
  | [d1, d2, d3] => { results := [.lit (.bool false)], args := [d1, d2, d3] }
  | _ => none }
def LedgerCompactsWrongFalsely : Prop := ledgerCompactsRow.holds Try.pinned (OpenSpec.ofChange ledgerCompactsWrong)

/-- 'gazettelaw13.LedgerNil': WHATEVER THE INPUT: true; the input reads as it did. -/
def ledgerNilSpec : ChangeSpec := { name := "ledgerNil", fn := fun _ => fun
  | [d1, d2] => { results := [.lit (.bool true)], args := [d1, d2] }
  | _ => none }
def ledgerNilRow : OpenClaim := { program := "ytejjiiakficafaa", sum := "4a718e4cc73c08f28e5e051c28af1bf64751eccb73e772d1376c9c8c01879cb4", func := "gazette/gazettelaw13.LedgerNil", spec := "ledgerNil", unfollowed := true, recurses := true, apart := false }
def LedgerNilSaid : Prop := ledgerNilRow.holds Try.pinned (OpenSpec.ofChange ledgerNilSpec)

/-- ITS FALSE NEIGHBOUR: 'it returns false'. Refute it at one input. -/
def ledgerNilWrong : ChangeSpec := { name := "ledgerNil", fn := fun _ => fun
  | [d1, d2] => { results := [.lit (.bool false)], args := [d1, d2] }
  | _ => none }
def LedgerNilWrongFalsely : Prop := ledgerNilRow.holds Try.pinned (OpenSpec.ofChange ledgerNilWrong)

/- THE SECOND FORM. 'bulk': how many values and letters a reading holds, each counted each time it is reached (what is shared counts as often as it is met; a slice's spare places count too). A statement '..UptoSaid' is the law's where the arguments, and the package variables that the reading takes, are together of bulk at most 1048576: NARROWER than '..Said'. Prove '..Said' where nothing that the law and all that it calls make is longer than what came in: it says more and counts as full. Else prove '..UptoSaid'. A law counts once. -/
mutual
def uptoBulk {H : Type} : DataW H → Nat
  | .lit (.string bytes) => bytes.length + 1
  | .lit _ => 1
  | .nil => 1
  | .ptr d => uptoBulk d + 1
  | .slice elems spare => uptoBulkAll elems + uptoBulkAll spare + 1
  | .agg parts => uptoBulkAll parts + 1
  | .iface _ d => uptoBulk d + 1
  | .map entries => uptoBulkEntries entries + 1
  | .held _ => 1
def uptoBulkAll {H : Type} : List (DataW H) → Nat
  | [] => 0
  | d :: r => uptoBulk d + uptoBulkAll r
def uptoBulkEntries {H : Type} : List (Lit × DataW H) → Nat
  | [] => 0
  | x :: r => uptoBulkEntry x + uptoBulkEntries r
def uptoBulkEntry {H : Type} : Lit × DataW H → Nat
  | (.string bytes, d) => bytes.length + uptoBulk d + 1
  | (_, d) => uptoBulk d + 1
 end
def uptoSmall : (H : Type) → List (DataW H) → Bool := fun _ ds => decide (uptoBulkAll ds ≤ 1048576)
def OpenSpec.upto (s : _root_.Go.ChangeSpec) : _root_.Go.OpenSpec := { _root_.Go.OpenSpec.ofChange s with cond := some uptoSmall }

/-- 'gazettelaw13.LedgerCommitted', WHERE WHAT IT READS IS OF BULK AT MOST 1048576: true; the input reads as it did. -/
def ledgerCommittedUptoRow : OpenClaim := { program := "ytejjiiakficafaa", sum := "4a718e4cc73c08f28e5e051c28af1bf64751eccb73e772d1376c9c8c01879cb4", func := "gazette/gazettelaw13.LedgerCommitted", spec := "ledgerCommitted", unfollowed := true, recurses := true, apart := false, narrowed := true }
def LedgerCommittedUptoSaid : Prop := ledgerCommittedUptoRow.holds Try.pinned (OpenSpec.upto ledgerCommittedSpec)

/-- 'gazettelaw13.LedgerPages', WHERE WHAT IT READS IS OF BULK AT MOST 1048576: true; the input reads as it did. -/
def ledgerPagesUptoRow : OpenClaim := { program := "ytejjiiakficafaa", sum := "4a718e4cc73c08f28e5e051c28af1bf64751eccb73e772d1376c9c8c01879cb4", func := "gazette/gazettelaw13.LedgerPages", spec := "ledgerPages", unfollowed := true, recurses := true, apart := false, narrowed := true }
def LedgerPagesUptoSaid : Prop := ledgerPagesUptoRow.holds Try.pinned (OpenSpec.upto ledgerPagesSpec)

/-- 'gazettelaw13.LedgerGrows', WHERE WHAT IT READS IS OF BULK AT MOST 1048576: true; the input reads as it did. -/
def ledgerGrowsUptoRow : OpenClaim := { program := "ytejjiiakficafaa", sum := "4a718e4cc73c08f28e5e051c28af1bf64751eccb73e772d1376c9c8c01879cb4", func := "gazette/gazettelaw13.LedgerGrows", spec := "ledgerGrows", unfollowed := true, recurses := true, apart := false, narrowed := true }
def LedgerGrowsUptoSaid : Prop := ledgerGrowsUptoRow.holds Try.pinned (OpenSpec.upto ledgerGrowsSpec)

/-- 'gazettelaw13.LedgerCompacts', WHERE WHAT IT READS IS OF BULK AT MOST 1048576: true; the input reads as it did. -/
def ledgerCompactsUptoRow : OpenClaim := { program := "ytejjiiakficafaa", sum := "4a718e4cc73c08f28e5e051c28af1bf64751eccb73e772d1376c9c8c01879cb4", func := "gazette/gazettelaw13.LedgerCompacts", spec := "ledgerCompacts", unfollowed := true, recurses := true, apart := false, narrowed := true }
def LedgerCompactsUptoSaid : Prop := ledgerCompactsUptoRow.holds Try.pinned (OpenSpec.upto ledgerCompactsSpec)

/-- 'gazettelaw13.LedgerNil', WHERE WHAT IT READS IS OF BULK AT MOST 1048576: true; the input reads as it did. -/
def ledgerNilUptoRow : OpenClaim := { program := "ytejjiiakficafaa", sum := "4a718e4cc73c08f28e5e051c28af1bf64751eccb73e772d1376c9c8c01879cb4", func := "gazette/gazettelaw13.LedgerNil", spec := "ledgerNil", unfollowed := true, recurses := true, apart := false, narrowed := true }
def LedgerNilUptoSaid : Prop := ledgerNilUptoRow.holds Try.pinned (OpenSpec.upto ledgerNilSpec)

end Rows
end Go.Proofs.Ytejjiiakficafaa
