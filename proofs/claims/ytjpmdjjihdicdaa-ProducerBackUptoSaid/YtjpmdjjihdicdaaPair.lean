/- Keys of two whole numbers. -/
import Derived.Test.YtjpmdjjihdicdaaRows
import Derived.Test.YtjpmdjjihdicdaaFM
import Derived.ProofKit
namespace Go.Proofs.Ytjpmdjjihdicdaa
open Go.RowKit Go.Maps
theorem Try.laidOut : laidOutB Try.prog = true := by kernel_rfl

def kvP (x : Int × Int) : Value := .agg #[.int .i64 x.1, .int .i64 x.2]
def klP (x : Int × Int) : Lit := .string (keyBytes [.int .i64 x.1, .int .i64 x.2])
def okP (x : Int × Int) : Prop := okI x.1 ∧ okI x.2
theorem pair_formed (a b : Int) : (kvP (a, b)).formed Try.prog 39 = true := by kernel_rfl
theorem pair_type : Try.prog.keyType 39 = true := by kernel_rfl
theorem pair_cells : Try.prog.cellsOf 39 = 2 := by kernel_rfl
theorem int_cells : Try.prog.cellsOf 3 = 1 := by kernel_rfl
theorem types_size : ∃ d, Try.prog.types.size + 1 = d + 2 := ⟨Try.prog.types.size - 1, by have : 1 ≤ Try.prog.types.size := of_decide_eq_true (by kernel_rfl)
                                                                                          omega⟩
theorem pair_key (x : Int × Int) (h : okP x) : keyOf Try.prog 39 (kvP x) = some (klP x) := by
  obtain ⟨a, b⟩ := x
  obtain ⟨d, hd⟩ := types_size
  have hl : Try.prog.keyLits (d + 2) 39 [.int .i64 a, .int .i64 b] = some [.int .i64 a, .int .i64 b] := by
    simp [Program.keyLits, Try.underlying39, Try.underlying3, pair_cells, int_cells, wf64 h.1, wf64 h.2, List.range_succ]
  unfold keyOf
  rw [Try.underlying39]
  simp only
  rw [pair_formed, pair_type, hd]
  simp [kvP, Value.cells, hl, klP]
theorem told_pair : KeyTold Try.prog 39 (Int × Int) okP kvP klP where
  keyed := Keyed.of_law (deep_law_laid Try.laidOut (m := 5) (by omega) (of_decide_eq_true (by kernel_rfl)) (by kernel_rfl) (by rw [Try.underlying39]))
  key := pair_key
  lit := fun _ _ => trivial
  inj := fun x y hx hy h => by
    have hx' := pair_key x hx
    have hy' := pair_key y hy
    rw [h] at hx'
    have := (Keyed.of_law (deep_law_laid (k := 39) Try.laidOut (m := 5) (by omega) (of_decide_eq_true (by kernel_rfl)) (by kernel_rfl) (by rw [Try.underlying39]))).inj hx' hy'
    simp [kvP] at this
    exact Prod.ext this.1 this.2
end Go.Proofs.Ytjpmdjjihdicdaa
