/- Strings compared. -/
import Derived.Test.YtbjjhnlifgbpmaaSM
import Derived.Test.YtbjjhnlifgbpmaaRows
import Derived.Sort.Walk0
import Derived.Lib.Strings
namespace Go.Proofs.Ytbjjhnlifgbpmaa
open Go.RowKit
theorem bytesLess_before : ∀ (x y : List UInt8), Op.bytesLess x y = bytesBefore x y
  | [], [] => by simp [Op.bytesLess, bytesBefore]
  | _ :: _, [] => by simp [Op.bytesLess, bytesBefore]
  | [], _ :: _ => by simp [Op.bytesLess, bytesBefore]
  | a :: x, b :: y => by
    have ih := bytesLess_before x y
    simp only [Op.bytesLess, bytesBefore, ih]
theorem run_str (op : BinOp) (x y : ByteArray) (w : World) : (binOp op 9 (.string x) (.string y)).run Try.prog w = (Op.stringOp op x y).run Try.prog w := by
  simp [binOp, run_underlying Try.underlying9]
theorem str_lt (x y : ByteArray) : Op.bytesLess x.toList y.toList = sb x y := by
  rw [bytesLess_before]; simp [sb, kb, Lib.toList_data]
theorem str_eq (x y : ByteArray) : (x.toList == y.toList) = decide (x = y) := by
  rw [Lib.toList_data, Lib.toList_data]; exact kb_beq x y
theorem run_lss (x y : ByteArray) (w : World) : (binOp .lss 9 (.string x) (.string y)).run Try.prog w = .ok (.bool (sb x y)) w := by
  rw [run_str]; simp [Op.stringOp, str_lt]
theorem run_leq (x y : ByteArray) (w : World) : (binOp .leq 9 (.string x) (.string y)).run Try.prog w = .ok (.bool (sb x y || decide (x = y))) w := by
  rw [run_str]; simp [Op.stringOp, str_lt, str_eq]
theorem run_gtr (x y : ByteArray) (w : World) : (binOp .gtr 9 (.string x) (.string y)).run Try.prog w = .ok (.bool (!(sb x y || decide (x = y)))) w := by
  rw [run_str]; simp [Op.stringOp, str_lt, str_eq]
theorem run_eqs (x y : ByteArray) (w : World) : (binOp .eql 9 (.string x) (.string y)).run Try.prog w = .ok (.bool (decide (x = y))) w := by
  rw [run_str]; simp [Op.stringOp, str_eq]
theorem run_neq (x y : ByteArray) (w : World) : (binOp .neq 9 (.string x) (.string y)).run Try.prog w = .ok (.bool (!decide (x = y))) w := by
  rw [run_str]; simp [Op.stringOp, str_eq]

theorem le_false {x y : ByteArray} (h : sb y x = true) : (sb x y || decide (x = y)) = false := by
  have h1 : sb x y = false := by
    cases e : sb x y with
    | false => rfl
    | true => have := sb_trans h e; rw [sb_irrefl] at this; cases this
  have h2 : x ≠ y := by rintro rfl; rw [sb_irrefl] at h; cases h
  simp [h1, h2]
theorem le_true {x y : ByteArray} (h : ¬ sb y x = true) : (sb x y || decide (x = y)) = true := by
  by_cases e : x = y
  · simp [e]
  · rcases sb_total e with h1 | h1
    · simp [h1]
    · exact absurd h1 h
end Go.Proofs.Ytbjjhnlifgbpmaa
