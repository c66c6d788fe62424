/- Changes as data; two structs compared. -/
import Derived.Test.YtjokpjfmnjefdaaBs
import Derived.Laws.StructEq
namespace Go.Proofs.Ytjokpjfmnjefdaa
open Go.RowKit Go.Shelf

structure Ch where
  key : ByteArray
  old : ByteArray
  new : ByteArray
  was : Bool
  is : Bool
deriving Inhabited
def chL (c : Ch) : List Value := [.string c.key, .string c.old, .string c.new, .bool c.was, .bool c.is]
theorem chL_len (c : Ch) : (chL c).length = 5 := rfl
theorem chL_one (c : Ch) : ∀ u ∈ chL c, u.oneCell' = true := by intro u hu; simp [chL] at hu; rcases hu with rfl | rfl | rfl | rfl | rfl <;> rfl
def chD (c : Ch) : Bool := !decide (c.new = c.old) || !(c.is == c.was)

theorem run_neq42 (k o n : ByteArray) (a b : Bool) (w : World) :
    (binOp .neq 42 (.agg #[.string k, .string o, .string n, .bool a, .bool b]) (.agg #[.string k, .string o, .string o, .bool a, .bool a])).run Try.prog w = .ok (.bool (!decide (n = o) || !(b == a))) w := by
  rw [run_neq_struct]
  have h := str_eq n o
  cases hno : decide (n = o)
  all_goals
    rw [hno] at h
    cases a <;> cases b <;> simp [go_sem, Try.underlying42, h]
end Go.Proofs.Ytjokpjfmnjefdaa
