/- gazettelaw02.Same: a batch against its own copy. -/
import Derived.Test.YtjpmdjjihdicdaaRefC
import Derived.Laws.StructEq
import Derived.BigQuiet
namespace Go.Proofs.Ytjpmdjjihdicdaa
open Go.RowKit Go.Shelf
attribute [local go_sem] Oper.semAt_some

theorem run_neq84 (k v : ByteArray) (d : Bool) (w : World) :
    (binOp .neq 84 (.agg #[.string k, .string v, .bool d]) (.agg #[.string k, .string v, .bool d])).run Try.prog w = .ok (.bool false) w := by
  rw [run_neq_struct]
  simp [go_sem, Try.underlying84]

set_option maxRecDepth 100000 in
set_option maxHeartbeats 2000000 in
theorem bsame_any (k p e s : Int) (t : Bool) (A B : Option Addr) (c d : Nat) (rs : List Rec) (w : World) (hA : RecsAt w A rs) (hB : RecsAt w B rs) :
    Calls Try.prog 28 #[.agg #[.int .i64 k, .int .i64 p, .int .i64 e, .int .i64 s, .bool t, .slice A rs.length c], .agg #[.int .i64 k, .int .i64 p, .int .i64 e, .int .i64 s, .bool t, .slice B rs.length d]] w fun e w' => e = .returned (.bool true) ∧ Below w.heap.size w w' := by
  have hll := hA.1
  go_enter Try.func28, Try.ntmps28
  go_wp2_with fail
  have X0 : Blk (w.alloc (.cells #[.int .i64 k, .int .i64 p, .int .i64 e, .int .i64 s, .bool t, .slice A rs.length c] 30)) w.heap.size [.int .i64 k, .int .i64 p, .int .i64 e, .int .i64 s, .bool t, .slice A rs.length c] := Blk.new' _ _ rfl
  have Y0 := Blk.new (w.alloc (.cells #[.int .i64 k, .int .i64 p, .int .i64 e, .int .i64 s, .bool t, .slice A rs.length c] 30)) #[.int .i64 k, .int .i64 p, .int .i64 e, .int .i64 s, .bool t, .slice B rs.length d] 30
  have hn := X0.alloc (.cells #[.int .i64 k, .int .i64 p, .int .i64 e, .int .i64 s, .bool t, .slice B rs.length d] 30)
  go_loopw [5] (fun u ws => ∃ i : Nat, i ≤ rs.length ∧ u = .int .i64 i ∧ Blk ws w.heap.size [.int .i64 k, .int .i64 p, .int .i64 e, .int .i64 s, .bool t, .slice A rs.length c] ∧ Blk ws (w.heap.size + 1) [.int .i64 k, .int .i64 p, .int .i64 e, .int .i64 s, .bool t, .slice B rs.length d] ∧ Below w.heap.size w ws) (fun u _ => rs.length - (intOf u).toNat)
  case atStart => exact ⟨0, Nat.zero_le _, rfl, hn, by simpa using Y0, bl_alloc (bl_alloc (Below.refl _ _) _) _⟩
  case round =>
    obtain ⟨i, hi, rfl, X1, Y1, hb⟩ := hrel
    have q5 := X1.get (j := 5) rfl
    have r5 := Y1.get (j := 5) rfl
    clear X0 Y0 hn
    by_cases hlt : i < rs.length
    · obtain ⟨b, o, rfl, hbl, a0, a1, a2, _⟩ := (hA.below hb).2 i hlt
      obtain ⟨b', o', rfl, hbl', b0, b1, b2, _⟩ := (hB.below hb).2 i hlt
      generalize rs[i] = x at a0 a1 a2 b0 b1 b2
      have hltI : (i : Int) < (rs.length : Int) := by omega
      have hneq := run_neq84 x.key x.val x.dead
      clear hA hB
      go_wp2_with fail
      go_quiet (fail)
      go_wp2_with fail
      go_roundw
      case rel => exact ⟨i + 1, by omega, by go_num, X1.drewN _, Y1.drewN _, bl_drewN hb _⟩
      case measure => simp [intOf]; omega
    · obtain rfl : i = rs.length := by omega
      go_wp2_with fail
      go_ret
      exact ⟨rfl, hb⟩
end Go.Proofs.Ytjpmdjjihdicdaa
