/- assign.Sticky (14) where it refuses, or where nobody is. -/
import Derived.Test.YtbjjhnlifgbpmaaNm
namespace Go.Proofs.Ytbjjhnlifgbpmaa
open Go.RowKit Go.Shelf
attribute [local go_sem] Oper.semAt_some

set_option maxRecDepth 100000 in
set_option maxHeartbeats 4000000 in
theorem sticky_bad (v : Value) (Am : Option Addr) (cm : Nat) (ml : List ByteArray) (parts : Int) (w : World) (hm : LAt w Am 1 encS ml) (hml : ml.length * 16 ≤ 140737488351232) (S : List ByteArray) (hS : sortS ml = S) (hk : ∀ s ∈ S, s.size ≤ 140737488351232) (hN : okN S parts = false) :
    Calls Try.prog 14 #[v, .slice Am ml.length cm, .int .i64 parts] w fun e w' => e = .returned (.tuple #[.slice none 0 0, .int .i64 1]) ∧ Below w.heap.size w w' := by
  have hnm := names_any Am cm ml parts w hm hml S hS hk
  rw [hN] at hnm
  replace hnm := Lib.hid hnm
  go_enter Try.func14, Try.ntmps14
  go_wp2_with (go_at_call 20; refine hnm.out.mono ?_; rintro e w1 ⟨Al, cl, rfl, hrow, hb1⟩)
  go_ret2
  exact ⟨rfl, bl_alloc hb1 _⟩
set_option maxRecDepth 100000 in
set_option maxHeartbeats 4000000 in
theorem sticky_nil (v : Value) (Am : Option Addr) (cm : Nat) (ml : List ByteArray) (parts : Int) (w : World) (hm : LAt w Am 1 encS ml) (hml : ml.length * 16 ≤ 140737488351232) (hS : sortS ml = []) (hN : okN [] parts = true) :
    Calls Try.prog 14 #[v, .slice Am ml.length cm, .int .i64 parts] w fun e w' => e = .returned (.tuple #[.slice none 0 0, .int .i64 0]) ∧ Below w.heap.size w w' := by
  have hnm := names_any Am cm ml parts w hm hml [] hS (fun s hs => by simp at hs)
  rw [hN, List.length_nil] at hnm
  replace hnm := Lib.hid hnm
  go_enter Try.func14, Try.ntmps14
  go_wp2_with (go_at_call 20; refine hnm.out.mono ?_; rintro e w1 ⟨Al, cl, rfl, hrow, hb1⟩)
  go_ret2
  exact ⟨rfl, bl_alloc hb1 _⟩
end Go.Proofs.Ytbjjhnlifgbpmaa
