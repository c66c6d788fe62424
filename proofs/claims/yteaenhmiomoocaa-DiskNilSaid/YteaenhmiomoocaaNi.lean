/- disk: no disk, and one that nobody made: each call. -/
import Derived.Test.YteaenhmiomoocaaRe
namespace Go.Proofs.Yteaenhmiomoocaa
open Go.RowKit Go.Shelf Go.Maps
attribute [local go_sem] Oper.semAt_some

/-- No disk, or one that nobody made. -/
def NoneD (w : World) (p : Option Addr) : Prop := p = none ∨ ∃ b A c, p = some ⟨b, 0, none⟩ ∧ b < w.heap.size ∧ w.cell? ⟨b, 0, none⟩ = some (.slice A 0 c)
theorem NoneD.below {w w' : World} {p : Option Addr} (h : NoneD w p) (hb : Below w.heap.size w w') : NoneD w' p := by
  rcases h with h | ⟨b, A, c, h1, h2, h3⟩
  · exact .inl h
  · exact .inr ⟨b, A, c, h1, Nat.lt_of_lt_of_le h2 hb.size, (hb.cell (p := ⟨b, 0, none⟩) h2).trans h3⟩
theorem none_of {w : World} {p : Option Addr} (h : NoneD w p) : Calls Try.prog 23 #[.pointer p] w fun e w' => e = .returned (.bool true) ∧ w = w' := by
  rcases h with rfl | ⟨b, A, c, rfl, _, h3⟩
  · exact none_nil w
  · exact none_zero b A c w h3

set_option maxHeartbeats 400000 in
theorem cut_of {w : World} {p : Option Addr} (h : NoneD w p) (n : Int) : Calls Try.prog 17 #[.pointer p, .int .i64 n] w fun e w' => e = .returned (.tuple #[]) ∧ w = w' := by
  go_enter Try.func17, Try.ntmps17
  go_wp2_with (go_at_call 23; refine (none_of h).mono ?_; rintro e w' ⟨rfl, rfl⟩)
  go_end0
  exact ⟨rfl, rfl⟩
set_option maxHeartbeats 400000 in
theorem crash_of {w : World} {p : Option Addr} (h : NoneD w p) (A : Option Addr) (n c : Nat) : Calls Try.prog 15 #[.pointer p, .slice A n c] w fun e w' => e = .returned (.tuple #[]) ∧ w = w' := by
  go_enter Try.func15, Try.ntmps15
  go_wp2_with (go_at_call 23; refine (none_of h).mono ?_; rintro e w' ⟨rfl, rfl⟩)
  refine bodyPost_ret (results_none rfl _ _ _) rfl ?_
  exact ⟨rfl, rfl⟩
set_option maxHeartbeats 400000 in
theorem read_of {w : World} {p : Option Addr} (h : NoneD w p) (n : Int) : Calls Try.prog 16 #[.pointer p, .int .i64 n] w fun e w' => e = .returned (.tuple #[.slice none 0 0, .int .i64 1]) ∧ w = w' := by
  go_enter Try.func16, Try.ntmps16
  go_wp2_with (go_at_call 23; refine (none_of h).mono ?_; rintro e w' ⟨rfl, rfl⟩)
  go_ret2
  exact ⟨rfl, rfl⟩
set_option maxHeartbeats 400000 in
theorem down_of {w : World} {p : Option Addr} (h : NoneD w p) : Calls Try.prog 18 #[.pointer p] w fun e w' => e = .returned (.bool false) ∧ w = w' := by
  go_enter Try.func18, Try.ntmps18
  go_wp2_with (go_at_call 23; refine (none_of h).mono ?_; rintro e w' ⟨rfl, rfl⟩)
  go_ret
  exact ⟨rfl, rfl⟩
set_option maxHeartbeats 400000 in
theorem dirty_of {w : World} {p : Option Addr} (h : NoneD w p) : Calls Try.prog 19 #[.pointer p] w fun e w' => e = .returned (.int .i64 0) ∧ w = w' := by
  go_enter Try.func19, Try.ntmps19
  go_wp2_with (go_at_call 23; refine (none_of h).mono ?_; rintro e w' ⟨rfl, rfl⟩)
  go_ret
  exact ⟨rfl, rfl⟩
set_option maxHeartbeats 400000 in
theorem blocks_of {w : World} {p : Option Addr} (h : NoneD w p) : Calls Try.prog 22 #[.pointer p] w fun e w' => e = .returned (.int .i64 0) ∧ w = w' := by
  go_enter Try.func22, Try.ntmps22
  go_wp2_with (go_at_call 23; refine (none_of h).mono ?_; rintro e w' ⟨rfl, rfl⟩)
  go_ret
  exact ⟨rfl, rfl⟩
set_option maxHeartbeats 400000 in
theorem sync_of {w : World} {p : Option Addr} (h : NoneD w p) : Calls Try.prog 12 #[.pointer p] w fun e w' => e = .returned (.int .i64 1) ∧ Below w.heap.size w w' := by
  go_enter Try.func12, Try.ntmps12
  go_wp2_with (go_at_call 23; refine (none_of (h.below (bl_alloc (Below.refl _ _) _))).mono ?_; rintro e w' ⟨rfl, rfl⟩)
  go_ret
  exact ⟨rfl, bl_alloc (Below.refl _ _) _⟩
set_option maxHeartbeats 1000000 in
theorem write_of {w : World} {p : Option Addr} (h : NoneD w p) (i : Int) (A : Option Addr) (n c : Nat) : Calls Try.prog 13 #[.pointer p, .int .i64 i, .slice A n c] w fun e w' => e = .returned (.int .i64 1) ∧ Below w.heap.size w w' := by
  have hb3 : Below w.heap.size w (((w.alloc (.cells #[.pointer p] 24)).alloc (.cells #[.int .i64 i] 3)).alloc (.cells #[.slice A n c] 30)) := bl_alloc (bl_alloc (bl_alloc (Below.refl _ _) _) _) _
  go_enter Try.func13, Try.ntmps13
  go_wp2_with fail
  go_quiet ((go_at_call 23; refine Calls.quiet_of_same ((none_of ((h.below hb3).below (bl_drewN (Below.refl _ _) _))).mono fun _ _ h => ⟨h.1, h.2.symm⟩)))
  go_wp2_with fail
  go_ret
  exact ⟨rfl, bl_drewN hb3 _⟩
end Go.Proofs.Yteaenhmiomoocaa
