/- The walk of DiskNil. -/
import Derived.Test.YteaenhmiomoocaaKn
import Derived.Test.YteaenhmiomoocaaNi
namespace Go.Proofs.Yteaenhmiomoocaa
open Go.RowKit Go.Shelf Go.Maps

set_option maxRecDepth 100000 in
set_option maxHeartbeats 2000000 in
theorem dnil_any (i : Int) (A : Option Addr) (n c : Nat) (A2 : Option Addr) (n2 c2 : Nat) (w : World) :
    Calls Try.prog 8 #[.int .i64 i, .slice A n c, .slice A2 n2 c2] w fun e w' => e = .returned (.bool true) ∧ Below w.heap.size w w' := by
  go_enter Try.func8, Try.ntmps8
  go_wp2_with fail
  go_loopw [7, 8] (fun d k wr => ∃ (m : Nat) (p : Option Addr), m ≤ 2 ∧ k = .int .i64 m ∧ d = .pointer p ∧ NoneD wr p ∧ Below w.heap.size w wr) (fun _ k _ => 2 - (intOf k).toNat)
  case atStart => exact ⟨0, none, by omega, rfl, rfl, .inl rfl, Below.refl _ _⟩
  case round =>
    obtain ⟨m, p, hm, rfl, rfl, hN, hb⟩ := hrel
    by_cases hlt : m < 2
    · go_wp2_with (first
        | (go_at_call 17; refine (cut_of hN i).mono ?_; rintro e w' ⟨rfl, rfl⟩)
        | (go_at_call 15; refine (crash_of hN A2 n2 c2).mono ?_; rintro e w' ⟨rfl, rfl⟩)
        | (go_at_call 16; refine (read_of hN i).mono ?_; rintro e w' ⟨rfl, rfl⟩)
        | (go_at_call 10; refine (num_any _ _).mono ?_; rintro e w' ⟨rfl, rfl⟩)
        | (go_at_call 13; refine (write_of hN i A n c).mono ?_; rintro e w1 ⟨rfl, b1⟩; have hN1 := hN.below b1)
        | (go_at_call 12; refine (sync_of hN1).mono ?_; rintro e w2 ⟨rfl, b2⟩; have hN2 := hN1.below b2)
        | (go_at_call 18; refine (down_of hN2).mono ?_; rintro e w' ⟨rfl, rfl⟩)
        | (go_at_call 19; refine (dirty_of hN2).mono ?_; rintro e w' ⟨rfl, rfl⟩)
        | (go_at_call 22; refine (blocks_of hN2).mono ?_; rintro e w' ⟨rfl, rfl⟩))
      go_roundw
      case rel =>
        refine ⟨m + 1, some ⟨w2.heap.size, 0, none⟩, by omega, by go_num, rfl, .inr ⟨_, none, 0, rfl, by simp, ?_⟩, bl_alloc (bl_tr (bl_tr hb b1) b2) _⟩
        exact (Blk.new' _ _ rfl).get rfl
      case measure => simp [intOf]; omega
    · obtain rfl : m = 2 := by omega
      go_wp2_with (go_at_call 11; refine (knows_any _).mono ?_; rintro e w1 ⟨rfl, b1⟩)
      go_ret
      exact ⟨rfl, bl_tr hb b1⟩
end Go.Proofs.Yteaenhmiomoocaa
