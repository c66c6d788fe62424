/- ViewGets walked. -/
import Derived.Test.YtjokpjfmnjefdaaKw
import Derived.Test.YtjokpjfmnjefdaaGt
namespace Go.Proofs.Ytjokpjfmnjefdaa
open Go.RowKit Go.Shelf
attribute [local go_sem] Oper.semAt_some

set_option maxHeartbeats 400000 in
theorem vgets_any (A : Option Addr) (c : Nat) (l : List Pr) (k : ByteArray) (w : World) (hl : LAt w A 3 prL l) (hll : l.length ≤ 3518437208800) :
    Calls Try.prog 5 #[.slice A l.length c, .string k] w fun e w' => e = .returned (.bool true) ∧ Below w.heap.size w w' := by
  go_enter Try.func5, Try.ntmps5
  go_wp2_with fail
  refine (own_any A c l w hl hll).mono ?_
  rintro e w1 ⟨A1, c1, rfl, hP, hw1⟩
  go_wp2_with fail
  refine (get_any A1 c1 l k w1 hP.row (by omega)).mono ?_
  rintro e w2 ⟨rfl, hw2⟩
  generalize hg : getL l k = g
  replace hg := Lib.hid hg
  go_wp2_with fail
  refine (rget_any A c l k w2 (hl.below (bl_tr hw1 hw2)) (by omega)).mono ?_
  rw [hg.out]
  rintro e w3 ⟨rfl, hw3⟩
  go_wp2_with fail
  refine (knows_any _).mono ?_
  rintro e w5 ⟨rfl, hw5⟩
  go_wp2_with fail
  go_ret
  exact ⟨rfl, bl_tr hw1 (bl_tr hw2 (bl_tr hw3 hw5))⟩
end Go.Proofs.Ytjokpjfmnjefdaa
