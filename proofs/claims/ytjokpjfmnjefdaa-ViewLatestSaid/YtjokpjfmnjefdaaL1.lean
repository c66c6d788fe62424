/- ViewLatest walked. -/
import Derived.Test.YtjokpjfmnjefdaaRl
namespace Go.Proofs.Ytjokpjfmnjefdaa
open Go.RowKit Go.Shelf
attribute [local go_sem] Oper.semAt_some

set_option maxHeartbeats 400000 in
theorem vlatest_any (A : Option Addr) (c : Nat) (rs : List Rw) (w : World) (hr : LAt w A 6 rwL rs) (hrl : rs.length ≤ 2199023255500) (hkr : ∀ r ∈ rs, r.key.size ≤ maxLen) :
    Calls Try.prog 3 #[.slice A rs.length c] w fun e w' => e = .returned (.bool true) ∧ Below w.heap.size w w' := by
  replace hkr := Lib.hid hkr
  go_enter Try.func3, Try.ntmps3
  go_wp2_with fail
  refine (rows_any A c rs w hr hrl).mono ?_
  rintro e w1 ⟨A1, c1, rfl, hc1, h1, hw1⟩
  go_wp2_with fail
  by_cases hm : MayR rs
  · refine (latest_yes A1 c1 rs w1 h1 hrl hkr.out hm).mono ?_
    rintro e w2 ⟨A2, c2, rfl, h2, hw2⟩
    go_wp2_with fail
    refine (rlatest_yes A c rs w2 (hr.below (bl_tr hw1 hw2)) hrl hm).mono ?_
    rintro e w3 ⟨A3, c3, rfl, h3, hw3⟩
    have hol := len_onL [] rs
    simp only [List.length_nil, Nat.zero_add] at hol
    go_wp2_with fail
    refine (same_any A2 A3 c2 c3 (onL [] rs) (onL [] rs) w3 (h2.row.below hw3) h3 (by omega) (by omega)).mono ?_
    rintro e w4 ⟨b, rfl, hb, hw4⟩
    obtain rfl : b = true := hb.2 rfl
    clear hb
    go_wp2_with fail
    refine (knows_any _).mono ?_
    rintro e w5 ⟨rfl, hw5⟩
    go_wp2_with fail
    go_ret
    exact ⟨rfl, bl_tr hw1 (bl_tr hw2 (bl_tr hw3 (bl_tr hw4 hw5)))⟩
  · refine (latest_no A1 c1 rs w1 h1 hrl hm).mono ?_
    rintro e w2 ⟨rfl, hw2⟩
    go_wp2_with fail
    refine (rlatest_no A c rs w2 (hr.below (bl_tr hw1 hw2)) hrl hm).mono ?_
    rintro e w3 ⟨rfl, hw3⟩
    go_wp2_with fail
    refine (same_any none none 0 0 [] [] w3 LAt.nil LAt.nil (by simp) (by simp)).mono ?_
    rintro e w4 ⟨b, rfl, hb, hw4⟩
    obtain rfl : b = true := hb.2 rfl
    clear hb
    go_wp2_with fail
    refine (knows_any _).mono ?_
    rintro e w5 ⟨rfl, hw5⟩
    go_wp2_with fail
    go_ret
    exact ⟨rfl, bl_tr hw1 (bl_tr hw2 (bl_tr hw3 (bl_tr hw4 hw5)))⟩
end Go.Proofs.Ytjokpjfmnjefdaa
