/- ViewRanges walked. -/
import Derived.Test.YtjokpjfmnjefdaaRr
import Derived.Test.YtjokpjfmnjefdaaKw
namespace Go.Proofs.Ytjokpjfmnjefdaa
open Go.RowKit Go.Shelf
attribute [local go_sem] Oper.semAt_some

set_option maxRecDepth 100000 in
set_option maxHeartbeats 2000000 in
theorem vranges_any (A : Option Addr) (c : Nat) (l : List Pr) (f t : ByteArray) (w : World) (hl : LAt w A 3 prL l) (hll : l.length ≤ 3518437208800) :
    Calls Try.prog 8 #[.slice A l.length c, .string f, .string t] w fun e w' => e = .returned (.bool true) ∧ Below w.heap.size w w' := by
  go_enter Try.func8, Try.ntmps8
  go_wp2_with fail
  refine (own_any A c l w hl (by omega)).mono ?_
  rintro e w2 ⟨A1, c1, rfl, hP2, hw⟩
  go_wp2_with fail
  by_cases ht : TabP l ∧ badB f t = false
  · obtain ⟨tl, tb⟩ := ht
    have hD : (keptL f t l).length ≤ 3518437208800 := Nat.le_trans (List.length_filter_le _ _) hll
    refine (range_ok A1 c1 l f t w2 hP2.row hll tl tb).mono ?_
    rintro e w3 ⟨A3, c3, rfl, hP3, hw3⟩
    have hR := rrange_ok A c l f t w3 (hl.below (bl_tr hw hw3)) hll tl tb
    generalize keptL f t l = D at *
    replace hR := Lib.hid hR
    go_wp2_with fail
    refine hR.out.mono ?_
    rintro e w4 ⟨B4, d4, rfl, hB4, hw4⟩
    clear hR
    have hw4b := bl_tr hw3 hw4
    have hP4 := hP3.below hw4
    have hP5 := hP2.row.below hw4b
    have hl5 := hl.below (bl_tr hw hw4b)
    go_wp2_with fail
    refine (same_any A3 B4 c3 d4 D D w4 (hP3.below hw4).row hB4 (by omega) (by omega)).mono ?_
    rintro e w5 ⟨b, rfl, hb, hw5⟩
    obtain rfl : b = true := hb.2 rfl
    clear hb
    go_wp2_with fail
    refine (num_any _ _).mono ?_
    rintro e w6 ⟨rfl, rfl⟩
    go_wp2_with fail
    have hs5 := (bl_tr hw4b hw5).size
    have hP6 := hP4.below hw5
    refine (spoil_any A3 c3 w2.heap.size D w5 hP6 (by omega) (by omega)).mono ?_
    rintro e w7 ⟨rfl, hw7⟩
    have hX := ((bl_tr hw4b hw5).trans hw7)
    have hx7 := hP2.row.below hX
    have hl7 := hl.below (bl_tr hw hX)
    go_wp2_with fail
    refine (same_any A1 A c1 c l l _ hx7 hl7 (by omega) (by omega)).mono ?_
    rintro e w8 ⟨b, rfl, hb, hw8⟩
    obtain rfl : b = true := hb.2 rfl
    clear hb
    go_wp2_with fail
    refine (knows_any _).mono ?_
    rintro e w9 ⟨rfl, hw9⟩
    go_wp2_with fail
    go_ret
    exact ⟨rfl, bl_tr hw (bl_tr hX (bl_tr hw8 hw9))⟩
  · refine (range_bad A1 c1 l f t w2 hP2.row hll ht).mono ?_
    rintro e w3 ⟨rfl, hw3⟩
    go_wp2_with fail
    refine (rrange_bad A c l f t w3 (hl.below (bl_tr hw hw3)) hll ht).mono ?_
    rintro e w4 ⟨rfl, hw4⟩
    have hP3 := PRow.nil w3 w2.heap.size 0
    have hw4b := bl_tr hw3 hw4
    have hP4 := hP3.below hw4
    have hP5 := hP2.row.below hw4b
    have hl5 := hl.below (bl_tr hw hw4b)
    go_wp2_with fail
    refine (same_any none none 0 0 [] [] w4 LAt.nil LAt.nil (by simp) (by simp)).mono ?_
    rintro e w5 ⟨b, rfl, hb, hw5⟩
    obtain rfl : b = true := hb.2 rfl
    clear hb
    go_wp2_with fail
    refine (num_any _ _).mono ?_
    rintro e w6 ⟨rfl, rfl⟩
    go_wp2_with fail
    have hs5 := (bl_tr hw4b hw5).size
    refine (spoil_any none 0 w2.heap.size [] w5 (PRow.nil _ _ _) (by simp) (by omega)).mono ?_
    rintro e w7 ⟨rfl, hw7⟩
    have hX := ((bl_tr hw4b hw5).trans hw7)
    have hx7 := hP2.row.below hX
    have hl7 := hl.below (bl_tr hw hX)
    go_wp2_with fail
    refine (same_any A1 A c1 c l l _ hx7 hl7 (by omega) (by omega)).mono ?_
    rintro e w8 ⟨b, rfl, hb, hw8⟩
    obtain rfl : b = true := hb.2 rfl
    clear hb
    go_wp2_with fail
    refine (knows_any _).mono ?_
    rintro e w9 ⟨rfl, hw9⟩
    go_wp2_with fail
    go_ret
    exact ⟨rfl, bl_tr hw (bl_tr hX (bl_tr hw8 hw9))⟩
end Go.Proofs.Ytjokpjfmnjefdaa
