/- ViewPatches walked. -/
import Derived.Test.YtjokpjfmnjefdaaPu
import Derived.Test.YtjokpjfmnjefdaaAd
import Derived.Test.YtjokpjfmnjefdaaSp
namespace Go.Proofs.Ytjokpjfmnjefdaa
open Go.RowKit Go.Shelf
attribute [local go_sem] Oper.semAt_some

set_option maxRecDepth 100000 in
set_option maxHeartbeats 2000000 in
theorem vpatches_any (A B : Option Addr) (c d : Nat) (l : List Pr) (cs : List Ch) (w : World) (hl : LAt w A 3 prL l) (hr : LAt w B 5 chL cs) (hll : l.length + cs.length ≤ 1000000000000) :
    Calls Try.prog 10 #[.slice A l.length c, .slice B cs.length d] w fun e w' => e = .returned (.bool true) ∧ Below w.heap.size w w' := by
  go_enter Try.func10, Try.ntmps10
  go_wp2_with fail
  refine (own_any A c l w hl (by omega)).mono ?_
  rintro e w1 ⟨A1, c1, rfl, hP1, hw1⟩
  go_wp2_with fail
  refine (changes_any B d cs w1 (hr.below hw1) (by omega)).mono ?_
  rintro e w2 ⟨B1, d1, rfl, hB1, hw2⟩
  have hP2 := hP1.below hw2
  have hw := bl_tr hw1 hw2
  clear hw1 hw2 hP1
  go_wp2_with fail
  by_cases ht : TabP l ∧ RisC cs
  · obtain ⟨tl, tm⟩ := ht
    refine (pat_any A1 B1 c1 d1 l cs w2 hP2.row hB1 (by omega) tl tm).mono ?_
    rintro e w3 (⟨hL, rfl, hw3⟩ | ⟨hL, A3, c3, rfl, hP3, hw3⟩)
    · skip
      go_wp2_with fail
      refine (rpat_any A B c d l cs w3 (hl.below (bl_tr hw hw3)) (hr.below (bl_tr hw hw3)) (by omega) tl tm).mono ?_
      intro e w4 h4
      obtain ⟨_, rfl, hw4⟩ := h4.resolve_right (fun h => by obtain ⟨c, hc, hb⟩ := hL; rw [h.1 c hc] at hb; cases hb)
      have hP3 := PRow.nil w3 w2.heap.size 0
      have hw4b := bl_tr hw3 hw4
      have hP4 := hP3.below hw4
      have hP5 := hP2.row.below hw4b
      have hl5 := hl.below (bl_tr hw hw4b)
      go_wp2_with fail
      refine (same_any none none 0 0 [] [] w4 LAt.nil LAt.nil (by simp) (by simp)).mono ?_
      rintro e w5 ⟨b, rfl, hb, hw5⟩
      obtain rfl : b = true := hb.2 rfl
      clear hb
      go_wp2_with fail
      refine (num_any _ _).mono ?_
      rintro e w6 ⟨rfl, rfl⟩
      go_wp2_with fail
      have hs5 := (bl_tr hw4b hw5).size
      refine (spoil_any none 0 w2.heap.size [] w5 (PRow.nil _ _ _) (by simp) (by omega)).mono ?_
      rintro e w7 ⟨rfl, hw7⟩
      have hX := ((bl_tr hw4b hw5).trans hw7)
      have hx7 := hP2.row.below hX
      have hl7 := hl.below (bl_tr hw hX)
      go_wp2_with fail
      refine (same_any A1 A c1 c l l _ hx7 hl7 (by omega) (by omega)).mono ?_
      rintro e w8 ⟨b, rfl, hb, hw8⟩
      obtain rfl : b = true := hb.2 rfl
      clear hb
      go_wp2_with fail
      refine (knows_any _).mono ?_
      rintro e w9 ⟨rfl, hw9⟩
      go_wp2_with fail
      go_ret
      exact ⟨rfl, bl_tr hw (bl_tr hX (bl_tr hw8 hw9))⟩
    · have hD : (outP l cs).length ≤ 4611686018427387904 := by have := len_outP l cs cs.length (Nat.le_refl _); rw [List.take_length] at this; omega
      have hR := rpat_any A B c d l cs w3 (hl.below (bl_tr hw hw3)) (hr.below (bl_tr hw hw3)) (by omega) tl tm
      unfold RPatPost at hR
      generalize outP l cs = D at *
      replace hR := Lib.hid hR
      go_wp2_with fail
      refine hR.out.mono ?_
      rintro e w4 (⟨hn, _⟩ | ⟨_, B4, d4, rfl, hB4, hw4⟩)
      · obtain ⟨c, hc, hb⟩ := hn; rw [hL c hc] at hb; cases hb
      clear hR
      have hw4b := bl_tr hw3 hw4
      have hP4 := hP3.below hw4
      have hP5 := hP2.row.below hw4b
      have hl5 := hl.below (bl_tr hw hw4b)
      go_wp2_with fail
      refine (same_any A3 B4 c3 d4 D D w4 (hP3.below hw4).row hB4 hD hD).mono ?_
      rintro e w5 ⟨b, rfl, hb, hw5⟩
      obtain rfl : b = true := hb.2 rfl
      clear hb
      go_wp2_with fail
      refine (num_any _ _).mono ?_
      rintro e w6 ⟨rfl, rfl⟩
      go_wp2_with fail
      have hs5 := (bl_tr hw4b hw5).size
      have hP6 := hP4.below hw5
      refine (spoil_any A3 c3 w2.heap.size D w5 hP6 hD (by omega)).mono ?_
      rintro e w7 ⟨rfl, hw7⟩
      have hX := ((bl_tr hw4b hw5).trans hw7)
      have hx7 := hP2.row.below hX
      have hl7 := hl.below (bl_tr hw hX)
      go_wp2_with fail
      refine (same_any A1 A c1 c l l _ hx7 hl7 (by omega) (by omega)).mono ?_
      rintro e w8 ⟨b, rfl, hb, hw8⟩
      obtain rfl : b = true := hb.2 rfl
      clear hb
      go_wp2_with fail
      refine (knows_any _).mono ?_
      rintro e w9 ⟨rfl, hw9⟩
      go_wp2_with fail
      go_ret
      exact ⟨rfl, bl_tr hw (bl_tr hX (bl_tr hw8 hw9))⟩
  · refine (pat_arg A1 B1 c1 d1 l cs w2 hP2.row hB1 (by omega) (by omega) ht).mono ?_
    rintro e w3 ⟨rfl, hw3⟩
    go_wp2_with fail
    refine (rpat_arg A B c d l cs w3 (hl.below (bl_tr hw hw3)) (hr.below (bl_tr hw hw3)) (by omega) (by omega) ht).mono ?_
    rintro e w4 ⟨rfl, hw4⟩
    have hP3 := PRow.nil w3 w2.heap.size 0
    have hw4b := bl_tr hw3 hw4
    have hP4 := hP3.below hw4
    have hP5 := hP2.row.below hw4b
    have hl5 := hl.below (bl_tr hw hw4b)
    go_wp2_with fail
    refine (same_any none none 0 0 [] [] w4 LAt.nil LAt.nil (by simp) (by simp)).mono ?_
    rintro e w5 ⟨b, rfl, hb, hw5⟩
    obtain rfl : b = true := hb.2 rfl
    clear hb
    go_wp2_with fail
    refine (num_any _ _).mono ?_
    rintro e w6 ⟨rfl, rfl⟩
    go_wp2_with fail
    have hs5 := (bl_tr hw4b hw5).size
    refine (spoil_any none 0 w2.heap.size [] w5 (PRow.nil _ _ _) (by simp) (by omega)).mono ?_
    rintro e w7 ⟨rfl, hw7⟩
    have hX := ((bl_tr hw4b hw5).trans hw7)
    have hx7 := hP2.row.below hX
    have hl7 := hl.below (bl_tr hw hX)
    go_wp2_with fail
    refine (same_any A1 A c1 c l l _ hx7 hl7 (by omega) (by omega)).mono ?_
    rintro e w8 ⟨b, rfl, hb, hw8⟩
    obtain rfl : b = true := hb.2 rfl
    clear hb
    go_wp2_with fail
    refine (knows_any _).mono ?_
    rintro e w9 ⟨rfl, hw9⟩
    go_wp2_with fail
    go_ret
    exact ⟨rfl, bl_tr hw (bl_tr hX (bl_tr hw8 hw9))⟩
end Go.Proofs.Ytjokpjfmnjefdaa
