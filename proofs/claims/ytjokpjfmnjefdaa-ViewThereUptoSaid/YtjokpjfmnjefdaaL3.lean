/- ViewDiffs walked. -/
import Derived.Test.YtjokpjfmnjefdaaDp
import Derived.Test.YtjokpjfmnjefdaaKw
namespace Go.Proofs.Ytjokpjfmnjefdaa
open Go.RowKit Go.Shelf
attribute [local go_sem] Oper.semAt_some

theorem tab_ris {l : List Pr} (h : TabP l) : Ris l := (risP_iff l).1 h.1

set_option maxRecDepth 100000 in
set_option maxHeartbeats 2000000 in
theorem vdiffs_any (A B : Option Addr) (c d : Nat) (l m : List Pr) (w : World) (hl : LAt w A 3 prL l) (hm : LAt w B 3 prL m) (hlen : l.length + m.length ≤ 1000000000000) :
    Calls Try.prog 4 #[.slice A l.length c, .slice B m.length d] w fun e w' => e = .returned (.bool true) ∧ Below w.heap.size w w' := by
  go_enter Try.func4, Try.ntmps4
  go_wp2_with fail
  refine (own_any A c l w hl (by omega)).mono ?_
  rintro e w1 ⟨A1, c1, rfl, hP1, hw1⟩
  go_wp2_with fail
  refine (own_any B d m w1 (hm.below hw1) (by omega)).mono ?_
  rintro e w2 ⟨B1, d1, rfl, hP2, hw2⟩
  have hq1 := hP1.row.below hw2
  have hc1 := hP1.cap
  have hc2 := hP2.cap
  replace hw2 := bl_tr hw1 hw2
  clear hw1
  by_cases ht : TabP l ∧ TabP m
  · obtain ⟨tl, tm⟩ := ht
    have hsame := Lib.hid (diff_same (tab_ris tl) (tab_ris tm))
    have hD := diff_ok A1 B1 c1 d1 l m w2 hq1 hP2.row hc1 hc2 hlen tl tm
    have hDl : (diffL l m).length ≤ 4611686018427387904 := by
      have := List.length_filterMap_le (dOne l m) (mrg l m 0 0)
      have := mrgF_len l m (l.length - 0 + (m.length - 0)) 0 0
      unfold diffL mrg at *
      omega
    have hR := fun w3 hw3 => rdiff_ok A B c d l m w3 (hl.below (bl_tr hw2 hw3)) (hm.below (bl_tr hw2 hw3)) hlen tl tm
    rw [← hsame.out] at hR
    replace hR := Lib.hid hR
    generalize diffL l m = D at hD hR hDl
    clear hsame
    go_wp2_with fail
    refine hD.mono ?_
    rintro e w3 ⟨A3, c3, rfl, hA3, _, hw3⟩
    replace hR := Lib.hid (hR.out w3 hw3)
    go_wp2_with fail
    refine hR.out.mono ?_
    rintro e w4 ⟨B3, d3, rfl, hB3, hw4⟩
    replace hA3 := hA3.below hw4
    have hw := bl_tr hw2 (bl_tr hw3 hw4)
    clear hw2 hw3 hw4 hD hR hl hm
    go_wp2_with fail
    refine (num_any _ _).mono ?_
    rintro e w5 ⟨rfl, rfl⟩
    go_wp2_with fail
    go_loopw [9] (fun u wr => ∃ i : Nat, i ≤ D.length ∧ u = .int .i64 i ∧ Below w4.heap.size w4 wr) (fun u _ => D.length - (intOf u).toNat)
    case atStart => exact ⟨0, Nat.zero_le _, rfl, Below.refl _ _⟩
    case round =>
      obtain ⟨i, hi, rfl, hb⟩ := hrel
      by_cases hlt : i < D.length
      · obtain ⟨b, o, rfl, _, ca⟩ := (hA3.below hb) i hlt
        obtain ⟨b', o', rfl, _, cb⟩ := (hB3.below hb) i hlt
        generalize D[i] = x at ca cb
        have a0 : wr.cell? ⟨b, o + i * 5, none⟩ = some (.string x.key) := ca 0 _ rfl
        have a1 : wr.cell? ⟨b, o + i * 5 + 1, none⟩ = some (.string x.old) := ca 1 _ rfl
        have a2 : wr.cell? ⟨b, o + i * 5 + 2, none⟩ = some (.string x.new) := ca 2 _ rfl
        have a3 : wr.cell? ⟨b, o + i * 5 + 3, none⟩ = some (.bool x.was) := ca 3 _ rfl
        have a4 : wr.cell? ⟨b, o + i * 5 + 4, none⟩ = some (.bool x.is) := ca 4 _ rfl
        have b0 : wr.cell? ⟨b', o' + i * 5, none⟩ = some (.string x.key) := cb 0 _ rfl
        have b1 : wr.cell? ⟨b', o' + i * 5 + 1, none⟩ = some (.string x.old) := cb 1 _ rfl
        have b2 : wr.cell? ⟨b', o' + i * 5 + 2, none⟩ = some (.string x.new) := cb 2 _ rfl
        have b3 : wr.cell? ⟨b', o' + i * 5 + 3, none⟩ = some (.bool x.was) := cb 3 _ rfl
        have b4 : wr.cell? ⟨b', o' + i * 5 + 4, none⟩ = some (.bool x.is) := cb 4 _ rfl
        have hltI : (i : Int) < (D.length : Int) := by omega
        clear ca cb hA3 hB3 hP1 hP2 hq1
        go_wp2_with fail
        go_quiet (fail)
        go_wp2_with fail
        go_roundw
        case rel => exact ⟨i + 1, by omega, by go_num, bl_drewN hb _⟩
        case measure => simp [intOf]; omega
      · obtain rfl : i = D.length := by omega
        go_wp2_with fail
        refine (knows_any _).mono ?_
        rintro e w5 ⟨rfl, hw5⟩
        go_wp2_with fail
        go_ret
        exact ⟨rfl, bl_tr hw (bl_tr hb hw5)⟩
  · go_wp2_with fail
    refine (diff_bad A1 B1 c1 d1 l m w2 hq1 hP2.row (by omega) (by omega) ht).mono ?_
    rintro e w3 ⟨rfl, hw3⟩
    go_wp2_with fail
    refine (rdiff_bad A B c d l m w3 (hl.below (bl_tr hw2 hw3)) (hm.below (bl_tr hw2 hw3)) (by omega) (by omega) ht).mono ?_
    rintro e w4 ⟨rfl, hw4⟩
    have hw := bl_tr hw2 (bl_tr hw3 hw4)
    clear hw2 hw3 hw4 hl hm ht
    go_wp2_with fail
    refine (num_any _ _).mono ?_
    rintro e w5 ⟨rfl, rfl⟩
    go_wp2_with fail
    go_loopw [9] (fun u wr => u = .int .i64 0 ∧ wr = w4) (fun u _ => 0)
    case atStart => exact ⟨rfl, rfl⟩
    case round =>
      obtain ⟨rfl, rfl⟩ := hrel
      go_wp2_with fail
      refine (knows_any _).mono ?_
      rintro e w5 ⟨rfl, hw5⟩
      go_wp2_with fail
      go_ret
      exact ⟨rfl, bl_tr hw hw5⟩
end Go.Proofs.Ytjokpjfmnjefdaa
