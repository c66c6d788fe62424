/- ViewThere walked. -/
import Derived.Test.YtjokpjfmnjefdaaPt
import Derived.Test.YtjokpjfmnjefdaaTl
import Derived.Test.YtjokpjfmnjefdaaL3
namespace Go.Proofs.Ytjokpjfmnjefdaa
open Go.RowKit Go.Shelf
attribute [local go_sem] Oper.semAt_some

set_option maxRecDepth 100000 in
set_option maxHeartbeats 2000000 in
theorem vthere_any (A B : Option Addr) (c d : Nat) (l m : List Pr) (w : World) (hl : LAt w A 3 prL l) (hm : LAt w B 3 prL m) (hlen : l.length + m.length ≤ 1000000000000) :
    Calls Try.prog 11 #[.slice A l.length c, .slice B m.length d] w fun e w' => e = .returned (.bool true) ∧ Below w.heap.size w w' := by
  go_enter Try.func11, Try.ntmps11
  go_wp2_with fail
  refine (own_any A c l w hl (by omega)).mono ?_
  rintro e w1 ⟨A1, c1, rfl, hP1, hw1⟩
  go_wp2_with fail
  refine (own_any B d m w1 (hm.below hw1) (by omega)).mono ?_
  rintro e w2 ⟨B1, d1, rfl, hP2, hw2⟩
  have hq1 := hP1.row.below hw2
  have hc1 := hP1.cap
  have hc2 := hP2.cap
  replace hw2 := bl_tr hw1 hw2
  clear hw1
  by_cases ht : TabP l ∧ TabP m
  · obtain ⟨tl, tm⟩ := ht
    have hD := diff_ok A1 B1 c1 d1 l m w2 hq1 hP2.row hc1 hc2 hlen tl tm
    have hDl : (diffL l m).length ≤ l.length + m.length := by
      have := List.length_filterMap_le (dOne l m) (mrg l m 0 0)
      have := mrgF_len l m (l.length - 0 + (m.length - 0)) 0 0
      unfold diffL mrg at *
      omega
    rw [diff_same (tab_ris tl) (tab_ris tm)] at hD hDl
    have hRC := Lib.hid (diff_risC (tab_ris tl) m)
    have hgood := Lib.hid (diff_good l m)
    have hlaw := Lib.hid (there_law (tab_ris tl) (tab_ris tm))
    generalize rDiffL l m = D at hD hDl hRC hgood hlaw
    go_wp2_with fail
    refine hD.mono ?_
    rintro e w3 ⟨A3, c3, rfl, hA3, _, hw3⟩
    go_wp2_with fail
    refine (num_any _ _).mono ?_
    rintro e w4 ⟨rfl, rfl⟩
    go_wp2_with fail
    refine (own_any A c l w3 (hl.below (bl_tr hw2 hw3)) (by omega)).mono ?_
    rintro e w4 ⟨A4, c4, rfl, hP4, hw4⟩
    go_wp2_with fail
    refine (pat_any A4 A3 c4 c3 l D w4 hP4.row (hA3.below hw4) (by omega) tl hRC.out).mono ?_
    intro e w5 h5
    obtain ⟨_, A5, c5, rfl, hP5, hw5⟩ := h5.resolve_left (fun h => by obtain ⟨c, hc, hb⟩ := h.1; rw [hgood.out c hc] at hb; cases hb)
    have hm5 := hm.below (bl_tr hw2 (bl_tr hw3 (bl_tr hw4 hw5)))
    have hw := bl_tr hw2 (bl_tr hw3 (bl_tr hw4 hw5))
    replace hP5 := hP5.row
    generalize outP l D = O at hlaw hP5 ⊢
    have hol := hlaw.out.1
    rw [hol]
    replace hol := Lib.hid hol
    clear hw2 hw3 hw4 hw5 hD hl hm hP4 hP1 hP2 hq1 hA3 hRC hgood
    go_wp2_with fail
    refine (num_any _ _).mono ?_
    rintro e w6 ⟨rfl, rfl⟩
    go_wp2_with fail
    go_loopw [9] (fun u wr => ∃ i : Nat, i ≤ m.length ∧ u = .int .i64 i ∧ Below w5.heap.size w5 wr) (fun u _ => m.length - (intOf u).toNat)
    case atStart => exact ⟨0, Nat.zero_le _, rfl, Below.refl _ _⟩
    case round =>
      obtain ⟨i, hi, rfl, hb⟩ := hrel
      by_cases hlt : i < m.length
      · have hio : i < O.length := by rw [hol.out]; exact hlt
        obtain ⟨b, o, rfl, _, ca⟩ := (hP5.below hb) i hio
        obtain ⟨b', o', rfl, _, cb⟩ := (hm5.below hb) i hlt
        obtain ⟨e1, e2⟩ := hlaw.out.2 i hio hlt
        generalize O[i] = x at ca e1 e2
        generalize m[i] = y at cb e1 e2
        have a0 : wr.cell? ⟨b, o + i * 3, none⟩ = some (.string y.key) := by rw [← e1]; exact ca 0 _ rfl
        have a1 : wr.cell? ⟨b, o + i * 3 + 1, none⟩ = some (.string y.val) := by rw [← e2]; exact ca 1 _ rfl
        have b0 : wr.cell? ⟨b', o' + i * 3, none⟩ = some (.string y.key) := cb 0 _ rfl
        have b1 : wr.cell? ⟨b', o' + i * 3 + 1, none⟩ = some (.string y.val) := cb 1 _ rfl
        have hltI : (i : Int) < (m.length : Int) := by omega
        clear ca cb e1 e2 hP5 hm5
        go_wp2_with fail
        go_quiet (fail)
        go_wp2_with fail
        go_roundw
        case rel => exact ⟨i + 1, by omega, by go_num, bl_drewN hb _⟩
        case measure => simp [intOf]; omega
      · obtain rfl : i = m.length := by omega
        go_wp2_with fail
        refine (knows_any _).mono ?_
        rintro e w7 ⟨rfl, hw7⟩
        go_wp2_with fail
        go_ret
        exact ⟨rfl, bl_tr hw (bl_tr hb hw7)⟩
  · go_wp2_with fail
    refine (diff_bad A1 B1 c1 d1 l m w2 hq1 hP2.row (by omega) (by omega) ht).mono ?_
    rintro e w3 ⟨rfl, hw3⟩
    go_wp2_with fail
    refine (num_any _ _).mono ?_
    rintro e w4 ⟨rfl, rfl⟩
    go_wp2_with fail
    refine (knows_any _).mono ?_
    rintro e w5 ⟨rfl, hw5⟩
    go_wp2_with fail
    go_ret
    exact ⟨rfl, bl_tr hw2 (bl_tr hw3 hw5)⟩
end Go.Proofs.Ytjokpjfmnjefdaa
