/- The walk of DiskFuses. -/
import Derived.Test.YteaenhmiomoocaaOps
namespace Go.Proofs.Yteaenhmiomoocaa
open Go.RowKit Go.Shelf Go.Maps

/-- What the rounds keep. -/
def FuRel (w : World) (h K i : Nat) (wr : World) : Prop :=
  ∃ us d N, DkAt wr h i us d ∧ d.Ok N ∧ N ≤ min i K ∧ d.ts.length = 4 ∧ FuS K d i ∧ Below w.heap.size w wr

set_option maxRecDepth 100000 in
set_option maxHeartbeats 4000000 in
theorem fuses_any (n : Int) (A : Option Addr) (c : Nat) (l : List OpD) (w : World) (hl : OpsAt w A l) (hll : l.length ≤ 1759218604416) (hn : okI n) :
    Calls Try.prog 5 #[.int .i64 n, .slice A l.length c] w fun e w' => e = .returned (.bool true) ∧ Below w.heap.size w w' := by
  obtain ⟨K, hK, hKe0⟩ := mod_nat n 20 hn (by omega) (by omega)
  rw [wrapEq] at hKe0
  have hKe : (wrap64 (n.tmod 20 + 20)).tmod 20 = (K : Int) := hKe0
  clear hKe0
  unfold okI at hn
  go_enter Try.func5, Try.ntmps5
  go_wp2_with fail
  refine (new_ok 4 w (by omega) (by omega)).mono ?_
  rintro e w1 ⟨rfl, D1, b1⟩
  have hl1 := D1.lt
  go_wp2_with (first | (go_at_call 10; refine (num_any _ _).mono ?_; rintro e w' ⟨rfl, rfl⟩))
  refine (knows_any _).mono ?_
  rintro e w2 ⟨rfl, b2⟩
  have D2 := D1.below b2
  have b2' := bl_tr b1 b2
  clear D1 b1 b2
  go_wp2_with fail
  try simp only [hKe]
  refine (cut_any w.heap.size 0 [] (newD 4) K w2 D2 (by simp [newD]) (by omega)).mono ?_
  rintro e w3 ⟨rfl, D3, F3⟩
  have b3 := b2'.trans (F3.below (n0 := w.heap.size) (Nat.le_refl _) (fun i v g h => by simp [lookI] at h) (by have := b2'.size; omega))
  have hc3 : cutD (newD 4) K = { newD 4 with fuse := (K : Int) } := by simp [cutD, newD]; omega
  rw [hc3] at D3
  have O3 : Dsk.Ok { newD 4 with fuse := (K : Int) } 0 := ⟨(newD_ok 4 (by omega)).len, (newD_ok 4 (by omega)).tx, (newD_ok 4 (by omega)).vs, by dsimp only; omega⟩
  have R0 : FuRel w w.heap.size K 0 w3 := ⟨[], _, 0, D3, O3, by omega, by simp [newD], .inl ⟨by omega, rfl, by simp⟩, b3⟩
  clear D2 b2' D3 F3 b3 hc3 O3
  go_wp2_with fail
  go_loopw [7, 8] (fun v u wr => ∃ i : Nat, i ≤ l.length ∧ u = .int .i64 i ∧ v = .int .i64 (min i K : Nat) ∧ FuRel w w.heap.size K i wr) (fun _ u _ => l.length - (intOf u).toNat)
  case atStart => exact ⟨0, by omega, rfl, by simp, R0⟩
  case round =>
    obtain ⟨i, hi, rfl, rfl, us, d, N, D4, O4, hN4, ht4, S4, b4⟩ := hrel
    clear R0
    by_cases hlt : i < l.length
    · obtain ⟨b, o, rfl, hbl, c0, c1, c4, hok⟩ := (hl.below b4) i hlt
      obtain ⟨M, hM, hMe0⟩ := mod_nat l[i].i 4 hok (by omega) (by omega)
      have hMe : (IntKind.i64.wrap (l[i].i.tmod 4 + 4)).tmod 4 = (M : Int) := hMe0
      have hpw := S4.powr
      have hsy := syncD_res d
      rw [hpw.1] at hsy
      generalize l[i] = x at c0 c1 c4 hok hMe
      clear hMe0
      unfold okI at hok
      have hbw : b < w.heap.size := (hl i hlt).elim fun b' h => h.elim fun o' h => by have e := h.1; cases e; exact h.2.1
      have hltI : (i : Int) < (l.length : Int) := by omega
      have hbw2 : b < w.heap.size := hbw
      have hwo := fun t (ht : t.length = 256) => writeD_okN (t := t) O4 (i := (M : Int)) (by omega) ht
      have hwr := fun t (ht : t.length = 256) => writeD_res (d := d) (t := t) (i := (M : Int)) (by omega) ht
      rw [hpw.1] at hwo hwr
      have hMi : -9223372036854775808 ≤ (M : Int) ∧ (M : Int) ≤ 9223372036854775807 := by omega
      have hN5 : N < 549755813888 := by omega
      have him : i < maxLen := by simp only [maxLen]; omega
      have e4 : ∀ us5 w5, FrD wr w5 w.heap.size us us5 → Below w.heap.size w w5 := fun us5 w5 F5 => b4.trans (F5.below (n0 := w.heap.size) (Nat.le_refl _) (fun i v g h1 h2 => by have := (D4.base h1 h2).1; omega) b4.size)
      by_cases hiK : i < K
      · have hd1 : decide (i < K) = true := by simpa using hiK
        have hmin : min i K = i := by omega
        have hmin2 : min (i + 1) K = i + 1 := by omega
        rw [hd1] at hsy hwo hwr
        rw [hmin] at hN4 ⊢
        have hiKI : (i : Int) < (K : Int) := by omega
        have S5 := hpw.2
        clear hpw hmin hd1 S4
        simp only [if_true] at hsy hwo hwr
        by_cases hk : x.k = 1
        · have hk1 : (x.k == 1) = true := by simpa using hk
          rw [hk] at c0
          go_wp2_with (first | (go_at_call 12; refine (sync_any w.heap.size i us d N wr D4 O4 hN5).mono ?_; rintro e w5 ⟨rfl, us5, D5, F5⟩; rw [hsy.1]) | (go_at_call 10; refine (num_any _ _).mono ?_; rintro e w' ⟨rfl, rfl⟩))
          go_roundw
          case rel => exact ⟨i + 1, by omega, by go_num, by rw [hmin2]; go_num, us5, _, N, D5.mono (by omega), syncD_ok O4, by omega, by rw [hsy.2.2.2]; exact ht4, S5.of hsy.2.1 hsy.2.2.1, e4 _ _ F5⟩
          case measure => simp [intOf]; omega
        · have hk1 : (x.k == 1) = false := by simpa using hk
          clear hk
          go_wp2_with fail
          go_region_held3 (fun w' => ∀ o, w'.cell? ⟨b, o, none⟩ = wr.cell? ⟨b, o, none⟩)
            (first | assumption | exact fun _ => rfl)
            ((first | (go_at_call 14; refine (full_any x.f _).mono ?_; rintro e wA ⟨rfl, BA, bA⟩; have sA : ∀ o, wA.cell? ⟨b, o, none⟩ = wr.cell? ⟨b, o, none⟩ := fun o => bA.cell (p := ⟨b, o, none⟩) hbl) | (go_at_call 13; refine (write_fresh D4 O4 hN5 him ((bl_drew (Below.refl _ _)).trans bA) (Nat.le_refl _) BA (fullT_length _) (M : Int) hMi 256).mono ?_; rintro e wB ⟨rfl, usB, DB, FB⟩; have sB : ∀ o, wB.cell? ⟨b, o, none⟩ = wr.cell? ⟨b, o, none⟩ := fun o => (World.cell?_of_block (a := ⟨b, o, none⟩) (FB.block b (Nat.lt_of_lt_of_le hbl bA.size) (.inl hbw2) (fun i v h1 h2 => by have := (D4.base h1 h2).1; omega))).trans (sA o); rw [(hwr _ (fullT_length x.f)).1])))
          go_wp2_with (first | (go_at_call 10; refine (num_any _ _).mono ?_; rintro e w' ⟨rfl, rfl⟩))
          go_roundw
          case rel => exact ⟨i + 1, by omega, by go_num, by rw [hmin2]; go_num, usB, _, N + 1, DB, hwo _ (fullT_length x.f), by omega, by rw [(hwr _ (fullT_length x.f)).2.2.2]; exact ht4, S5.of (hwr _ (fullT_length x.f)).2.1 (hwr _ (fullT_length x.f)).2.2.1, (bl_tr b4 ((bl_drew (Below.refl _ _)).trans bA)).trans (FB.below (n0 := w.heap.size) (Nat.le_refl _) (fun i v g h1 h2 => by have := (D4.base h1 h2).1; omega) (by have := b4.size; have := bA.size; have e : wr.drew.heap.size = wr.heap.size := rfl; omega))⟩
          case measure => simp [intOf]; omega
      · have hd1 : decide (i < K) = false := by simpa using hiK
        have hmin : min i K = K := by omega
        have hmin2 : min (i + 1) K = K := by omega
        rw [hd1] at hsy hwo hwr
        rw [hmin] at hN4 ⊢
        clear hiK
        have S5 := hpw.2
        clear hpw hmin hd1 S4
        simp only [Bool.false_eq_true, if_false] at hsy hwo hwr
        by_cases hk : x.k = 1
        · have hk1 : (x.k == 1) = true := by simpa using hk
          rw [hk] at c0
          go_wp2_with (first | (go_at_call 12; refine (sync_any w.heap.size i us d N wr D4 O4 hN5).mono ?_; rintro e w5 ⟨rfl, us5, D5, F5⟩; rw [hsy.1]) | (go_at_call 10; refine (num_any _ _).mono ?_; rintro e w' ⟨rfl, rfl⟩))
          go_roundw
          case rel => exact ⟨i + 1, by omega, by go_num, by rw [hmin2], us5, _, N, D5.mono (by omega), syncD_ok O4, by omega, by rw [hsy.2.2.2]; exact ht4, S5.of hsy.2.1 hsy.2.2.1, e4 _ _ F5⟩
          case measure => simp [intOf]; omega
        · have hk1 : (x.k == 1) = false := by simpa using hk
          clear hk
          go_wp2_with fail
          go_region_held3 (fun w' => ∀ o, w'.cell? ⟨b, o, none⟩ = wr.cell? ⟨b, o, none⟩)
            (first | assumption | exact fun _ => rfl)
            ((first | (go_at_call 14; refine (full_any x.f _).mono ?_; rintro e wA ⟨rfl, BA, bA⟩; have sA : ∀ o, wA.cell? ⟨b, o, none⟩ = wr.cell? ⟨b, o, none⟩ := fun o => bA.cell (p := ⟨b, o, none⟩) hbl) | (go_at_call 13; refine (write_fresh D4 O4 hN5 him ((bl_drew (Below.refl _ _)).trans bA) (Nat.le_refl _) BA (fullT_length _) (M : Int) hMi 256).mono ?_; rintro e wB ⟨rfl, usB, DB, FB⟩; have sB : ∀ o, wB.cell? ⟨b, o, none⟩ = wr.cell? ⟨b, o, none⟩ := fun o => (World.cell?_of_block (a := ⟨b, o, none⟩) (FB.block b (Nat.lt_of_lt_of_le hbl bA.size) (.inl hbw2) (fun i v h1 h2 => by have := (D4.base h1 h2).1; omega))).trans (sA o); rw [(hwr _ (fullT_length x.f)).1])))
          go_wp2_with (first | (go_at_call 10; refine (num_any _ _).mono ?_; rintro e w' ⟨rfl, rfl⟩))
          go_roundw
          case rel => exact ⟨i + 1, by omega, by go_num, by rw [hmin2], usB, _, N, DB, hwo _ (fullT_length x.f), by omega, by rw [(hwr _ (fullT_length x.f)).2.2.2]; exact ht4, S5.of (hwr _ (fullT_length x.f)).2.1 (hwr _ (fullT_length x.f)).2.2.1, (bl_tr b4 ((bl_drew (Below.refl _ _)).trans bA)).trans (FB.below (n0 := w.heap.size) (Nat.le_refl _) (fun i v g h1 h2 => by have := (D4.base h1 h2).1; omega) (by have := b4.size; have := bA.size; have e : wr.drew.heap.size = wr.heap.size := rfl; omega))⟩
          case measure => simp [intOf]; omega
    · obtain rfl : i = l.length := by omega
      have q4 := D4.box.cell
      have hoff : d.off = decide (K < l.length) := by
        rcases S4 with ⟨h1, h2, _⟩ | ⟨h1, h2, _⟩
        · rw [h2]; simp; omega
        · rw [h2]; simp; omega
      have hcast : decide ((K : Int) < (l.length : Int)) = decide (K < l.length) := by simp
      have hcs := crash_any w.heap.size l.length us d [] none 0 N wr D4 O4 (by omega) (by omega) (fun i hi => by simp at hi) (by simp)
      obtain ⟨O6, ht6⟩ := crashD_ok O4 D4.sorted []
      go_wp2_with (first | (go_at_call 18; refine (down_any w.heap.size _ us d wr D4 (by omega)).mono ?_; rintro e w' ⟨rfl, rfl⟩; rw [hoff]) | (go_at_call 15; refine hcs.mono ?_; rintro e w6 ⟨rfl, D6, F6⟩) | (go_at_call 18; refine (down_any w.heap.size _ [] _ w6 D6 (by omega)).mono ?_; rintro e w' ⟨rfl, rfl⟩; rw [(crashD_live d []).1]) | (go_at_call 12; refine (sync_any w.heap.size _ [] _ N w6 D6 O6 (by omega)).mono ?_; rintro e w7 ⟨rfl, us7, D7, F7⟩; rw [syncD_live (crashD_live d []).1 (crashD_live d []).2.1]) | (go_at_call 10; refine (num_any _ _).mono ?_; rintro e w' ⟨rfl, rfl⟩))
      go_ret
      have b6 : Below w.heap.size w w6 := b4.trans (F6.below (n0 := w.heap.size) (Nat.le_refl _) (fun i v g h1 h2 => by have := (D4.base h1 h2).1; omega) b4.size)
      exact ⟨rfl, b6.trans (F7.below (n0 := w.heap.size) (Nat.le_refl _) (fun i v g h => by simp [lookI] at h) b6.size)⟩
end Go.Proofs.Yteaenhmiomoocaa
