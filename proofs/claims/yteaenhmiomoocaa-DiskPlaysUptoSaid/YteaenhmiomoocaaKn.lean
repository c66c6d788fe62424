/- The laws' sure answers: knows. -/
import Derived.Test.YteaenhmiomoocaaPl
namespace Go.Proofs.Yteaenhmiomoocaa
open Go.RowKit Go.Shelf Go.Maps

/-- Write, out of a block that is younger than the disk. -/
theorem write_fresh {w0 w : World} {h nb N g : Nat} {us : List (Int × Value)} {d : Dsk} {t : Tx} (D0 : DkAt w0 h nb us d) (hO : d.Ok N) (hN : N < 549755813888) (hnb : nb < maxLen) (hb : Below w0.heap.size w0 w) (hg : w0.heap.size ≤ g) (B : Blk w g (tC t)) (ht : t.length = 256)
    (i : Int) (hi : -9223372036854775808 ≤ i ∧ i ≤ 9223372036854775807) (c : Nat) :
    Calls Try.prog 13 #[.pointer (some ⟨h + 3, 0, none⟩), .int .i64 i, .slice (some ⟨g, 0, none⟩) 256 c] w fun e w' => e = .returned (.int .i64 (writeD d i t).1) ∧ ∃ us', DkAt w' h (nb + 1) us' (writeD d i t).2 ∧ FrD w w' h us us' := by
  have := write_any h nb us d i t (some ⟨g, 0, none⟩) c N w (D0.below hb) hO hN hnb (fun _ => ⟨g, 0, rfl, B.lt, B.range, .inr (by have := D0.lt; omega), fun j v hv e => by have := (D0.base hv e).2; omega⟩) hi
  rwa [ht] at this
theorem write_live {w0 w : World} {h nb N g : Nat} {us : List (Int × Value)} {d : Dsk} {t : Tx} (D0 : DkAt w0 h nb us d) (hO : d.Ok N) (hN : N < 549755813888) (hnb : nb < maxLen) (h1 : d.off = false) (h2 : d.fuse = -1) (hb : Below w0.heap.size w0 w) (hg : w0.heap.size ≤ g) (B : Blk w g (tC t)) (ht : t.length = 256)
    (i : Int) (hi : 0 ≤ i ∧ i < d.ts.length) (c : Nat) :
    Calls Try.prog 13 #[.pointer (some ⟨h + 3, 0, none⟩), .int .i64 i, .slice (some ⟨g, 0, none⟩) 256 c] w fun e w' => e = .returned (.int .i64 0) ∧ ∃ us', DkAt w' h (nb + 1) us' (writeS d i t) ∧ FrD w w' h us us' := by
  have := write_fresh D0 hO hN hnb hb hg B ht i (by have := hO.len.2; omega) c
  rwa [writeD_live h1 h2 hi ht] at this
theorem BufAt.full {base : Nat} {w : World} {v : Value} {t : Tx} (h : BufAt base w v t) (ht : t.length = 256) : ∃ g c, v = .slice (some ⟨g, 0, none⟩) 256 c ∧ base ≤ g ∧ Blk w g (tC t) := by
  rcases h with ⟨rfl, _⟩ | ⟨_, g, c, e, h1, h2⟩
  · cases ht
  · exact ⟨g, c, by rw [e, ht], h1, h2⟩

def kD : Dsk := writeS (writeS (newD 2) 0 (fullT 1)) 1 (fullT 2)
theorem kD_r0 : readD (crashD kD [0, 1]) 0 = (some zeroT, 0) := by kernel_rfl
theorem kD_r1 : readD (crashD kD [0, 1]) 1 = (some (fullT 2), 0) := by kernel_rfl
theorem kD_len : kD.vs.length = 2 := by kernel_rfl
theorem kD_ok1 : (writeS (newD 2) 0 (fullT 1)).Ok 1 := writeS_ok (newD_ok 2 (by omega)) (by simp [newD]) (fullT_length 1)
theorem kD_ok : kD.Ok 2 := writeS_ok kD_ok1 (by simp [newD, writeS]) (fullT_length 2)

theorem conv_blk' {w : World} {g c : Nat} {t : Tx} {s : ByteArray} (hs : (⟨t.toArray⟩ : ByteArray) = s) (h : Blk w g (tC t)) (hl : t.length = 256) : (convert 30 9 (.slice (some ⟨g, 0, none⟩) 256 c)).run Try.prog w = .ok (.string s) w := hs ▸ conv_blk h hl
set_option maxRecDepth 100000 in
set_option maxHeartbeats 2000000 in
theorem knows_any (w : World) : Calls Try.prog 11 #[] w fun e w' => e = .returned (.bool true) ∧ Below w.heap.size w w' := by
  go_enter Try.func11, Try.ntmps11
  go_wp2_with fail
  refine (new_ok 2 w (by omega) (by omega)).mono ?_
  rintro e w1 ⟨rfl, D1, b1⟩
  have hl1 := D1.lt
  have hml : 10 < maxLen := by simp only [maxLen]; omega
  go_wp2_with (first | (go_at_call 10; refine (num_any _ _).mono ?_; rintro e w' ⟨rfl, rfl⟩))
  refine (full_any 1 _).mono ?_
  rintro e w2 ⟨rfl, B2, b2⟩
  go_wp2_with fail
  refine (write_live D1 (newD_ok 2 (by omega)) (by omega) (by omega) rfl rfl b2 (Nat.le_refl _) B2 (fullT_length 1) 0 (by simp [newD]) 256).mono ?_
  rintro e w3 ⟨rfl, us3, D3, F3⟩
  have b3 := bl_tr b1 b2
  replace b3 := b3.trans (F3.below (n0 := w.heap.size) (Nat.le_refl _) (fun i v g h => by simp [lookI] at h) (by have := b3.size; omega))
  clear B2 b2 F3
  go_wp2_with (first | (go_at_call 10; refine (num_any _ _).mono ?_; rintro e w' ⟨rfl, rfl⟩))
  refine (full_any 2 _).mono ?_
  rintro e w4 ⟨rfl, B4, b4⟩
  go_wp2_with fail
  refine (write_live D3 kD_ok1 (by omega) (by omega) rfl rfl b4 (Nat.le_refl _) B4 (fullT_length 2) 1 (by simp [newD, writeS]) 256).mono ?_
  rintro e w5 ⟨rfl, us5, D5, F5⟩
  have b5 := bl_tr b3 b4
  replace b5 := b5.trans (F5.below (n0 := w.heap.size) (Nat.le_refl _) (fun i v g h1 h2 => by have := (D3.base h1 h2).1; omega) (by have := b5.size; omega))
  clear B4 b4 F5 D3 b3 D1 b1
  replace D5 : DkAt w5 w.heap.size (0 + 1 + 1) us5 kD := D5
  go_wp2_with (first | (go_at_call 10; refine (num_any _ _).mono ?_; rintro e w' ⟨rfl, rfl⟩))
  have b6 : Below w5.heap.size w5 (w5.alloc (.cells #[.int .i64 0, .int .i64 1] 3)) := bl_alloc (Below.refl _ _) _
  have D6 := D5.below b6
  have B6 : Blk (w5.alloc (.cells #[.int .i64 0, .int .i64 1] 3)) w5.heap.size [.int .i64 0, .int .i64 1] := Blk.new' _ _ rfl
  have hcr := crash_any w.heap.size (0 + 1 + 1) us5 kD [0, 1] (some ⟨w5.heap.size, 0, none⟩) 2 2 (w5.alloc (.cells #[.int .i64 0, .int .i64 1] 3)) D6 kD_ok (by omega) (by omega) (fun i hi => by
    refine ⟨_, 0, rfl, B6.lt, .inr (by have := D5.lt; omega), fun j v hv e => by have := (D5.base hv e).2; omega, ?_, ?_⟩
    · rw [Nat.zero_add]; refine B6.get ?_
      match i, hi with
      | 0, _ => rfl
      | 1, _ => rfl
    · match i, hi with
      | 0, _ => simp [okI]
      | 1, _ => simp [okI]) (by simp)
  refine hcr.mono ?_
  clear hcr
  rintro e w7 ⟨rfl, D7, F7⟩
  have b7 := bl_tr b5 b6
  replace b7 := b7.trans (F7.below (n0 := w.heap.size) (Nat.le_refl _) (fun i v g h1 h2 => by have := (D6.base h1 h2).1; omega) (by have := b7.size; omega))
  have O7 := (crashD_ok kD_ok D5.sorted [0, 1]).1
  clear D5 D6 B6 b5 b6 F7
  rw [kD_len] at D7
  have hz7 : w.heap.size < w7.heap.size := by have := D7.lt; omega
  go_wp2_with fail
  refine (read_any w.heap.size _ [] _ 0 2 _ D7 O7 (by omega) (by omega)).mono ?_
  rintro e w8 ⟨v8, rfl, H8, b8⟩
  rw [kD_r0]
  obtain ⟨g8, c8, rfl, hg8, B8⟩ := BufAt.full (t := zeroT) (by have : readT (crashD kD [0, 1]) 0 = zeroT := by rw [readT, kD_r0]; rfl
                                                               rwa [this] at H8) zeroT_length
  have D8 := D7.below b8
  replace b7 := bl_tr b7 b8
  clear H8 b8 D7
  go_wp2_with fail
  refine (read_any w.heap.size _ [] _ 1 2 _ D8 O7 (by omega) (by omega)).mono ?_
  rintro e w9 ⟨v9, rfl, H9, b9⟩
  rw [kD_r1]
  obtain ⟨g9, c9, rfl, hg9, B9⟩ := BufAt.full (t := fullT 2) (by have : readT (crashD kD [0, 1]) 1 = fullT 2 := by rw [readT, kD_r1]; rfl
                                                                 rwa [this] at H9) (fullT_length 2)
  replace B8 := B8.below b9 B8.lt
  replace b7 := bl_tr b7 b9
  clear H9 b9 D8 O7
  have l8 := B8.lt
  have l9 := B9.lt
  have hca : ∀ w', Below w9.heap.size w9 w' → (convert 30 9 (.slice (some ⟨g8, 0, none⟩) 256 c8)).run Try.prog w' = .ok (.string ⟨zeroT.toArray⟩) w' := fun w' hb => conv_blk (B8.below hb l8) zeroT_length
  have hcb : ∀ w', Below w9.heap.size w9 w' → (convert 30 9 (.slice (some ⟨g9, 0, none⟩) 256 c9)).run Try.prog w' = .ok (.string ⟨(fullT 2).toArray⟩) w' := fun w' hb => conv_blk (B9.below hb l9) (fullT_length 2)
  generalize hs0 : (⟨zeroT.toArray⟩ : ByteArray) = s0 at hca
  generalize hs2 : (⟨(fullT 2).toArray⟩ : ByteArray) = s2 at hcb
  replace hs0 := Lib.hid hs0
  replace hs2 := Lib.hid hs2
  go_wp2_with fail
  have h9 := bl_drew (Below.refl w9.heap.size w9)
  have hca0 := hca _ h9
  have hcb0 := hcb _ h9
  go_region_with (first | (go_at_call 10; refine (num_any _ _).mono ?_; rintro e w' ⟨rfl, rfl⟩) | (go_at_call 14; have hx := sA; refine (full_any 2 _).mono ?_; rintro e wB ⟨rfl, BB, bB⟩; have hcB : (convert 30 9 (.slice (some ⟨wA.heap.size, 0, none⟩) 256 256)).run Try.prog wB = .ok (.string s2) wB := conv_blk' hs2.out BB (fullT_length 2); have sB : Below w9.heap.size w9 wB := bl_tr sA bB; have hcb2 := hcb _ sB) | (go_at_call 14; refine (full_any 0 _).mono ?_; rintro e wA ⟨rfl, BA, bA⟩; have hcA : (convert 30 9 (.slice (some ⟨w9.heap.size, 0, none⟩) 256 256)).run Try.prog wA = .ok (.string s0) wA := conv_blk' hs0.out BA zeroT_length; have sA : Below w9.heap.size w9 wA := bl_tr h9 bA; have hca1 := hca _ sA; have hcb1 := hcb _ sA))
  all_goals
    go_wp2_with fail
    go_ret
    exact ⟨rfl, bl_tr b7 ‹Below w9.heap.size w9 _›⟩
end Go.Proofs.Yteaenhmiomoocaa
