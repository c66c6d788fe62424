/- disk: Read. -/
import Derived.Test.YteaenhmiomoocaaRd
namespace Go.Proofs.Yteaenhmiomoocaa
open Go.RowKit Go.Shelf Go.Maps
attribute [local go_sem] Oper.semAt_some

/-- What is read, as bytes. -/
def readT (d : Dsk) (i : Int) : Tx := (readD d i).1.getD []

theorem lastT_get {l : List Tx} (h : l.length ≠ 0) : lastT l = l[l.length - 1]'(by omega) := by
  unfold lastT
  rw [List.getLast?_eq_getElem?, List.getElem?_eq_getElem (by omega)]
  rfl

theorem zeroV58 (w : World) : (zeroValue 58).run Try.prog w = .ok (.agg (tC zeroT).toArray) w := by
  have h : (Try.prog.info? 58).map (·.zero) = some (some (.agg (tC zeroT).toArray)) := by kernel_rfl
  obtain ⟨i, hi, e⟩ := Option.map_eq_some_iff.1 h
  simp [zeroValue, typeInfo, hi, e]
set_option maxRecDepth 100000 in
set_option maxHeartbeats 2000000 in
theorem read_any (h nb : Nat) (us : List (Int × Value)) (d : Dsk) (i : Int) (N : Nat) (w : World) (D : DkAt w h nb us d) (hO : d.Ok N) (hi64 : -9223372036854775808 ≤ i ∧ i ≤ 9223372036854775807) (hN : N < 549755813888) :
    Calls Try.prog 16 #[.pointer (some ⟨h + 3, 0, none⟩), .int .i64 i] w fun e w' => ∃ v, e = .returned (.tuple #[v, .int .i64 (readD d i).2]) ∧ BufAt w.heap.size w' v (readT d i) ∧ Below w.heap.size w w' := by
  have hp := hO.len.1
  have hp2 := hO.len.2
  have q := D.box.cell
  have hal := zeroV58
  by_cases h1 : i < 0
  · have hd1 : decide (i < 0) = true := by simpa using h1
    go_enter Try.func16, Try.ntmps16
    go_wp2_with (go_at_call 23; refine (none_pos D hp).mono ?_; rintro e w' ⟨rfl, rfl⟩)
    go_ret2
    have hw : readD d i = (none, 1) := by unfold readD; rw [if_pos (.inl h1)]
    exact ⟨.slice none 0 0, (by rw [hw]; rfl), .inl ⟨by rw [readT, hw]; rfl, rfl⟩, Below.refl _ _⟩
  · have hd1 : decide (i < 0) = false := by simpa using h1
    by_cases h2 : (d.ts.length : Int) ≤ i
    · have hd2 : decide ((d.ts.length : Int) ≤ i) = true := by simpa using h2
      go_enter Try.func16, Try.ntmps16
      go_wp2_with (go_at_call 23; refine (none_pos D hp).mono ?_; rintro e w' ⟨rfl, rfl⟩)
      go_ret2
      have hw : readD d i = (none, 1) := by unfold readD; rw [if_pos (.inr h2)]
      exact ⟨.slice none 0 0, (by rw [hw]; rfl), .inl ⟨by rw [readT, hw]; rfl, rfl⟩, Below.refl _ _⟩
    · have hd2 : decide ((d.ts.length : Int) ≤ i) = false := by simpa using h2
      obtain ⟨ts, bad, vs, off, fuse⟩ := d
      cases off with
      | true =>
        go_enter Try.func16, Try.ntmps16
        go_wp2_with (go_at_call 23; refine (none_pos D hp).mono ?_; rintro e w' ⟨rfl, rfl⟩)
        go_ret2
        have hw : readD ⟨ts, bad, vs, true, fuse⟩ i = (none, 8) := by unfold readD; rw [if_neg (by simp at h1 h2 ⊢; omega), if_pos rfl]
        exact ⟨.slice none 0 0, (by rw [hw]; rfl), .inl ⟨by rw [readT, hw]; rfl, rfl⟩, Below.refl _ _⟩
      | false =>
        obtain ⟨k, rfl⟩ : ∃ k : Nat, i = k := ⟨i.toNat, by omega⟩
        have hk : k < ts.length := by simpa using h2
        have hrg := D.range hO.tx k hk
        have htk := hO.tx _ (List.getElem_mem hk)
        dsimp only at q hrg htk hd2
        cases hu : lookI us (k : Int) with
        | none =>
          have hv : lookI vs (k : Int) = none := D.noneK.1 hu
          cases hbd : (lookI bad (k : Int)).getD false with
          | true =>
            go_enter Try.func16, Try.ntmps16
            go_wp2_with (first
              | (go_at_call 23; refine (none_pos D hp).mono ?_; rintro e w' ⟨rfl, rfl⟩)
              | (refine wpList_load_mid rfl 58 _ rfl h (k * 256) rfl (tC ts[k]) _ hrg Try.underlying58 rfl (by rw [tC_length, htk]; exact size58) ?_)
              | (refine wpList_store_blk rfl 58 _ _ rfl w.heap.size (tC zeroT) (tC ts[k]) rfl rfl (Blk.new' _ _ rfl) (by rw [tC_length, tC_length, htk, zeroT_length]) (by rw [tC_length, htk]; exact size58) tC_one ?nxa; case' nxa => intro w2 hS2 hg2 hz2; have hb2 := bl_gr (bl_alloc (Below.refl _ _) _) hg2 (Nat.le_refl _); have D2 := D.below hb2; have q2 := D2.box.cell; have l2 := D2.ver.look Try.underlying3 Try.underlying53 (z := .slice none 0 0) Try.zeroValue51 (k := (k : Int)) (by omega); have m2 := D2.bad.look Try.underlying3 Try.underlying52 (z := false) Try.zeroValue4 (k := (k : Int)) (by omega); rw [hu] at l2; dsimp only at q2; rw [hbd] at m2))
            go_ret2
            have hw : readD ⟨ts, bad, vs, false, fuse⟩ k = (none, 22) := by unfold readD; rw [if_neg (by simp at h1 h2 ⊢; omega), if_neg (by simp)]; simp [hv, hbd]
            exact ⟨.slice none 0 0, (by rw [hw]; rfl), .inl ⟨by rw [readT, hw]; rfl, rfl⟩, hb2⟩
          | false =>
            go_enter Try.func16, Try.ntmps16
            go_wp2_with (first
              | (go_at_call 23; refine (none_pos D hp).mono ?_; rintro e w' ⟨rfl, rfl⟩)
              | (refine wpList_load_mid rfl 58 _ rfl h (k * 256) rfl (tC ts[k]) _ hrg Try.underlying58 rfl (by rw [tC_length, htk]; exact size58) ?_)
              | (refine wpList_store_blk rfl 58 _ _ rfl w.heap.size (tC zeroT) (tC ts[k]) rfl rfl (Blk.new' _ _ rfl) (by rw [tC_length, tC_length, htk, zeroT_length]) (by rw [tC_length, htk]; exact size58) tC_one ?nxb; case' nxb => intro w2 hS2 hg2 hz2; have hb2 := bl_gr (bl_alloc (Below.refl _ _) _) hg2 (Nat.le_refl _); have D2 := D.below hb2; have q2 := D2.box.cell; have l2 := D2.ver.look Try.underlying3 Try.underlying53 (z := .slice none 0 0) Try.zeroValue51 (k := (k : Int)) (by omega); have m2 := D2.bad.look Try.underlying3 Try.underlying52 (z := false) Try.zeroValue4 (k := (k : Int)) (by omega); rw [hu] at l2; dsimp only at q2; rw [hbd] at m2))
            go_ret2
            have hw : readD ⟨ts, bad, vs, false, fuse⟩ k = (some ts[k], 0) := by unfold readD; rw [if_neg (by simp at h1 h2 ⊢; omega), if_neg (by simp)]; simp [hv, hbd, hk]
            exact ⟨.slice (some ⟨w.heap.size, 0, none⟩) 256 256, (by rw [hw]; rfl), .inr ⟨by rw [readT, hw]; exact List.ne_nil_of_length_pos (by rw [Option.getD_some, htk]; omega), _, 256, by rw [readT, hw, Option.getD_some, htk], Nat.le_refl _, by rw [readT, hw]; exact hS2⟩, hb2⟩
        | some v =>
          obtain ⟨l, A, c, hv, _, hr⟩ := D.rows _ _ hu
          obtain ⟨_, _, hne, hlN, hl256⟩ := hO.vs _ _ hv
          have hl0 : l.length ≠ 0 := fun e => hne (List.length_eq_zero_iff.1 e)
          have hlast := lastT_get hl0
          obtain ⟨g, c', rfl, hgb, hg, hgr⟩ := row_range hr hl256 hl0
          have hgr1 := hgr (l.length - 1) (by omega)
          have hll : (lastT l).length = 256 := by rw [hlast]; exact hl256 _ (List.getElem_mem _)
          rw [← hlast] at hgr1
          have hlastH := Lib.hid hlast
          clear hlast hgr
          obtain ⟨m, hm⟩ : ∃ m, l.length = m + 1 := ⟨l.length - 1, by omega⟩
          rw [hm] at hu
          rw [hm, Nat.add_sub_cancel] at hgr1
          replace hm := Lib.hid hm
          have hmN : m + 1 ≤ N := by rw [← hm.out]; exact hlN
          go_enter Try.func16, Try.ntmps16
          go_wp2_with (first
              | (go_at_call 23; refine (none_pos D hp).mono ?_; rintro e w' ⟨rfl, rfl⟩)
              | (refine wpList_load_mid rfl 58 _ rfl h (k * 256) rfl (tC ts[k]) _ hrg Try.underlying58 rfl (by rw [tC_length, htk]; exact size58) ?_)
              | (refine wpList_store_blk rfl 58 _ _ rfl w.heap.size (tC zeroT) (tC ts[k]) rfl rfl (Blk.new' _ _ rfl) (by rw [tC_length, tC_length, htk, zeroT_length]) (by rw [tC_length, htk]; exact size58) tC_one ?nxc; case' nxc => intro w2 hS2 hg2 hz2; have hb2 := bl_gr (bl_alloc (Below.refl _ _) _) hg2 (Nat.le_refl _); have D2 := D.below hb2; have q2 := D2.box.cell; have l2 := D2.ver.look Try.underlying3 Try.underlying53 (z := .slice none 0 0) Try.zeroValue51 (k := (k : Int)) (by omega); rw [hu] at l2; dsimp only at q2; have hgr2 := fun j u hu => (hb2.cell (p := ⟨g, m * 256 + j, none⟩) hg).trans (hgr1 j u hu))
              | (refine wpList_load_mid rfl 58 _ rfl g (m * 256) rfl (tC (lastT l)) _ hgr2 Try.underlying58 rfl (by rw [tC_length, hll]; exact size58) ?_)
              | (refine wpList_store_blk rfl 58 _ _ rfl w.heap.size (tC ts[k]) (tC (lastT l)) rfl rfl hS2 (by rw [tC_length, tC_length, htk, hll]) (by rw [tC_length, hll]; exact size58) tC_one ?nxd; case' nxd => intro w3 hS3 hg3 hz3; have hb3 := bl_gr hb2 hg3 (Nat.le_refl _)))
          go_ret2
          have hw : readD ⟨ts, bad, vs, false, fuse⟩ k = (some (lastT l), 0) := by unfold readD; rw [if_neg (by simp at h1 h2 ⊢; omega), if_neg (by simp)]; simp [hv]
          exact ⟨.slice (some ⟨w.heap.size, 0, none⟩) 256 256, (by rw [hw]; rfl), .inr ⟨by rw [readT, hw]; exact List.ne_nil_of_length_pos (by rw [Option.getD_some, hll]; omega), _, 256, by rw [readT, hw, Option.getD_some, hll], Nat.le_refl _, by rw [readT, hw]; exact hS3⟩, hb3⟩

set_option maxHeartbeats 400000 in
theorem read_nil (v : Value) (w : World) : Calls Try.prog 16 #[.pointer none, v] w fun e w' => e = .returned (.tuple #[.slice none 0 0, .int .i64 1]) ∧ w = w' := by
  go_enter Try.func16, Try.ntmps16
  go_wp2_with (go_at_call 23; refine (none_nil _).mono ?_; rintro e w' ⟨rfl, rfl⟩)
  go_ret2
  exact ⟨rfl, rfl⟩
set_option maxHeartbeats 400000 in
theorem read_zero (b : Nat) (A : Option Addr) (c : Nat) (v : Value) (w : World) (h : w.cell? ⟨b, 0, none⟩ = some (.slice A 0 c)) : Calls Try.prog 16 #[.pointer (some ⟨b, 0, none⟩), v] w fun e w' => e = .returned (.tuple #[.slice none 0 0, .int .i64 1]) ∧ w = w' := by
  go_enter Try.func16, Try.ntmps16
  go_wp2_with (go_at_call 23; refine (none_zero _ _ _ _ h).mono ?_; rintro e w' ⟨rfl, rfl⟩)
  go_ret2
  exact ⟨rfl, rfl⟩
end Go.Proofs.Yteaenhmiomoocaa
