/- disk: Sync. -/
import Derived.Test.YteaenhmiomoocaaSp
import Derived.Maps.RangeWalk
import Derived.StillTailTactics
namespace Go.Proofs.Yteaenhmiomoocaa
open Go.RowKit Go.Shelf Go.Maps
attribute [local go_sem] Oper.semAt_some

abbrev idV (v : Value) : Value := v
def usP (us : List (Int × Value)) (pr : Int → Bool) : List (Int × Value) := us.filter fun p => !pr p.1
/-- What the rounds keep: the blocks that pr names are done, and nothing else. -/
structure SyRel (w : World) (h nb r : Nat) (us : List (Int × Value)) (d : Dsk) (pr : Int → Bool) (cnt : Nat) (wr : World) : Prop where
  D : DkAt wr h nb (usP us pr) (prD d pr)
  F : FrD w wr h us (usP us pr)
  rg : ∃ left, wr.ranges Try.prog 3 holdR (h + 2) r nb (imD idV (usP us pr)) left cnt ∧ ∀ k : Int, okI k → left (.int .i64 k) = (lookI (usP us pr) k).isSome

theorem usP_look (us : List (Int × Value)) (pr : Int → Bool) (k : Int) : lookI (usP us pr) k = if pr k then none else lookI us k := lookI_filter us pr k
theorem usP_step (us : List (Int × Value)) (pr : Int → Bool) (i : Int) : usP us (fun j => pr j || j == i) = delI (usP us pr) i := by
  unfold usP delI
  rw [List.filter_filter]
  apply List.filter_congr
  intro p _
  by_cases e : p.1 = i
  · simp [e]
  · have e' : (p.1 == i) = false := by rw [beq_eq_false_iff_ne]; exact e
    simp [e']
theorem usP_none (us : List (Int × Value)) : usP us (fun _ => false) = us := by simp [usP]
theorem lit_ok {k : Int} (h : (Lit.int .i64 k).wf = true) : okI k := by simpa [Lit.wf, IntKind.min, IntKind.max, IntKind.signed, IntKind.bits, okI] using h

theorem DkAt.turnD {w w' : World} {h nb : Nat} {us : List (Int × Value)} {d : Dsk} (D : DkAt w h nb us d) (hg : w.grownBy w' (some (h + 2))) (k : Int) (hM : IM Try.prog 3 w' (h + 2) nb idV (delI us k)) : DkAt w' h nb (delI us k) { d with vs := delI d.vs k } := by
  obtain ⟨k1, k2⟩ := D.keep1 (by omega) hg
  refine ⟨D.box.of_heap (k1 _ (by omega)), D.txt.of_heap (k1 _ (by omega)), D.bad.of_heap (k1 _ (by omega)), hM, keys_del k _ _ D.keys, fun i v hv => ?_, fun i j v v' hij h1 h2 => ?_⟩
  · rw [lookI_delI] at hv
    split at hv
    · cases hv
    · rename_i hne
      obtain ⟨l, A, c, e1, e2, e3⟩ := k2 i v hv
      exact ⟨l, A, c, by rw [lookI_delI, if_neg hne]; exact e1, e2, e3⟩
  · rw [lookI_delI] at h1 h2
    split at h1
    · cases h1
    split at h2
    · cases h2
    exact D.sep i j v v' hij h1 h2
theorem FrD.shrink {w w' : World} {h : Nat} {us us1 us2 : List (Int × Value)} (F : FrD w w' h us us1) (hs : ∀ i v, lookI us2 i = some v → lookI us1 i = some v) : FrD w w' h us us2 :=
  ⟨F.os, F.tape, F.output, F.size, F.block, fun i v g h1 h2 => F.sub i v g (hs i v h1) h2⟩
theorem FrD.other {w w' w'' : World} {h r : Nat} {us us1 : List (Int × Value)} (F : FrD w w' h us us1) (hr : w.heap.size ≤ r) (hg : w'.grownBy w'' (some r)) : FrD w w'' h us us1 :=
  ⟨hg.os.trans F.os, hg.tape.trans F.tape, hg.output.trans F.output, Nat.le_trans F.size hg.size, fun c hc hh hu => (hg.block c (Nat.lt_of_lt_of_le hc F.size) (by simp; omega)).trans (F.block c hc hh hu), F.sub⟩

set_option maxRecDepth 100000 in
set_option maxHeartbeats 4000000 in
theorem sync1_any (h nb : Nat) (us : List (Int × Value)) (d : Dsk) (bD N : Nat) (w : World) (D : DkAt w h nb us d) (hO : d.Ok N) (hN : N < 549755813888) 
    (cD : w.cell? ⟨bD, 0, none⟩ = some (.pointer (some ⟨h + 3, 0, none⟩))) (hbD : bD < h ∨ h + 3 < bD) (hne : ∀ i v, lookI us i = some v → v.ownBlock ≠ some bD) :
    Calls Try.prog 25 #[.pointer (some ⟨bD, 0, none⟩)] w fun e w' => e = .returned (.tuple #[]) ∧ DkAt w' h nb [] (syncS d) ∧ FrD w w' h us [] := by
  have hlD : bD < w.heap.size := by
    rcases Nat.lt_or_ge bD w.heap.size with hb | hb
    · exact hb
    · simp [World.cell?, Array.getElem?_eq_none hb] at cD
  have K3 : Keyed Try.prog 3 := int_keyed Try.underlying3
  have hsorted := D.sorted
  have q := D.box.cell
  have hDl := D.lt
  go_enter Try.func25, Try.ntmps25
  go_wp2_with (first | (at_range; refine wpList_range_own _ rfl _ 53 rfl 3 51 K3 Try.underlying53 holdR (h + 2) nb (imD idV us) rfl D.ver ?_; intro w0 hrg0 hg0 hs0))
  have hb0 : Below w.heap.size w w0 := ⟨hg0.os, hg0.tape, hg0.output, hg0.size, fun i hi => hg0.block i hi (by simp)⟩
  have D0 := D.below hb0
  generalize hr : w.heap.size = r at hrg0 hg0 hs0
  have hrn : h + 3 < r := by omega
  have hrlt : r < w0.heap.size := by omega
  have F0 := FrD.of_below (h := h) us hb0
  have hR0 : SyRel w h nb r us d (fun _ => false) (Maps.size (imD idV us)) w0 := by
    refine ⟨by rw [usP_none, prD_none]; exact D0, by rw [usP_none]; exact F0, _, by rw [usP_none]; exact hrg0, fun k _ => by rw [usP_none]; exact imD_has us k⟩
  clear hrg0 hg0 D0 F0 hb0
  go_frame
  go_loopw [1] (fun _ wr => ∃ pr cnt, SyRel w h nb r us d pr cnt wr ∧ r < wr.heap.size) (fun _ wr => wr.rangeLeft (h + 2) r)
  case atStart => exact ⟨_, _, hR0, hrlt⟩
  case round =>
    obtain ⟨pr, cnt, ⟨D1, F1, left, hrg, hleft⟩, hrl⟩ := hrel
    clear hR0
    have hrange := hrg.left_eq
    have hcD : wr.cell? ⟨bD, 0, none⟩ = some (.pointer (some ⟨h + 3, 0, none⟩)) := (World.cell?_of_block (a := ⟨bD, 0, none⟩) (F1.block bD hlD hbD hne)).trans cD
    have q1 := D1.box.cell
    go_wp2_with (first | (at_next; refine wpList_next_ranges _ rfl _ rfl 3 K3 holdR (Value.int .i64) (fun v : Value => v) (fun key kl hk => by obtain ⟨x, e, _⟩ := Maps.keyOf_int_inv Try.underlying3 hk; exact ⟨x, e⟩) (fun v y _ => ⟨v, rfl⟩) (h + 2) r nb _ left cnt rfl hrg ?_ ?_))
    · intro hc0 hl0
      go_wp2_with fail
      go_end0
      have hall : ∀ k : Int, (lookI d.vs k).isSome = true → pr k = true := fun k hk => by
        obtain ⟨l, hl⟩ := Option.isSome_iff_exists.1 hk
        obtain ⟨h1, h2, _⟩ := hO.vs k l hl
        have h3 := hleft k (by have := hO.len.2; unfold okI; omega)
        rw [hl0, usP_look] at h3
        cases hp : pr k with
        | true => rfl
        | false =>
          rw [hp] at h3
          cases hu : lookI us k with
          | none => rw [D.noneK.1 hu] at hl; cases hl
          | some v => rw [hu] at h3; simp at h3
      have hnil : usP us pr = [] := by
        unfold usP
        rw [List.filter_eq_nil_iff]
        intro p hp
        have h1 : (lookI d.vs p.1).isSome = true := by
          cases hv : lookI d.vs p.1 with
          | none => have := D.noneK.2 hv; have h2 := lookI_some_mem hp; rw [this] at h2; cases h2
          | some l => rfl
        simp [hall _ h1]
      rw [hnil, prD_all hall] at D1
      rw [hnil] at F1
      exact ⟨rfl, D1, F1⟩
    · intro x c kl a b w1 cnt1 hkl hleftk hRc hat hrg1 hlt hg1 hs1 hen
      obtain ⟨x', e1, rfl, hwf⟩ := Maps.keyOf_int_inv Try.underlying3 hkl
      cases e1
      have hokx := lit_ok hwf
      rw [hleft x hokx] at hleftk
      obtain ⟨v, hv⟩ := Option.isSome_iff_exists.1 hleftk
      have hcv : c = v := by
        have h1 := hat (.held (idV undef))
        rw [imD_at, hv] at h1
        simp only [holdR, Option.some.injEq, Prod.mk.injEq] at hRc
        rw [← hRc.1] at h1
        simpa using h1.symm
      subst hcv
      clear hat hRc hleftk
      have hvu : lookI us x = some c ∧ pr x = false := by
        rw [usP_look] at hv
        split at hv
        · cases hv
        · exact ⟨hv, by simpa using ‹¬ pr x = true›⟩
      obtain ⟨l, A, cc, hl, _, hrow⟩ := D1.rows x c hv
      have hlv : lookI d.vs x = some l := by
        have h1 : lookI (prD d pr).vs x = if pr x then none else lookI d.vs x := lookI_filter d.vs pr x
        rw [h1, hvu.2] at hl
        exact hl
      obtain ⟨hx0, hxl, hlne, hlN, hl256⟩ := hO.vs x l hlv
      obtain ⟨k, rfl⟩ : ∃ k : Nat, x = k := ⟨x.toNat, by omega⟩
      have hl0 : l.length ≠ 0 := fun e => hlne (List.length_eq_zero_iff.1 e)
      have hlast := lastT_get hl0
      obtain ⟨g, c', rfl, hgb, hgl, hgr⟩ := row_range hrow hl256 hl0
      have hgr1 := hgr (l.length - 1) (by omega)
      have hll : (lastT l).length = 256 := by rw [hlast]; exact hl256 _ (List.getElem_mem _)
      rw [← hlast] at hgr1
      clear hlast hgr hrow
      have hgw : g < w.heap.size := (D.base hvu.1 rfl).2
      obtain ⟨m, hm⟩ : ∃ m, l.length = m + 1 := ⟨l.length - 1, by omega⟩
      rw [show l.length - 1 = m from by omega] at hgr1
      have hwl : IntKind.i64.wrap ((l.length : Int) - 1) = m := by rw [IntKind.wrap_i64]; omega
      have hel : (l.length : Int) - 1 = m := by omega
      have hmll : (m : Int) < (l.length : Int) := by omega
      have hmN : m + 1 ≤ N := by rw [← hm]; exact hlN
      replace hm := Lib.hid hm
      have hstep := Lib.hid (prD_step (pr := pr) hlv)
      have hkt : k < (prD d pr).ts.length := by rw [prD_len]; omega
      have htx := prD_tx hO pr
      have hbase : ∀ i v b, lookI (usP us pr) i = some v → v.ownBlock = some b → b < r := fun i v b h1 h2 => by
        rw [usP_look] at h1
        split at h1
        · cases h1
        · rw [← hr]; exact (D.base h1 h2).2
      have D2 : DkAt w1 h nb (usP us pr) (prD d pr) := D1.keep fun b hb => hg1.block b (by
          rcases hb with hb | ⟨i, v, h1, h2⟩
          · have := D1.lt; omega
          · exact (D1.base h1 h2).2) (by
          rcases hb with hb | ⟨i, v, h1, h2⟩
          · simp; omega
          · have := hbase i v b h1 h2; simp; omega)
      have F2 := F1.other (by omega) hg1
      have hcD2 : w1.cell? ⟨bD, 0, none⟩ = some (.pointer (some ⟨h + 3, 0, none⟩)) := (World.cell?_of_block (a := ⟨bD, 0, none⟩) (F2.block bD hlD hbD hne)).trans cD
      have hrm2 : w1.drew.rangeAt g (m * 256) (tC (lastT l)) := fun j u hu => (World.cell?_of_block (w := wr) (w' := w1) (a := ⟨g, m * 256 + j, none⟩) (hg1.block g hgl (by simp; omega))).trans (hgr1 j u hu)
      have D3 := D2.below (bl_drew (Below.refl _ _))
      have hrl1 : r < w1.heap.size := by omega
      clear D1 F1 hgr1 hrg hcD q1 hg1 hgl
      generalize hdp : prD d pr = dp at *
      have hktI : (k : Int) < (dp.ts.length : Int) := by omega
      have hk62 : -9223372036854775808 ≤ (k : Int) ∧ (k : Int) ≤ 9223372036854775807 := hokx
      have hw1 : IntKind.i64.wrap (m : Int) = m := by rw [IntKind.wrap_i64]; omega
      have q2 := D2.box.cell
      have q3 := D3.box.cell
      have hcD3 : w1.drew.cell? ⟨bD, 0, none⟩ = some (.pointer (some ⟨h + 3, 0, none⟩)) := hcD2
      go_wp2_with fail
      go_still_tail 12, (by kernel_rfl)
      refine wpStill_load_mid rfl 58 _ rfl g (m * 256) (tC (lastT l)) rfl hrm2 _ Try.underlying58 rfl (by rw [tC_length, hll]; exact size58) ?_
      repeat still_step
      try refine wpStill_nil ?_
      change wpList _ _ _ _ _ (w1.drew)
      have htt : w1.drew.there h (k * 256) 256 := D3.thereT htx k hkt
      have hg3 := gr_setCells (a := w1.drew) (b := h) (tC (lastT l)).toArray.toList (k * 256) w1.drew (World.grownBy.refl _ _)
      have hrg3 := hrg1.kept (gr_drew (World.grownBy.refl _ none)) (by simp) (by simp)
      have hkey : keyOf Try.prog 3 (.int .i64 (k : Int)) = some (.int .i64 (k : Int)) := hkl
      go_wp2_with (first
        | (refine wpList_store_mid rfl 58 _ _ rfl h (k * 256) (tC (lastT l)).toArray rfl rfl (by rw [List.size_toArray, tC_length, hll]; exact htt) (by rw [List.size_toArray, tC_length, hll]; exact size58) (all_oneCell_toArray tC_one) ?nxa; case' nxa => obtain ⟨w4, hw4⟩ : ∃ w4, (w1.drew).setCells h (k * 256) (tC (lastT l)).toArray.toList = w4 := ⟨_, rfl⟩; rw [hw4]; rw [hw4] at hg3; have D4 := hw4 ▸ D3.setT htx k hkt _ hll; have F4 := (F2.trb (bl_drew (Below.refl _ _))).grown hDl (by omega) hg3; have hrg4 := hrg3.kept hg3 (by simp) (by simp; omega); have q4 := D4.box.cell; have hcD4 : w4.cell? ⟨bD, 0, none⟩ = some (.pointer (some ⟨h + 3, 0, none⟩)) := (World.cell?_of_block (a := ⟨bD, 0, none⟩) (F4.block bD hlD hbD hne)).trans cD)
        | (refine wpList_delete_im rfl _ _ 52 rfl Try.underlying3 Try.underlying52 (h + 1) nb rfl D4.bad (k : Int) rfl hk62 ?nxb; case' nxb => intro w5 M5 g5; have D5 := D4.turnB g5 (Nat.le_refl _) M5; have F5 := F4.grown hDl (by omega) g5; have hrg5 := hrg4.kept g5 (by simp) (by simp; omega); have q5 := D5.box.cell; have hcD5 : w5.cell? ⟨bD, 0, none⟩ = some (.pointer (some ⟨h + 3, 0, none⟩)) := (World.cell?_of_block (a := ⟨bD, 0, none⟩) (F5.block bD hlD hbD hne)).trans cD)
        | (refine wpList_delete_ranges _ rfl _ _ 53 3 rfl 51 K3 Try.underlying53 holdR (h + 2) r nb _ _ cnt1 rfl hrg5 (.int .i64 (k : Int)) (.int .i64 (k : Int)) rfl hkey ?nxc; case' nxc => intro w6 cnt6 hrg6 hle6 ht6))
      have hg6 : w5.grownBy w6 (some (h + 2)) := ht6.grown
      have hrg6' := hrg6
      rw [imD_del] at hrg6'
      have D6 := D5.turnD hg6 (k : Int) hrg6'.owns
      have hl6 := hg6.size
      have hl5 := g5.size
      have hl4 := hg3.size
      have hl3 : w1.drew.heap.size = w1.heap.size := rfl
      have e1 : usP us (fun j => pr j || j == (k : Int)) = delI (usP us pr) (k : Int) := usP_step us pr k
      refine ⟨⟨⟨fun j => pr j || j == (k : Int), cnt6, ⟨?_, ?_, _, by rw [e1]; exact hrg6', ?_⟩⟩, by omega⟩, by rw [hrg6'.left_eq]; omega⟩
      · rw [e1, hstep.out]
        exact D6
      · rw [e1]
        refine (F5.grown hDl (by omega) hg6).shrink fun i v hv => ?_
        rw [lookI_delI] at hv
        split at hv
        · cases hv
        · exact hv
      · intro j hj
        rw [e1, lookI_delI]
        simp only [hleft j hj, Lit.sameKey]
        by_cases e : j = (k : Int)
        · simp [e]
        · simp [e]

set_option maxHeartbeats 1000000 in
theorem sync_any (h nb : Nat) (us : List (Int × Value)) (d : Dsk) (N : Nat) (w : World) (D : DkAt w h nb us d) (hO : d.Ok N) (hN : N < 549755813888) :
    Calls Try.prog 12 #[.pointer (some ⟨h + 3, 0, none⟩)] w fun e w' => e = .returned (.int .i64 (syncD d).1) ∧ ∃ us', DkAt w' h nb us' (syncD d).2 ∧ FrD w w' h us us' := by
  have hmf : ∀ (fn : Fn) (first cap : Array Value) (w : World), (Instr.makeFunc fn first cap).run Try.prog w = .ok (.func fn first cap) w := fun _ _ _ _ => rfl
  have hp := hO.len.1
  have hb1 : Below w.heap.size w (w.alloc (.cells #[.pointer (some ⟨h + 3, 0, none⟩)] 24)) := bl_alloc (Below.refl _ _) _
  have D1 := D.below hb1
  go_enter Try.func12, Try.ntmps12
  go_wp2_with (go_at_call 23; refine (none_pos D1 hp).mono ?_; rintro e w' ⟨rfl, rfl⟩)
  refine (operation25 h nb us d _ _ D1 hO.fuse.2 hO.fuse.1 (fun w' => DkAt w' h nb [] (syncS (powr d).2) ∧ FrD w w' h us []) ?_).mono ?_
  · intro hpw w1 D2 F2
    have e0 : (w.heap.size < h ∨ h + 3 < w.heap.size) ∧ ∀ i v, lookI us i = some v → v.ownBlock ≠ some w.heap.size := ⟨.inr D.lt, fun i v hv e => by have := (D.base hv e).2; omega⟩
    refine (sync1_any h nb us _ w.heap.size N w1 D2 (powr_ok hO) hN ?_ e0.1 e0.2).mono ?_
    · refine (World.cell?_of_block (a := ⟨w.heap.size, 0, none⟩) (F2.block _ (by simp) e0.1 e0.2)).trans ?_
      exact (Blk.new' _ _ rfl).get rfl
    · rintro e w' ⟨rfl, D3, F3⟩
      exact ⟨rfl, D3, ((FrD.of_below us hb1).trans F2).trans F3⟩
  · rintro e w' (⟨hp1, rfl, D5, F5⟩ | ⟨hp1, rfl, D5, F5⟩)
    · go_wp2_with fail
      go_ret
      have hs : syncD d = (0, syncS (powr d).2) := by unfold syncD; rw [if_pos hp1]
      rw [hs]
      exact ⟨rfl, [], D5, F5⟩
    · go_wp2_with fail
      go_ret
      have hs : syncD d = (8, (powr d).2) := by unfold syncD; rw [if_neg (by simp [hp1])]
      rw [hs]
      exact ⟨rfl, us, D5, (FrD.of_below us hb1).trans F5⟩
end Go.Proofs.Yteaenhmiomoocaa
