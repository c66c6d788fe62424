/- disk: Crash. -/
import Derived.Test.YteaenhmiomoocaaFr
import Derived.StillTailTactics
namespace Go.Proofs.Yteaenhmiomoocaa
open Go.RowKit Go.Shelf Go.Maps
attribute [local go_sem] Oper.semAt_some

def okI (n : Int) : Prop := -9223372036854775808 ≤ n ∧ n ≤ 9223372036854775807
/-- From address A on w holds the numbers l, in a block that is none of the disk's. -/
def IntsAt (w : World) (A : Option Addr) (l : List Int) (h : Nat) (us : List (Int × Value)) : Prop :=
  ∀ i (hi : i < l.length), ∃ b o, A = some ⟨b, o, none⟩ ∧ b < w.heap.size ∧ (b < h ∨ h + 3 < b) ∧ (∀ i v, lookI us i = some v → v.ownBlock ≠ some b) ∧ w.cell? ⟨b, o + i, none⟩ = some (.int .i64 l[i]) ∧ okI l[i]
theorem IntsAt.fr {w w' : World} {A : Option Addr} {l : List Int} {h : Nat} {us : List (Int × Value)} (H : IntsAt w A l h us) (F : FrD w w' h us us) : IntsAt w' A l h us := fun i hi => by
  obtain ⟨b, o, hA, hlt, hh, hu, hc, hk⟩ := H i hi
  exact ⟨b, o, hA, Nat.lt_of_lt_of_le hlt F.size, hh, hu, (World.cell?_of_block (a := ⟨b, o + i, none⟩) (F.block b hlt hh hu)).trans hc, hk⟩

theorem crashL_snoc : ∀ (l : List (Int × List Tx)) (d : Dsk) (p : Int × List Tx) (cs : List Int), crashL d (l ++ [p]) cs = crash1 (crashL d l cs) p (cs[l.length]?.getD 0)
  | [], d, p, cs => by simp [crashL, List.head?_eq_getElem?]
  | q :: l, d, p, cs => by
    rw [List.cons_append, crashL, crashL, crashL_snoc l]
    simp [List.getElem?_tail]
theorem crash1_ok {d : Dsk} {N : Nat} (hO : d.Ok N) {p : Int × List Tx} (hp : ∀ t ∈ p.2, t.length = 256) (c : Int) : (crash1 d p c).Ok N ∧ (crash1 d p c).vs = d.vs ∧ (crash1 d p c).ts.length = d.ts.length ∧ (crash1 d p c).off = d.off ∧ (crash1 d p c).fuse = d.fuse := by
  unfold crash1
  split
  · rename_i hc
    refine ⟨⟨by simpa using hO.len, fun t ht => ?_, by simpa using hO.vs, hO.fuse⟩, rfl, by simp, rfl, rfl⟩
    rcases List.mem_or_eq_of_mem_set ht with h | h
    · exact hO.tx t h
    · rw [h, List.getElem?_eq_getElem (by omega)]; exact hp _ (List.getElem_mem _)
  · split
    · exact ⟨hO, rfl, rfl, rfl, rfl⟩
    · exact ⟨⟨hO.len, hO.tx, hO.vs, hO.fuse⟩, rfl, rfl, rfl, rfl⟩
theorem crashL_ok : ∀ (l : List (Int × List Tx)) (d : Dsk) (cs : List Int) (N : Nat), d.Ok N → (∀ p ∈ l, ∀ t ∈ p.2, t.length = 256) → (crashL d l cs).Ok N ∧ (crashL d l cs).vs = d.vs ∧ (crashL d l cs).ts.length = d.ts.length ∧ (crashL d l cs).off = d.off ∧ (crashL d l cs).fuse = d.fuse
  | [], _, _, _, h, _ => ⟨h, rfl, rfl, rfl, rfl⟩
  | p :: l, d, cs, N, h, hp => by
    obtain ⟨h1, h2, h3, h4, h5⟩ := crash1_ok h (hp p (List.mem_cons_self ..)) (cs.head?.getD 0)
    obtain ⟨k1, k2, k3, k4, k5⟩ := crashL_ok l _ cs.tail N h1 (fun q hq => hp q (List.mem_cons_of_mem _ hq))
    exact ⟨k1, k2.trans h2, k3.trans h3, k4.trans h4, k5.trans h5⟩

def CrRel (w : World) (h nb : Nat) (us : List (Int × Value)) (d : Dsk) (cs : List Int) (A : Option Addr) (c' : Nat) (j : Nat) (wr : World) : Prop :=
  DkAt wr h (nb + j) us (crashL d (d.vs.take j) cs) ∧ FrD w wr h us us ∧ wr.ownsRow w.heap.size 3 1 (.slice A us.length c') us.length (us.map fun p => .int .i64 p.1)

theorem rising_len : ∀ (l : List Int) (a b : Int), l.Pairwise (fun x y => x < y) → (∀ x ∈ l, a ≤ x ∧ x < b) → (l.length : Int) ≤ max 0 (b - a)
  | [], a, b, _, _ => by simp; omega
  | x :: l, a, b, hp, h => by
    obtain ⟨h1, h2⟩ := List.pairwise_cons.1 hp
    have hx := h x (List.mem_cons_self ..)
    have ih := rising_len l (x + 1) b h2 (fun y hy => ⟨by have := h1 y hy; omega, (h y (List.mem_cons_of_mem _ hy)).2⟩)
    simp only [List.length_cons]
    omega
theorem DkAt.few {w : World} {h nb N : Nat} {us : List (Int × Value)} {d : Dsk} (D : DkAt w h nb us d) (hO : d.Ok N) : d.vs.length ≤ d.ts.length := by
  have h1 := rising_len (d.vs.map (·.1)) 0 d.ts.length (List.pairwise_map.2 D.sorted) (fun x hx => by
    obtain ⟨p, hp, rfl⟩ := List.mem_map.1 hx
    have := hO.vs p.1 p.2 (lookI_mem D.sorted hp)
    exact ⟨this.1, this.2.1⟩)
  simp at h1
  omega

set_option maxRecDepth 100000 in
set_option maxHeartbeats 4000000 in
theorem crash_any (h nb : Nat) (us : List (Int × Value)) (d : Dsk) (cs : List Int) (A : Option Addr) (c N : Nat) (w : World) (D : DkAt w h nb us d) (hO : d.Ok N) (hN : N < 549755813888) (hnb : nb + 4096 < 17592186044416)
    (hcs : IntsAt w A cs h us) (hcl : cs.length ≤ 17592186044416) :
    Calls Try.prog 15 #[.pointer (some ⟨h + 3, 0, none⟩), .slice A cs.length c] w fun e w' => e = .returned (.tuple #[]) ∧ DkAt w' h (nb + d.vs.length) [] (crashD d cs) ∧ FrD w w' h us [] := by
  have hp := hO.len.1
  have hlen : us.length = d.vs.length := by have := congrArg List.length D.keys; simpa using this
  have hvl : d.vs.length ≤ 4096 := Nat.le_trans (D.few hO) hO.len.2
  have hv256 : ∀ p ∈ d.vs, ∀ t ∈ p.2, t.length = 256 := fun p hpm => (hO.vs p.1 p.2 (lookI_mem D.sorted hpm)).2.2.2.2
  have q := D.box.cell
  have hD1 := D.below (bl_alloc (Below.refl _ _) (.cells #[.map (some (h + 2))] 53))
  go_enter Try.func15, Try.ntmps15
  go_wp2_with (first | (go_at_call 23; refine (none_pos D hp).mono ?_; rintro e w' ⟨rfl, rfl⟩) | (go_at_call 28; refine (keys_any _ _).mono ?_; rintro e w' ⟨rfl, rfl⟩))
  refine (sorted_any w.heap.size (h + 2) nb us _ (Blk.new' _ _ rfl) hD1.ver (by omega)).mono ?_
  rintro e w1 ⟨A', c', rfl, hrow, hb⟩
  have hb1 := bl_tr (bl_alloc (Below.refl _ _) (.cells #[.map (some (h + 2))] 53)) hb
  have hrow1 : w1.ownsRow w.heap.size 3 1 (.slice A' us.length c') us.length (us.map fun p => .int .i64 p.1) := by
    obtain ⟨h1, h2 | ⟨g, cap, cur, h2, h3, r⟩⟩ := hrow
    · exact ⟨h1, .inl h2⟩
    · exact ⟨h1, .inr ⟨g, cap, cur, h2, by simp at h3; omega, r⟩⟩
  have D1 := D.below hb1
  have F1 := FrD.of_below (h := h) us hb1
  clear hb hrow hb1 q
  go_wp2_with fail
  go_loopw [17] (fun u wr => ∃ j : Nat, j ≤ us.length ∧ u = .int .i64 j ∧ CrRel w h nb us d cs A' c' j wr) (fun u _ => us.length - (intOf u).toNat)
  case atStart => exact ⟨0, Nat.zero_le _, rfl, by simpa [crashL] using D1, F1, hrow1⟩
  case round =>
    obtain ⟨j, hj, rfl, D2, F2, hR2⟩ := hrel
    clear D1 F1 hrow1
    obtain ⟨O2, k2, k3, k4, k5⟩ := crashL_ok (d.vs.take j) d cs N hO (fun p hpm => hv256 p (List.mem_of_mem_take hpm))
    by_cases hlt : j < us.length
    · have hltv : j < d.vs.length := by omega
      have hsn : crashL d (d.vs.take (j + 1)) cs = crash1 (crashL d (d.vs.take j) cs) d.vs[j] (cs[j]?.getD 0) := by
        rw [List.take_succ_eq_append_getElem hltv, crashL_snoc, List.length_take, Nat.min_eq_left (by omega)]
      obtain ⟨A3, c3, e3, htl⟩ := ownsRow_tells hR2
      cases e3
      obtain ⟨g, rfl, hgb, hgl, hcell⟩ := htl (by omega)
      have hck : wr.cell? ⟨g, j, none⟩ = some (.int .i64 us[j].1) := hcell j _ (by simp [hlt])
      clear htl hcell
      have hkey : us[j].1 = d.vs[j].1 := by
        have h1 : (us.map (·.1))[j]? = (d.vs.map (·.1))[j]? := by rw [D.keys]
        simpa [hlt, hltv] using h1
      have hlu : lookI us us[j].1 = some us[j].2 := lookI_mem (D.ver.sorted Try.underlying3) (List.getElem_mem _)
      have hlv : lookI d.vs d.vs[j].1 = some d.vs[j].2 := lookI_mem D.sorted (List.getElem_mem _)
      obtain ⟨i0, i1, hne, hlN, hl256⟩ := hO.vs _ _ hlv
      obtain ⟨l', A4, c4, hl', hv4, hr4⟩ := D2.rows _ _ hlu
      rw [k2, hkey, hlv] at hl'
      cases hl'
      rw [hkey] at hlu hck
      generalize d.vs[j] = p at hsn hlu hck i0 i1 hne hlN hl256 hv4 hr4
      generalize us[j].2 = v at hlu hv4 hr4
      clear hkey hlv
      obtain ⟨i, l⟩ := p
      dsimp only at *
      obtain ⟨k, rfl⟩ : ∃ k : Nat, i = k := ⟨i.toNat, by omega⟩
      have hl0 : l.length ≠ 0 := fun e => hne (List.length_eq_zero_iff.1 e)
      obtain ⟨gv, cv, rfl, hgvb, hgv, hgr⟩ := row_range hr4 hl256 hl0
      clear hv4 hr4
      have hcs2 := hcs.fr F2
      have hloadv := D2.ver.look Try.underlying3 Try.underlying53 (z := .slice none 0 0) Try.zeroValue51 (k := (k : Int)) (by have := hO.len.2; omega)
      rw [hlu] at hloadv
      have hkt : k < (crashL d (d.vs.take j) cs).ts.length := by rw [k3]; omega
      rw [← k3] at hp
      generalize crashL d (d.vs.take j) cs = dj at *
      replace hsn := Lib.hid hsn
      have q2 := D2.box.cell
      have hkt2 : (k : Int) < (dj.ts.length : Int) := by omega
      by_cases hjc : j < cs.length
      · obtain ⟨bc, oc, rfl, hbc, _, _, hcc, hok⟩ := hcs2 j hjc
        have hcj : cs[j]?.getD 0 = cs[j] := by simp [hjc]
        rw [hcj] at hsn
        generalize cs[j] = cj at *
        clear hcs2
        unfold okI at hok
        by_cases hc1 : 0 < cj ∧ cj ≤ l.length
        · obtain ⟨m, rfl⟩ : ∃ m : Nat, cj = (m : Int) + 1 := ⟨(cj - 1).toNat, by omega⟩
          have hm : m < l.length := by omega
          have hrm := hgr m hm
          have hlm := hl256 _ (List.getElem_mem hm)
          have hsn1 : crash1 dj (k, l) ((m : Int) + 1) = { dj with ts := dj.ts.set k l[m], bad := delI dj.bad k } := by
            unfold crash1
            rw [if_pos hc1]
            have e1 : ((m : Int) + 1 - 1).toNat = m := by omega
            dsimp only
            rw [e1, List.getElem?_eq_getElem hm]
            rfl
          have hsn2 := Lib.hid (hsn.out.trans hsn1)
          clear hsn hsn1
          obtain ⟨hc1a, hc1b⟩ := hc1
          have hw1 : IntKind.i64.wrap (m : Int) = m := by rw [IntKind.wrap_i64]; omega
          have hdd : decide ((m : Int) + 1 ≤ (l.length : Int)) = true := by simpa using hc1b
          have hml : (m : Int) < (l.length : Int) := by omega
          go_wp2_with fail
          have D3 := D2.below (bl_drew (Below.refl _ _))
          have q3 := D3.box.cell
          have hrm3 : wr.drew.rangeAt gv (m * 256) (tC l[m]) := hrm
          have hrange : l[m].length = 256 := hlm
          generalize l[m] = tm at *
          go_still_tail 11, (by kernel_rfl)
          refine wpStill_load_mid rfl 58 _ rfl gv (m * 256) (tC tm) rfl hrm3 _ Try.underlying58 rfl (by rw [tC_length, hrange]; exact size58) ?_
          repeat still_step
          try refine wpStill_nil ?_
          change wpList _ _ _ _ _ (wr.drew)
          have hk62 : -9223372036854775808 ≤ (k : Int) ∧ (k : Int) ≤ 9223372036854775807 := by have := hO.len.2; omega
          go_wp2_with (first
            | (refine wpList_store_mid rfl 58 _ _ rfl h (k * 256) (tC tm).toArray rfl rfl (by rw [List.size_toArray, tC_length, hrange]; exact D3.thereT O2.tx k hkt) (by rw [List.size_toArray, tC_length, hrange]; exact size58) (all_oneCell_toArray tC_one) ?nxa; case' nxa => obtain ⟨w4, hw4⟩ : ∃ w4, (wr.drew).setCells h (k * 256) (tC tm).toArray.toList = w4 := ⟨_, rfl⟩; rw [hw4]; have D4 := hw4 ▸ D3.setT O2.tx k hkt tm hrange; have F4 : FrD w w4 h us us := (F2.trb (bl_drew (Below.refl _ _))).grown D.lt (by omega) (hw4 ▸ gr_setCells _ _ _ (World.grownBy.refl _ _)); have hR4 : w4.ownsRow w.heap.size 3 1 (.slice (some ⟨g, 0, none⟩) us.length c') us.length (us.map fun p => .int .i64 p.1) := hw4 ▸ ownsRow_keep (ownsRow_keep (w' := wr.drew) hR2 (fun _ _ => rfl)) (fun b hb => (gr_setCells (a := wr.drew) (b := h) (tC tm).toArray.toList (k * 256) wr.drew (World.grownBy.refl _ _)).block b (ownsRow_lt hR2 hb) (by have := ownsRow_base hR2 hb; have := D.lt; simp; omega)); have q4 := D4.box.cell)
            | (refine wpList_delete_im rfl _ _ 52 rfl Try.underlying3 Try.underlying52 (h + 1) (nb + j) rfl D4.bad (k : Int) rfl hk62 ?nxb; case' nxb => intro w5 M5 g5; have D5 := D4.turnB g5 (Nat.le_refl _) M5; have F5 := F4.grown D.lt (by omega) g5; have hR5 := ownsRow_keep hR4 (fun b hb => g5.block b (ownsRow_lt hR4 hb) (by have := ownsRow_base hR4 hb; have := D.lt; simp; omega))))
          go_roundw
          case rel =>
            refine ⟨j + 1, by omega, by go_num, ?_, F5, hR5⟩
            rw [hsn2.out]
            exact D5.mono (by omega)
          case measure => simp [intOf]; omega
        · by_cases hc0 : cj = 0
          · subst hc0
            have hsn1 : crash1 dj (k, l) 0 = dj := by unfold crash1; rw [if_neg (by omega), if_pos rfl]
            have hsn2 := Lib.hid (hsn.out.trans hsn1)
            clear hsn hsn1 hc1
            go_wp2_with fail
            go_roundw
            case rel =>
              refine ⟨j + 1, by omega, by go_num, ?_, F2, hR2⟩
              rw [hsn2.out]
              exact D2.mono (by omega)
            case measure => simp [intOf]; omega
          · have hsn1 : crash1 dj (k, l) cj = { dj with bad := putI dj.bad k true } := by unfold crash1; rw [if_neg hc1, if_neg hc0]
            have hsn2 := Lib.hid (hsn.out.trans hsn1)
            have hk62 : -9223372036854775808 ≤ (k : Int) ∧ (k : Int) ≤ 9223372036854775807 := by have := hO.len.2; omega
            have hc01 : (cj == 0) = false := by simpa using hc0
            have hc02 : (cj != 0) = true := by simpa using hc0
            have hnn : nb + j < maxLen := by simp only [maxLen]; omega
            have hcase : (0 < cj ∧ decide (cj ≤ (l.length : Int)) = false) ∨ decide (0 < cj) = false := by
              by_cases h0 : 0 < cj
              · exact .inl ⟨h0, by simp; omega⟩
              · exact .inr (by simpa using h0)
            clear hsn hsn1 hc1 hc0
            rcases hcase with ⟨hca, hcb⟩ | hca
            · go_wp2_with (refine wpList_mapUpdate_im (enc := Value.bool) rfl _ _ _ 52 rfl Try.underlying3 Try.underlying52 (h + 1) (nb + j) rfl D2.bad hnn (k : Int) rfl hk62 true rfl ?nxc; case' nxc => intro w5 M5 g5; have D5 := D2.turnB g5 (Nat.le_succ _) M5; have F5 := F2.grown D.lt (by omega) g5; have hR5 := ownsRow_keep hR2 (fun b hb => g5.block b (ownsRow_lt hR2 hb) (by have := ownsRow_base hR2 hb; have := D.lt; simp; omega)))
              go_roundw
              case rel =>
                refine ⟨j + 1, by omega, by go_num, ?_, F5, hR5⟩
                rw [hsn2.out]
                exact D5.mono (by omega)
              case measure => simp [intOf]; omega
            · go_wp2_with (refine wpList_mapUpdate_im (enc := Value.bool) rfl _ _ _ 52 rfl Try.underlying3 Try.underlying52 (h + 1) (nb + j) rfl D2.bad hnn (k : Int) rfl hk62 true rfl ?nxd; case' nxd => intro w5 M5 g5; have D5 := D2.turnB g5 (Nat.le_succ _) M5; have F5 := F2.grown D.lt (by omega) g5; have hR5 := ownsRow_keep hR2 (fun b hb => g5.block b (ownsRow_lt hR2 hb) (by have := ownsRow_base hR2 hb; have := D.lt; simp; omega)))
              go_roundw
              case rel =>
                refine ⟨j + 1, by omega, by go_num, ?_, F5, hR5⟩
                rw [hsn2.out]
                exact D5.mono (by omega)
              case measure => simp [intOf]; omega
      · have hcj : cs[j]?.getD 0 = 0 := by rw [List.getElem?_eq_none (by omega)]; rfl
        rw [hcj] at hsn
        have hsn1 : crash1 dj (k, l) 0 = dj := by unfold crash1; rw [if_neg (by omega), if_pos rfl]
        have hsn2 := Lib.hid (hsn.out.trans hsn1)
        clear hsn hsn1 hcj hcs2
        go_wp2_with fail
        go_roundw
        case rel =>
          refine ⟨j + 1, by omega, by go_num, ?_, F2, hR2⟩
          rw [hsn2.out]
          exact D2.mono (by omega)
        case measure => simp [intOf]; omega
    · obtain rfl : j = us.length := by omega
      have htk : d.vs.take us.length = d.vs := List.take_of_length_le (by omega)
      rw [htk] at D2 k2 k3 k4 k5
      have q2 := D2.box.cell
      go_wp2_with (refine wpList_clear_im rfl _ 53 rfl Try.underlying53 (h + 2) (nb + us.length) rfl D2.ver ?nxe; case' nxe => intro w5 M5 g5; have D5 := D2.turnV g5 M5; have F5 := (F2.grown D.lt (by omega) g5).none; have q5 := D5.box.cell; have u5 := D5.box.unf; have l5 := D5.box.lt)
      go_end0
      refine ⟨rfl, ?_, (F5.set D.lt (by omega) _ _).set D.lt (by omega) _ _⟩
      rw [← hlen]
      exact D5.pow false (-1)
end Go.Proofs.Yteaenhmiomoocaa
