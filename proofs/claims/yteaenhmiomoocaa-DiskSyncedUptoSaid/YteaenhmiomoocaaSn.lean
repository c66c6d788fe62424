/- The walk of DiskSynced. -/
import Derived.Test.YteaenhmiomoocaaSo
import Derived.Deep.OwnRows
namespace Go.Proofs.Yteaenhmiomoocaa
open Go.RowKit Go.Shelf Go.Maps

theorem size32 : (Try.prog.info? 32).map (·.size) = some 6 := by kernel_rfl
theorem info4 : (Try.prog.info? 4).map (fun i => (i.zero, i.size, i.bytes)) = some (some (.bool false), 1, 1) := by kernel_rfl
theorem make37 (w : World) : (Instr.makeSlice 37 (.int .i64 6) (.int .i64 6)).run Try.prog w = .ok (.slice (some ⟨w.heap.size, 0, none⟩) 6 6) (w.alloc (.cells #[.slice none 0 0, .slice none 0 0, .slice none 0 0, .slice none 0 0, .slice none 0 0, .slice none 0 0] 30)) := by
  have h := run_make_row' (P := Try.prog) 37 30 (.slice none 0 0) 24 Try.underlying37 info30 rfl .i64 .i64 6 (by omega) (by omega) w
  have e : madeCells #[.slice none 0 0] 6 = #[.slice none 0 0, .slice none 0 0, .slice none 0 0, .slice none 0 0, .slice none 0 0, .slice none 0 0] := by kernel_rfl
  rw [e] at h
  exact h
theorem make44 (w : World) : (Instr.makeSlice 44 (.int .i64 6) (.int .i64 6)).run Try.prog w = .ok (.slice (some ⟨w.heap.size, 0, none⟩) 6 6) (w.alloc (.cells #[.bool false, .bool false, .bool false, .bool false, .bool false, .bool false] 4)) := by
  have h := run_make_row' (P := Try.prog) 44 4 (.bool false) 1 Try.underlying44 info4 rfl .i64 .i64 6 (by omega) (by omega) w
  have e : madeCells #[.bool false] 6 = #[.bool false, .bool false, .bool false, .bool false, .bool false, .bool false] := by kernel_rfl
  rw [e] at h
  exact h
theorem fill_set (gs : List Nat) (k g : Nat) (hk : gs.length = k) (h6 : k < 6) : (gs.map slV ++ List.replicate (6 - k) (Value.slice none 0 0)).set k (slV g) = (gs ++ [g]).map slV ++ List.replicate (6 - (k + 1)) (Value.slice none 0 0) := by
  obtain ⟨m, hm⟩ : ∃ m, 6 - k = m + 1 := ⟨6 - k - 1, by omega⟩
  rw [hm, show 6 - (k + 1) = m from by omega, List.replicate_succ, List.set_append_right _ _ (by simp [hk])]
  simp [hk]

/-- The operations, their cells one by one. -/
def Ops6 (w : World) (A : Option Addr) (l : List OpD) : Prop :=
  ∀ i (h : i < l.length), ∃ b o A1 n1 c1 A2 n2 c2, A = some ⟨b, o, none⟩ ∧ b < w.heap.size ∧ okI l[i].i ∧
    w.rangeAt b (o + i * 6) [.int .i64 l[i].k, .int .i64 l[i].i, .int .i64 l[i].n, .slice A1 n1 c1, .int .u8 (l[i].f.toNat : Int), .slice A2 n2 c2]
theorem Ops6.below {w w' : World} {A : Option Addr} {l : List OpD} (h : Ops6 w A l) (hb : Below w.heap.size w w') : Ops6 w' A l := fun i hi => by
  obtain ⟨b, o, A1, n1, c1, A2, n2, c2, hA, hlt, hk, hc⟩ := h i hi
  exact ⟨b, o, A1, n1, c1, A2, n2, c2, hA, Nat.lt_of_lt_of_le hlt hb.size, hk, fun j u hu => (hb.cell (p := ⟨b, o + i * 6 + j, none⟩) hlt).trans (hc j u hu)⟩

/-- What the rounds keep. -/
structure SnRel (w : World) (h bS bL bT i : Nat) (wr : World) (us : List (Int × Value)) (d : Dsk) (N : Nat) (gS gL : List Nat) (sT lT : List Tx) (dT : List Bool) : Prop where
  D : DkAt wr h i us d
  O : d.Ok N
  N : N ≤ i
  len : d.ts.length = 6
  off : d.off = false
  fuse : d.fuse = -1
  S : Own wr h bS 30 (gS.map slV)
  L : Own wr h bL 30 (gL.map slV)
  T : Own wr h bT 4 (dT.map Value.bool)
  tS : Txs wr h gS sT
  tL : Txs wr h gL lT
  inv : SyInv d sT lT dT
  b : Below w.heap.size w wr

theorem SnRel.below {w wr w' : World} {h bS bL bT i N : Nat} {us : List (Int × Value)} {d : Dsk} {gS gL : List Nat} {sT lT : List Tx} {dT : List Bool} (H : SnRel w h bS bL bT i wr us d N gS gL sT lT dT) (hb : Below wr.heap.size wr w') : SnRel w h bS bL bT i w' us d N gS gL sT lT dT :=
  ⟨H.D.below hb, H.O, H.N, H.len, H.off, H.fuse, H.S.below hb, H.L.below hb, H.T.below hb, H.tS.below hb, H.tL.below hb, H.inv, bl_tr H.b hb⟩
theorem opCells_one {o : OpD} {A1 A2 : Option Addr} {n1 c1 n2 c2 : Nat} : ∀ v ∈ ([.int .i64 o.k, .int .i64 o.i, .int .i64 o.n, .slice A1 n1 c1, .int .u8 (o.f.toNat : Int), .slice A2 n2 c2] : List Value), v.oneCell' = true := by
  intro v hv
  simp at hv
  rcases hv with rfl | rfl | rfl | rfl | rfl | rfl <;> rfl

set_option maxRecDepth 100000 in
set_option maxHeartbeats 4000000 in
theorem synced_any (A : Option Addr) (c : Nat) (l : List OpD) (A2 : Option Addr) (c2 : Nat) (cs : List Int) (w : World) (hl : Ops6 w A l) (hll : l.length ≤ 1048576) (hcs : NumsAt w A2 cs) (hcl : cs.length ≤ 1048576) :
    Calls Try.prog 6 #[.slice A l.length c, .slice A2 cs.length c2] w fun e w' => e = .returned (.bool true) ∧ Below w.heap.size w w' := by
  have hmx : 2000000 < maxLen := by simp only [maxLen]; omega
  have hmk := make37
  obtain ⟨i3, hi3, hy0, hy1, hy2⟩ := info_parts info3
  have hmk4 := make44
  go_enter Try.func6, Try.ntmps6
  go_wp2_with fail
  refine (new_ok 6 w (by omega) (by omega)).mono ?_
  rintro e w1 ⟨rfl, D1, b1⟩
  go_wp2_with (first | (go_at_call 10; refine (num_any _ _).mono ?_; rintro e w' ⟨rfl, rfl⟩))
  refine (knows_any _).mono ?_
  rintro e w2 ⟨rfl, b2⟩
  have D2 := D1.below b2
  have b2' := bl_tr b1 b2
  clear D1 b1 b2
  have hl2 := D2.lt
  go_wp2_with fail
  obtain ⟨w3, hw3⟩ : ∃ w3, ((w2.alloc (.cells #[.slice none 0 0, .slice none 0 0, .slice none 0 0, .slice none 0 0, .slice none 0 0, .slice none 0 0] 30)).alloc (.cells #[.slice none 0 0, .slice none 0 0, .slice none 0 0, .slice none 0 0, .slice none 0 0, .slice none 0 0] 30)).alloc (.cells #[.bool false, .bool false, .bool false, .bool false, .bool false, .bool false] 4) = w3 := ⟨_, rfl⟩
  have b23 : Below w2.heap.size w2 w3 := hw3 ▸ bl_alloc (bl_alloc (bl_alloc (Below.refl _ _) _) _) _
  have D3 := D2.below b23
  have b3 := bl_tr b2' b23
  have S3 : Own w3 w.heap.size w2.heap.size 30 (List.replicate 6 (Value.slice none 0 0)) := hw3 ▸ ⟨((Blk.new' _ _ rfl).alloc _).alloc _, ((TyAt.new _ _ _).below (bl_alloc (bl_alloc (Below.refl _ _) _) _)), by omega⟩
  have L3 : Own w3 w.heap.size (w2.heap.size + 1) 30 (List.replicate 6 (Value.slice none 0 0)) := hw3 ▸ ⟨(Blk.new' _ _ (by simp)).alloc _, by
    have := (TyAt.new (w2.alloc (.cells #[.slice none 0 0, .slice none 0 0, .slice none 0 0, .slice none 0 0, .slice none 0 0, .slice none 0 0] 30)) #[.slice none 0 0, .slice none 0 0, .slice none 0 0, .slice none 0 0, .slice none 0 0, .slice none 0 0] 30).below (bl_alloc (Below.refl _ _) (.cells #[.bool false, .bool false, .bool false, .bool false, .bool false, .bool false] 4))
    simpa using this, by omega⟩
  have T3 : Own w3 w.heap.size (w2.heap.size + 1 + 1) 4 ((List.replicate 6 false).map Value.bool) := hw3 ▸ ⟨Blk.new' _ _ (by simp), by
    have := TyAt.new ((w2.alloc (.cells #[.slice none 0 0, .slice none 0 0, .slice none 0 0, .slice none 0 0, .slice none 0 0, .slice none 0 0] 30)).alloc (.cells #[.slice none 0 0, .slice none 0 0, .slice none 0 0, .slice none 0 0, .slice none 0 0, .slice none 0 0] 30)) #[.bool false, .bool false, .bool false, .bool false, .bool false, .bool false] 4
    simpa using this, by omega⟩
  try rw [hw3]
  have hz3 := b23.size
  clear D2 b2' b23 hw3
  generalize hbS : w2.heap.size = bS at *
  clear hbS
  have hne1 : bS ≠ bS + 1 := by omega
  go_loopw [10] (fun u wr => ∃ (k : Nat) (gS gL : List Nat), k ≤ 6 ∧ u = .int .i64 k ∧ gS.length = k ∧ gL.length = k ∧ DkAt wr w.heap.size 0 [] (newD 6) ∧ Own wr w.heap.size bS 30 (gS.map slV ++ List.replicate (6 - k) (Value.slice none 0 0)) ∧
      Own wr w.heap.size (bS + 1) 30 (gL.map slV ++ List.replicate (6 - k) (Value.slice none 0 0)) ∧ Own wr w.heap.size (bS + 1 + 1) 4 ((List.replicate 6 false).map Value.bool) ∧ Txs wr w.heap.size gS (List.replicate k zeroT) ∧ Txs wr w.heap.size gL (List.replicate k zeroT) ∧ Below w.heap.size w wr) (fun u _ => 6 - (intOf u).toNat)
  case atStart => exact ⟨0, [], [], by omega, rfl, rfl, rfl, D3, S3, L3, T3, ⟨rfl, fun j g t h => by simp at h⟩, ⟨rfl, fun j g t h => by simp at h⟩, b3⟩
  case round =>
    obtain ⟨k, gS, gL, hk, rfl, hgS, hgL, D4, S4, L4, T4, XS, XL, b4⟩ := hrel
    clear D3 S3 L3 T3 b3
    by_cases hlt : k < 6
    · have hkI : (k : Int) < 6 := by omega
      have hS := Lib.hid (fill_set gS k · hgS hlt)
      have hL := Lib.hid (fill_set gL k · hgL hlt)
      have l4 := D4.lt
      go_wp2_with (first | (go_at_call 14; refine (full_ty 0 _).mono ?_; rintro e wA ⟨rfl, BA, TA, bA⟩; have SA := S4.below bA; have LA := L4.below bA; have cA := SA.blk.cell k; rw [List.getElem?_append_right (by simp [hgS]), List.getElem?_replicate, if_pos (by simp [hgS]; omega)] at cA; have uA := SA.blk.unf; have lA := SA.blk.lt))
      obtain ⟨wB, hwB⟩ : ∃ wB, wA.setCell ⟨bS, k, none⟩ (.slice (some ⟨wr.heap.size, 0, none⟩) 256 256) = wB := ⟨_, rfl⟩
      have hsz : wB.heap.size = wA.heap.size := by rw [← hwB]; simp [World.setCell]
      have hTS := SA.ty
      have G1 : Own wA w.heap.size wr.heap.size 5 (tC zeroT) := ⟨BA, TA, by omega⟩
      have DB : DkAt wB w.heap.size 0 [] (newD 6) := hwB ▸ (D4.below bA).set_hi hTS (by decide) SA.lo _ _
      have SB := SA.set k (slV wr.heap.size)
      rw [hS.out] at SB
      replace SB : Own wB w.heap.size bS 30 _ := hwB ▸ SB
      have LB : Own wB w.heap.size (bS + 1) 30 _ := hwB ▸ LA.set_ne hne1 _ _
      have TB : Own wB w.heap.size (bS + 1 + 1) 4 _ := hwB ▸ (T4.below bA).set_ne (by omega) _ _
      have XSB : Txs wB w.heap.size (gS ++ [wr.heap.size]) (List.replicate (k + 1) zeroT) := by
        rw [List.replicate_succ']
        exact hwB ▸ (((XS.below bA).snoc G1).setOther hTS (by decide) _ _)
      have XLB : Txs wB w.heap.size gL (List.replicate k zeroT) := hwB ▸ ((XL.below bA).setOther hTS (by decide) _ _)
      have bB : Below w.heap.size w wB := hwB ▸ bl_set (bl_tr b4 bA) (by have := SA.lo; simp; omega) _
      rw [hwB]
      clear D4 S4 L4 T4 XS XL b4 BA TA bA SA LA cA uA lA hTS G1
      go_wp2_with (first | (go_at_call 14; refine (full_ty 0 _).mono ?_; rintro e wC ⟨rfl, BC, TC, bC⟩; have LC := LB.below bC; have cC := LC.blk.cell k; rw [List.getElem?_append_right (by simp [hgL]), List.getElem?_replicate, if_pos (by simp [hgL]; omega)] at cC; have uC := LC.blk.unf; have lC := LC.blk.lt))
      have hTL := LC.ty
      have hlB := DB.lt
      rw [hsz] at BC TC
      have G2 : Own wC w.heap.size wA.heap.size 5 (tC zeroT) := ⟨BC, TC, by omega⟩
      have LD := LC.set k (slV wA.heap.size)
      rw [hL.out] at LD
      go_roundw
      case rel =>
        refine ⟨k + 1, gS ++ [wr.heap.size], gL ++ [wA.heap.size], by omega, by go_num, by simp [hgS], by simp [hgL], (DB.below bC).set_hi hTL (by decide) LC.lo _ _, (SB.below bC).set_ne (by omega) _ _, LD, (TB.below bC).set_ne (by omega) _ _, (XSB.below bC).setOther hTL (by decide) _ _, ?_, bl_set (bl_tr bB bC) (by have := LC.lo; simp; omega) _⟩
        rw [List.replicate_succ']
        exact ((XLB.below bC).snoc G2).setOther hTL (by decide) _ _
      case measure => simp [intOf]; omega
    · obtain rfl : k = 6 := by omega
      rw [Nat.sub_self, List.replicate_zero, List.append_nil] at S4 L4
      have R0 : SnRel w w.heap.size bS (bS + 1) (bS + 1 + 1) 0 wr [] (newD 6) 0 gS gL (List.replicate 6 zeroT) (List.replicate 6 zeroT) (List.replicate 6 false) :=
        ⟨D4, newD_ok 6 (by omega), Nat.le_refl _, by simp [newD], rfl, rfl, S4, L4, T4, XS, XL, ⟨rfl, by simp [newD], by simp [newD], fun j t h => by
          simp only [newD, lookI, List.find?_nil, Option.map_none, Option.getD_none]
          rw [h]; rfl, fun j b h => (by
          rw [List.getElem?_replicate] at h
          split at h
          · cases h; rfl
          · cases h), rfl⟩, b4⟩
      clear D4 S4 L4 T4 XS XL b4
      go_wp2_with fail
      go_loopw [11] (fun u wr => ∃ (i : Nat) (us : List (Int × Value)) (d : Dsk) (N : Nat) (gS gL : List Nat) (sT lT : List Tx) (dT : List Bool), i ≤ l.length ∧ u = .int .i64 i ∧ SnRel w w.heap.size bS (bS + 1) (bS + 1 + 1) i wr us d N gS gL sT lT dT) (fun u _ => l.length - (intOf u).toNat)
      case atStart => exact ⟨0, _, _, _, _, _, _, _, _, by omega, rfl, R0⟩
      case round =>
        obtain ⟨i, us, d, N, gS, gL, sT, lT, dT, hi, rfl, R4⟩ := hrel
        clear R0 hgS hgL hlt
        by_cases hlt : i < l.length
        · obtain ⟨b, o, A1, n1, cc1, A3, n3, c3, rfl, hbl, hok, hrng⟩ := (hl.below R4.b) i hlt
          obtain ⟨M, hM, hMe0⟩ := mod_nat l[i].i 6 hok (by omega) (by omega)
          have hMe : (IntKind.i64.wrap (l[i].i.tmod 6 + 6)).tmod 6 = (M : Int) := hMe0
          have hMe2 : (wrap64 (l[i].i.tmod 6 + 6)).tmod 6 = (M : Int) := by rw [← wrapEq]; exact hMe0
          generalize l[i] = x at hrng hok hMe hMe2
          clear hMe0
          unfold okI at hok
          have hltI : (i : Int) < (l.length : Int) := by omega
          have hlD := R4.D.lt
          have hN5 : N < 549755813888 := by have := R4.N; omega
          have him : i < maxLen := by omega
          have hMt : 0 ≤ (M : Int) ∧ (M : Int) < d.ts.length := by rw [R4.len]; omega
          by_cases hk : x.k = 1
          · have hk1 : (x.k == 1) = true := by simpa using hk
            rw [hk] at hrng
            go_wp2_with (first
              | (refine wpList_load_mid rfl 32 _ rfl b (o + i * 6) rfl [.int .i64 1, .int .i64 x.i, .int .i64 x.n, .slice A1 n1 cc1, .int .u8 (x.f.toNat : Int), .slice A3 n3 c3] _ hrng Try.underlying32 rfl size32 ?_)
              | (refine wpList_store_blk rfl 32 _ _ rfl wr.heap.size [.int .i64 0, .int .i64 0, .int .i64 0, .slice none 0 0, .int .u8 0, .slice none 0 0] [.int .i64 1, .int .i64 x.i, .int .i64 x.n, .slice A1 n1 cc1, .int .u8 (x.f.toNat : Int), .slice A3 n3 c3] rfl rfl (Blk.new' _ _ rfl) rfl size32 (opCells_one (o := ⟨1, x.i, x.n, [], x.f, []⟩)) ?nxb; case' nxb => intro w5 B5 hg5 hz5; have b5 := bl_gr (bl_alloc (Below.refl _ _) _) hg5 (Nat.le_refl _); have R5 := R4.below b5; have q5 := B5.cell)
              | (go_at_call 12; refine (sync_any w.heap.size i us d N w5 R5.D R5.O hN5).mono ?_; rw [syncD_live R5.off R5.fuse]; rintro e w6 ⟨rfl, us6, D6, F6⟩)
              | (go_at_call 10; refine (num_any _ _).mono ?_; rintro e w' ⟨rfl, rfl⟩))
            have S6 := R5.S.fr R5.D F6 (by decide)
            have L6 := R5.L.fr R5.D F6 (by decide)
            have T6 := R5.T.fr R5.D F6 (by decide)
            have X6 := R5.tL.fr R5.D F6
            have b6 : Below w.heap.size w w6 := R5.b.trans (F6.below (n0 := w.heap.size) (Nat.le_refl _) (fun i v g h1 h2 => by have := (R5.D.base h1 h2).1; omega) R5.b.size)
            have hlS : gS.length = 6 := by have h1 := R5.tS.1; have h2 := congrArg List.length R5.inv.ls; have h3 := R5.len; omega
            have hlL : gL.length = 6 := by have := R5.tL.1; have := R5.inv.ll; have := R5.len; omega
            have hlT : dT.length = 6 := by have := R5.inv.ld; have := R5.len; omega
            have inv6 := R5.inv.sync
            rw [hlT] at inv6
            have O6 := syncS_ok R5.O
            have len6 : (syncS d).ts.length = 6 := by simp only [syncS, syncT_length]; exact R5.len
            have off6 : (syncS d).off = false := R5.off
            have fuse6 : (syncS d).fuse = -1 := R5.fuse
            have hNi := R5.N
            replace D6 := D6.mono (show i ≤ i + 1 by omega)
            clear R5 R4 B5 hg5 hz5 b5 q5 F6 hrng hMe hMe2
            generalize syncS d = d6 at *
            go_loopw [14] (fun u wr => ∃ n : Nat, n ≤ 6 ∧ u = .int .i64 n ∧ DkAt wr w.heap.size (i + 1) us6 d6 ∧ Own wr w.heap.size bS 30 ((gL.take n ++ gS.drop n).map slV) ∧ Own wr w.heap.size (bS + 1) 30 (gL.map slV) ∧ Own wr w.heap.size (bS + 1 + 1) 4 ((List.replicate n false ++ dT.drop n).map Value.bool) ∧ Txs wr w.heap.size gL lT ∧ Below w.heap.size w wr) (fun u _ => 6 - (intOf u).toNat)
            case atStart => exact ⟨0, by omega, rfl, D6, by simpa using S6, L6, by simpa using T6, X6, b6⟩
            case round =>
              obtain ⟨n, hn, rfl, D7, S7, L7, T7, X7, b7⟩ := hrel
              clear D6 S6 L6 T6 X6 b6
              by_cases hnl : n < 6
              · have hnI : (n : Int) < 6 := by omega
                have cL : wr.cell? ⟨bS + 1, n, none⟩ = some (slV (gL[n]'(by omega))) := L7.blk.get (by simp [hlL, hnl])
                have cS : wr.cell? ⟨bS, n, none⟩ = some (slV (gS[n]'(by omega))) := S7.blk.get (by rw [List.getElem?_map, List.getElem?_append_right (by simp; omega)]; simp [hlL, hlS, hnl, Nat.min_eq_left (show n ≤ 6 by omega)])
                have cT : wr.cell? ⟨bS + 1 + 1, n, none⟩ = some (.bool (dT[n]'(by omega))) := T7.blk.get (by rw [List.getElem?_map, List.getElem?_append_right (by simp)]; simp [hlT, hnl])
                have hsetS : (gL.take n ++ gS.drop n).set n (gL[n]'(by omega)) = gL.take (n + 1) ++ gS.drop (n + 1) := by
                  rw [List.set_append_right _ _ (by simp; omega), List.length_take, Nat.min_eq_left (by omega), Nat.sub_self, List.drop_eq_getElem_cons (by omega), List.set_cons_zero, List.take_succ_eq_append_getElem (by omega), List.append_assoc]
                  rfl
                have hsetT : (List.replicate n false ++ dT.drop n).set n false = List.replicate (n + 1) false ++ dT.drop (n + 1) := by
                  rw [List.set_append_right _ _ (by simp), List.length_replicate, Nat.sub_self, List.drop_eq_getElem_cons (by omega), List.set_cons_zero, List.replicate_succ', List.append_assoc]
                  rfl
                have SD := S7.set n (slV (gL[n]'(by omega)))
                rw [← List.map_set, hsetS] at SD
                replace SD := SD.set_ne (b' := bS + 1 + 1) (by omega) n (.bool false)
                have TD := (T7.set_ne (b' := bS) (by omega) n (slV (gL[n]'(by omega)))).set n (.bool false)
                rw [← List.map_set, hsetT] at TD
                have uS := S7.blk.unf
                have lS := S7.blk.lt
                have uT := T7.blk.unf
                have lT' := T7.blk.lt
                have hTS := S7.ty
                have hTT := T7.ty
                generalize hgl : gL[n]'(by omega) = gn at *
                clear hgl hsetS hsetT
                unfold slV at cL cS
                go_wp2_with fail
                exact ⟨⟨n + 1, by omega, by go_num, (D7.set_hi hTS (by decide) S7.lo _ _).set_hi (hTT.setCell _ _) (by decide) T7.lo _ _, SD, (L7.set_ne (by omega) _ _).set_ne (by omega) _ _, TD, (X7.setOther hTS (by decide) _ _).setOther (hTT.setCell _ _) (by decide) _ _, bl_set (bl_set b7 (by simp; omega) _) (by simp; omega) _⟩, by simp [intOf]; omega⟩
              · obtain rfl : n = 6 := by omega
                rw [List.take_of_length_le (by omega), List.drop_of_length_le (by omega), List.append_nil] at S7
                rw [List.drop_of_length_le (by omega), List.append_nil] at T7
                go_wp2_with fail
                refine ⟨?_, ?measure4⟩
                (repeat apply Exists.intro)
                refine ⟨?rel4, rfl⟩
                case rel4 => exact ⟨i + 1, us6, d6, N, gL, gL, lT, lT, List.replicate 6 false, by omega, by go_num, ⟨D7, O6, by omega, len6, off6, fuse6, S7, L7, T7, X7, X7, inv6, b7⟩⟩
                case measure4 => simp [intOf]; omega
          · have hk1 : (x.k == 1) = false := by simpa using hk
            clear hk
            go_wp2_with (first
              | (refine wpList_load_mid rfl 32 _ rfl b (o + i * 6) rfl [.int .i64 x.k, .int .i64 x.i, .int .i64 x.n, .slice A1 n1 cc1, .int .u8 (x.f.toNat : Int), .slice A3 n3 c3] _ hrng Try.underlying32 rfl size32 ?_)
              | (refine wpList_store_blk rfl 32 _ _ rfl wr.heap.size [.int .i64 0, .int .i64 0, .int .i64 0, .slice none 0 0, .int .u8 0, .slice none 0 0] [.int .i64 x.k, .int .i64 x.i, .int .i64 x.n, .slice A1 n1 cc1, .int .u8 (x.f.toNat : Int), .slice A3 n3 c3] rfl rfl (Blk.new' _ _ rfl) rfl size32 opCells_one ?nxa; case' nxa => intro w5 B5 hg5 hz5; have b5 := bl_gr (bl_alloc (Below.refl _ _) _) hg5 (Nat.le_refl _); have R5 := R4.below b5; have q5 := B5.cell; have hz5' : w5.heap.size = wr.heap.size + 1 := by rw [hz5]; simp)
              | (go_at_call 14; have hx := FB; refine (full_ty x.f _).mono ?_; rintro e wC ⟨rfl, BC, TC, bC⟩; obtain ⟨g0, hg0⟩ : ∃ g0, gL[M]? = some g0 := ⟨_, List.getElem?_eq_getElem (by have := R4.tL.1; have := R4.inv.ll; have := R4.len; omega)⟩; obtain ⟨b0, hb0⟩ : ∃ b0, dT[M]? = some b0 := ⟨_, List.getElem?_eq_getElem (by have := R4.inv.ld; have := R4.len; omega)⟩; have cL : wC.cell? ⟨bS + 1, M, none⟩ = some (slV g0) := (LB.below bC).blk.get (by simp [hg0]); have cT : wC.cell? ⟨bS + 1 + 1, M, none⟩ = some (.bool b0) := (TB.below bC).blk.get (by simp [hb0]); have uL := (LB.below bC).blk.unf; have lL := (LB.below bC).blk.lt; have uT := (TB.below bC).blk.unf; have lT' := (TB.below bC).blk.lt)
              | (go_at_call 14; refine (full_ty x.f _).mono ?_; rintro e wA ⟨rfl, BA, TA, bA⟩; rw [hz5'] at BA TA)
              | (go_at_call 13; refine (write_live R5.D R5.O hN5 him R5.off R5.fuse bA (by omega) BA (fullT_length _) (M : Int) hMt 256).mono ?_; rintro e wB ⟨rfl, usB, DB, FB⟩; have LB := ((R5.L).below bA).fr (R5.D.below bA) FB (by decide); have TB := ((R5.T).below bA).fr (R5.D.below bA) FB (by decide); have qB : ∀ j, wB.cell? ⟨wr.heap.size, j, none⟩ = ([.int .i64 x.k, .int .i64 x.i, .int .i64 x.n, .slice A1 n1 cc1, .int .u8 (x.f.toNat : Int), .slice A3 n3 c3] : List Value)[j]? := fun j => (World.cell?_of_block (a := ⟨wr.heap.size, j, none⟩) (FB.block wr.heap.size (Nat.lt_of_lt_of_le B5.lt bA.size) (.inr hlD) (fun i v h1 h2 => absurd (R4.D.base h1 h2).2 (Nat.lt_irrefl _)))).trans ((bA.cell (p := ⟨wr.heap.size, j, none⟩) B5.lt).trans (q5 j)))
              | (go_at_call 10; refine (num_any _ _).mono ?_; rintro e w' ⟨rfl, rfl⟩))
            have b5A := b5.trans (bA.mono (by omega))
            have SB := ((R5.S).below bA).fr (R5.D.below bA) FB (by decide)
            have XSB := ((R5.tS).below bA).fr (R5.D.below bA) FB
            have XLB := ((R5.tL).below bA).fr (R5.D.below bA) FB
            have hlB := DB.lt
            have LC := LB.below bC
            have TC2 := TB.below bC
            have hTL := LC.ty
            have hTT := TC2.ty
            have bB : Below w.heap.size w wB := (bl_tr R4.b b5A).trans (FB.below (n0 := w.heap.size) (Nat.le_refl _) (fun i v g h1 h2 => by have := (R4.D.base h1 h2).1; omega) (bl_tr R4.b b5A).size)
            have G2 : Own wC w.heap.size wB.heap.size 5 (tC (fullT x.f)) := ⟨BC, TC, by omega⟩
            have LD := LC.set M (slV wB.heap.size)
            rw [← List.map_set] at LD
            have LD2 := LD.set_ne (b' := bS + 1 + 1) (by omega) M (.bool true)
            have TD := (TC2.set_ne (b' := bS + 1) (by omega) M (slV wB.heap.size)).set M (.bool true)
            rw [← List.map_set] at TD
            have hNi := R4.N
            refine ⟨?_, ?measure2⟩
            (repeat apply Exists.intro)
            refine ⟨?rel2, rfl⟩
            case rel2 =>
              refine ⟨i + 1, usB, _, N + 1, gS, gL.set M wB.heap.size, sT, lT.set M (fullT x.f), dT.set M true, by omega, by go_num, ⟨((DB.below bC).set_hi hTL (by decide) LC.lo _ _).set_hi (hTT.setCell _ _) (by decide) TC2.lo _ _, writeS_ok R4.O hMt (fullT_length _), by omega, R4.len, R4.off, R4.fuse, ((SB.below bC).set_ne (by omega) _ _).set_ne (by omega) _ _, LD2, TD, ((XSB.below bC).setOther hTL (by decide) _ _).setOther (hTT.setCell _ _) (by decide) _ _, (((XLB.below bC).set G2).setOther hTL (by decide) _ _).setOther (hTT.setCell _ _) (by decide) _ _, R4.inv.write M _, bl_set (bl_set (bl_tr bB bC) (by simp; omega) _) (by simp; omega) _⟩⟩
            case measure2 => simp [intOf]; omega
        · obtain rfl : i = l.length := by omega
          have hwl := R4.D.lt
          have hN5 : N < 549755813888 := by have := R4.N; omega
          have hsrc : SrcAt (wr.alloc (.cells #[] 3)) A2 cs.length 1 (cs.map (Value.int .i64)) := by
            refine ⟨by simp, fun h0 => ?_⟩
            obtain ⟨b, o, hA, _, _, _⟩ := hcs 0 (by omega)
            refine ⟨⟨b, o, none⟩, hA, fun j u hu => ?_⟩
            obtain ⟨x, hx, rfl⟩ : ∃ x, cs[j]? = some x ∧ Value.int .i64 x = u := by simpa using hu
            obtain ⟨hj, rfl⟩ := List.getElem?_eq_some_iff.1 hx
            obtain ⟨b', o', hA', hlt', hc', _⟩ := hcs j hj
            rw [hA] at hA'
            cases hA'
            rw [Addr.add_mid]
            exact ((bl_tr R4.b (bl_alloc (Below.refl _ _) (.cells #[] 3))).cell (p := ⟨b, o + j, none⟩) hlt').trans hc'
          have hown0 := ownsRow_empty wr 3 1 wr.heap.size (Nat.le_refl _)
          have hzl : (0 : Nat) + cs.length = cs.length := Nat.zero_add _
          go_wp2_with (at_builtin; refine wpList_append_srcT rfl _ _ 23 rfl wr.heap.size 3 i3 _ 1 8 Try.underlying23 hi3 hy0 hy1 hy2 rfl (by omega) (.slice (some ⟨wr.heap.size, 0, none⟩) 0 0) 0 [] rfl hown0 A2 cs.length c2 (cs.map (Value.int .i64)) rfl hsrc (fun u hu => by obtain ⟨x, _, rfl⟩ := List.mem_map.1 hu; rfl) ?h63 ?hby ?hba ?nxc; case' nxc => intro A7 c7 w7 hrow7 hg7; rw [hzl] at hrow7; rw [hzl])
          case h63 => omega
          case hby => omega
          case hba => simp
          have b7 : Below wr.heap.size wr w7 := (bl_alloc (Below.refl _ _) (.cells #[] 3)).grown hg7 (by simp) (fun g e => by simp [Value.ownBlock] at e; omega)
          have R7 := R4.below b7
          have hz7 := b7.size
          have hints : IntsAt w7 A7 cs w.heap.size us := fun j hj => by
            obtain ⟨A', c', e', ht⟩ := ownsRow_tells hrow7
            cases e'
            obtain ⟨g, rfl, hgb, hgl, hc⟩ := ht (by omega)
            refine ⟨g, 0, rfl, hgl, .inr (by omega), fun i v hv e => by have := (R4.D.base hv e).2; omega, by rw [Nat.zero_add]; exact hc j _ (by simp [hj]), ?_⟩
            obtain ⟨_, _, _, _, _, hk⟩ := hcs j hj
            exact hk
          have hcr := crash_any w.heap.size l.length us d cs A7 c7 N w7 R7.D R7.O hN5 (by omega) hints (by omega)
          refine hcr.mono ?_
          clear hcr hints
          rintro e w8 ⟨rfl, D8, F8⟩
          have S8 := R7.S.fr R7.D F8 (by decide)
          have T8 := R7.T.fr R7.D F8 (by decide)
          have X8 := R7.tS.fr R7.D F8
          have b8 : Below w.heap.size w w8 := R7.b.trans (F8.below (n0 := w.heap.size) (Nat.le_refl _) (fun i v g h1 h2 => by have := (R7.D.base h1 h2).1; omega) R7.b.size)
          have hcrash := fun n (hn : n < d.ts.length) (hd : dT[n]? = some false) => R4.inv.crash R4.O R4.D.sorted cs n hn hd
          obtain ⟨O8, len8⟩ := crashD_ok R4.O R4.D.sorted cs
          have hlive := crashD_live d cs
          have hlen := R4.len
          have hlS : gS.length = 6 := by have h1 := R4.tS.1; have h2 := congrArg List.length R4.inv.ls; omega
          have hlT : dT.length = 6 := by have := R4.inv.ld; omega
          rw [hlen] at len8 hcrash
          clear R4 R7 F8 b7 hrow7 hg7 hown0 hsrc
          generalize hnb : l.length + d.vs.length = nb at D8
          clear hnb
          generalize crashD d cs = d1 at *
          go_wp2_with fail
          go_loopw [15] (fun k wr => ∃ n : Nat, n ≤ 6 ∧ k = .int .i64 n ∧ Below w8.heap.size w8 wr) (fun k _ => 6 - (intOf k).toNat)
          case atStart => exact ⟨0, by omega, rfl, Below.refl _ _⟩
          case round =>
            obtain ⟨n, hn, rfl, b9⟩ := hrel
            have D9 := D8.below b9
            by_cases hnl : n < 6
            · have hnI : (n : Int) < 6 := by omega
              have hrd := read_any w.heap.size _ [] d1 (n : Int) N _ D9 O8 (by omega) hN5
              obtain ⟨gn, hgn⟩ : ∃ gn, gS[n]? = some gn := ⟨_, List.getElem?_eq_getElem (by omega)⟩
              obtain ⟨bn, hbn⟩ : ∃ bn, dT[n]? = some bn := ⟨_, List.getElem?_eq_getElem (by omega)⟩
              have S9 := S8.below b9
              have T9 := T8.below b9
              have cS9 := S9.blk.get (j := n) (v := slV gn) (by simp [hgn])
              have cT9 := T9.blk.get (j := n) (v := .bool bn) (by simp [hbn])
              cases bn with
              | true =>
                go_wp2_with fail
                refine hrd.mono ?_
                rintro e w10 ⟨v10, rfl, H10, b10⟩
                obtain ⟨A10, c10, rfl⟩ := H10.slice
                have cT10 : w10.cell? ⟨bS + 1 + 1, n, none⟩ = some (.bool true) := (b10.cell (p := ⟨bS + 1 + 1, n, none⟩) T9.blk.lt).trans cT9
                have hlT10 : bS + 1 + 1 < w10.heap.size := Nat.lt_of_lt_of_le T9.blk.lt b10.size
                go_wp2_with fail
                go_quiet (fail)
                go_wp2_with fail
                exact ⟨⟨n + 1, by omega, by go_num, bl_tr b9 (bl_drewN b10 _)⟩, by simp [intOf]; omega⟩
              | false =>
                obtain ⟨t, hst, htl, hread⟩ := hcrash n hnl hbn
                have Hn := (X8.2 n gn t hgn hst).below b9
                unfold readT at hrd
                rw [hread] at hrd
                go_wp2_with fail
                refine hrd.mono ?_
                clear hrd
                rintro e w10 ⟨v10, rfl, H10, b10⟩
                obtain ⟨g10, c10, rfl, hg10, B10⟩ := BufAt.full (t := t) H10 htl
                have cT10 : w10.cell? ⟨bS + 1 + 1, n, none⟩ = some (.bool false) := (b10.cell (p := ⟨bS + 1 + 1, n, none⟩) T9.blk.lt).trans cT9
                have hlT10 : bS + 1 + 1 < w10.heap.size := Nat.lt_of_lt_of_le T9.blk.lt b10.size
                have cS10 : w10.cell? ⟨bS, n, none⟩ = some (slV gn) := (b10.cell (p := ⟨bS, n, none⟩) S9.blk.lt).trans cS9
                have hlS10 : bS < w10.heap.size := Nat.lt_of_lt_of_le S9.blk.lt b10.size
                unfold slV at cS10
                have hc1 : ∀ w', Below w10.heap.size w10 w' → (convert 30 9 (.slice (some ⟨gn, 0, none⟩) 256 256)).run Try.prog w' = .ok (.string ⟨t.toArray⟩) w' := fun w' hb => conv_blk (((Hn.below b10).below hb).blk) htl
                have hc2 : ∀ w', Below w10.heap.size w10 w' → (convert 30 9 (.slice (some ⟨g10, 0, none⟩) 256 c10)).run Try.prog w' = .ok (.string ⟨t.toArray⟩) w' := fun w' hb => conv_blk (B10.below hb B10.lt) htl
                generalize (⟨t.toArray⟩ : ByteArray) = sr at hc1 hc2
                have h10 := bl_drew (Below.refl w10.heap.size w10)
                have hnidx : n < 6 := hnl
                go_wp2_with fail
                refine wpAnyH.region rfl (fun w' => Below w10.heap.size w10 w') ?_
                refine wpAnyH.takeT (i := 0) (t := 116) (v := .slice (some ⟨bS + 1 + 1, 0, none⟩) 6 6) rfl rfl (by decide +kernel) (by decide +kernel) (by decide +kernel) (fun _ _ _ h => h.elim) (.inl ⟨rfl, fun w' hS => ?_⟩) h10 ?_
                · go_simp
                try simp only [List.setIfInBounds_toArray, List.set_cons_zero, List.set_cons_succ]
                refine wpAnyH.takeT (i := 1) (t := 117) (v := .int .i64 n) rfl rfl (by decide +kernel) (by decide +kernel) (by decide +kernel) (fun _ _ _ h => h.elim) (.inl ⟨rfl, fun w' hS => ?_⟩) h10 ?_
                · go_simp
                try simp only [List.setIfInBounds_toArray, List.set_cons_zero, List.set_cons_succ]
                refine wpAnyH.takeT (i := 2) (t := 118) (v := .pointer (some ⟨bS + 1 + 1, n, none⟩)) rfl rfl (by decide +kernel) (by decide +kernel) (by decide +kernel) (fun _ _ _ h => h.elim) (.inl ⟨rfl, fun w' hS => ?_⟩) h10 ?_
                · go_simp
                try simp only [List.setIfInBounds_toArray, List.set_cons_zero, List.set_cons_succ]
                refine wpAnyH.takeT (i := 3) (t := 119) (v := .bool false) rfl rfl (by decide +kernel) (by decide +kernel) (by decide +kernel) (fun _ _ _ h => h.elim) (.inl ⟨rfl, fun w' hS => ?_⟩) h10 ?_
                · have c0 := (hS.cell (p := ⟨bS + 1 + 1, n, none⟩) hlT10).trans cT10
                  go_simp
                try simp only [List.setIfInBounds_toArray, List.set_cons_zero, List.set_cons_succ]
                refine wpAnyH.takeT (i := 4) (t := 120) (v := .bool true) rfl rfl (by decide +kernel) (by decide +kernel) (by decide +kernel) (fun _ _ _ h => h.elim) (.inl ⟨rfl, fun w' hS => ?_⟩) h10 ?_
                · go_simp
                try simp only [List.setIfInBounds_toArray, List.set_cons_zero, List.set_cons_succ]
                refine wpAnyH.takeT (i := 5) (t := 121) (v := .bool true) rfl rfl (by decide +kernel) (by decide +kernel) (by decide +kernel) (fun _ _ _ h => h.elim) (.inl ⟨rfl, fun w' hS => ?_⟩) h10 ?_
                · go_simp
                try simp only [List.setIfInBounds_toArray, List.set_cons_zero, List.set_cons_succ]
                refine wpAnyH.takeT (i := 6) (t := 122) (v := .int .i64 0) rfl rfl (by decide +kernel) (by decide +kernel) (by decide +kernel) (fun _ _ _ h => h.elim) (.inl ⟨rfl, fun w' hS => ?_⟩) h10 ?_
                · go_simp
                try simp only [List.setIfInBounds_toArray, List.set_cons_zero, List.set_cons_succ]
                refine wpAnyH.one (i := 7) (by decide +kernel) rfl rfl ?_
                refine wp_goCall1 10 (enters_of Try.func10 (by kernel_rfl) rfl) (.tmp 122) #[25] rfl 123 rfl ?_
                refine (num_any _ _).mono ?_
                rintro e w' ⟨rfl, rfl⟩
                refine ⟨_, rfl, h10, ?_⟩
                try simp only [List.setIfInBounds_toArray, List.set_cons_zero, List.set_cons_succ]
                refine wpAnyH.takeT (i := 8) (t := 124) (v := .bool false) rfl rfl (by decide +kernel) (by decide +kernel) (by decide +kernel) (fun _ _ _ h => h.elim) (.inl ⟨rfl, fun w' hS => ?_⟩) h10 ?_
                · go_simp
                try simp only [List.setIfInBounds_toArray, List.set_cons_zero, List.set_cons_succ]
                refine wpAnyH.takeT (i := 9) (t := 125) (v := .bool false) rfl rfl (by decide +kernel) (by decide +kernel) (by decide +kernel) (fun _ _ _ h => h.elim) (.inl ⟨rfl, fun w' hS => ?_⟩) h10 ?_
                · go_simp
                try simp only [List.setIfInBounds_toArray, List.set_cons_zero, List.set_cons_succ]
                refine wpAnyH.takeT (i := 10) (t := 126) (v := .slice (some ⟨g10, 0, none⟩) 256 c10) rfl rfl (by decide +kernel) (by decide +kernel) (by decide +kernel) (fun _ _ _ h => h.elim) (.inl ⟨rfl, fun w' hS => ?_⟩) h10 ?_
                · go_simp
                try simp only [List.setIfInBounds_toArray, List.set_cons_zero, List.set_cons_succ]
                refine wpAnyH.takeT (i := 11) (t := 127) (v := .string sr) rfl rfl (by decide +kernel) (by decide +kernel) (by decide +kernel) (fun _ _ _ h => h.elim) (.inl ⟨rfl, fun w' hS => ?_⟩) h10 ?_
                · have c0 := hc2 _ hS
                  go_simp
                try simp only [List.setIfInBounds_toArray, List.set_cons_zero, List.set_cons_succ]
                refine wpAnyH.takeT (i := 12) (t := 128) (v := .slice (some ⟨bS, 0, none⟩) 6 6) rfl rfl (by decide +kernel) (by decide +kernel) (by decide +kernel) (fun _ _ _ h => h.elim) (.inl ⟨rfl, fun w' hS => ?_⟩) h10 ?_
                · go_simp
                try simp only [List.setIfInBounds_toArray, List.set_cons_zero, List.set_cons_succ]
                refine wpAnyH.takeT (i := 13) (t := 129) (v := .int .i64 n) rfl rfl (by decide +kernel) (by decide +kernel) (by decide +kernel) (fun _ _ _ h => h.elim) (.inl ⟨rfl, fun w' hS => ?_⟩) h10 ?_
                · go_simp
                try simp only [List.setIfInBounds_toArray, List.set_cons_zero, List.set_cons_succ]
                refine wpAnyH.takeT (i := 14) (t := 130) (v := .pointer (some ⟨bS, n, none⟩)) rfl rfl (by decide +kernel) (by decide +kernel) (by decide +kernel) (fun _ _ _ h => h.elim) (.inl ⟨rfl, fun w' hS => ?_⟩) h10 ?_
                · go_simp
                try simp only [List.setIfInBounds_toArray, List.set_cons_zero, List.set_cons_succ]
                refine wpAnyH.takeT (i := 15) (t := 131) (v := .slice (some ⟨gn, 0, none⟩) 256 256) rfl rfl (by decide +kernel) (by decide +kernel) (by decide +kernel) (fun _ _ _ h => h.elim) (.inl ⟨rfl, fun w' hS => ?_⟩) h10 ?_
                · have c0 := (hS.cell (p := ⟨bS, n, none⟩) hlS10).trans cS10
                  go_simp
                try simp only [List.setIfInBounds_toArray, List.set_cons_zero, List.set_cons_succ]
                refine wpAnyH.takeT (i := 16) (t := 132) (v := .string sr) rfl rfl (by decide +kernel) (by decide +kernel) (by decide +kernel) (fun _ _ _ h => h.elim) (.inl ⟨rfl, fun w' hS => ?_⟩) h10 ?_
                · have c0 := hc1 _ hS
                  go_simp
                try simp only [List.setIfInBounds_toArray, List.set_cons_zero, List.set_cons_succ]
                refine wpAnyH.takeT (i := 17) (t := 133) (v := .bool false) rfl rfl (by decide +kernel) (by decide +kernel) (by decide +kernel) (fun _ _ _ h => h.elim) (.inl ⟨rfl, fun w' hS => ?_⟩) h10 ?_
                · go_simp
                try simp only [List.setIfInBounds_toArray, List.set_cons_zero, List.set_cons_succ]
                refine wpAnyH.takeT (i := 18) (t := 134) (v := .bool false) rfl rfl (by decide +kernel) (by decide +kernel) (by decide +kernel) (fun _ _ _ h => h.elim) (.inl ⟨rfl, fun w' hS => ?_⟩) h10 ?_
                · go_simp
                try simp only [List.setIfInBounds_toArray, List.set_cons_zero, List.set_cons_succ]
                refine wpAnyH.takeT (i := 19) (t := 135) (v := .bool false) rfl rfl (by decide +kernel) (by decide +kernel) (by decide +kernel) (fun _ _ _ h => h.elim) (.inl ⟨rfl, fun w' hS => ?_⟩) h10 ?_
                · go_simp
                try simp only [List.setIfInBounds_toArray, List.set_cons_zero, List.set_cons_succ]
                refine wpAnyH_done (by decide +kernel) ?_ _
                refine NoPanic.normal ?_
                go_wp2_with fail
                exact ⟨⟨n + 1, by omega, by go_num, bl_tr b9 (bl_tr b10 h10)⟩, by simp [intOf]; omega⟩
            · obtain rfl : n = 6 := by omega
              have hvl : (d1.vs.length : Int) = 0 := by rw [hlive.2.2]; rfl
              go_wp2_with (first | (go_at_call 19; refine (dirty_any w.heap.size _ [] d1 _ D9 (by omega)).mono ?_; rintro e w' ⟨rfl, rfl⟩; rw [hvl]) | (go_at_call 18; refine (down_any w.heap.size _ [] d1 _ D9 (by omega)).mono ?_; rintro e w' ⟨rfl, rfl⟩; rw [hlive.1]))
              go_ret
              exact ⟨rfl, bl_tr b8 b9⟩
end Go.Proofs.Yteaenhmiomoocaa
