/- DiskPlays (7), walked. -/
import Derived.Test.YteaenhmiomoocaaRv
namespace Go.Proofs.Yteaenhmiomoocaa
open Go.RowKit Go.Shelf
attribute [local go_sem] Oper.semAt_some

theorem newD_ok0 (m : Nat) (h1 : 1 ≤ m) (h2 : m ≤ 4096) : (newD m).Ok 0 := newD_ok m (by omega)
theorem pnew (w : World) (n : Int) : Calls Try.prog 9 #[.int .i64 n] w fun e w' => ∃ p k, e = .returned (.tuple #[.pointer p, .int .i64 k]) ∧ Below w.heap.size w w' ∧
    ((1 ≤ n ∧ n ≤ 4096 ∧ p = some ⟨w.heap.size + 3, 0, none⟩ ∧ k = 0 ∧ DkAt w' w.heap.size 0 [] (newD n.toNat)) ∨ (¬ (1 ≤ n ∧ n ≤ 4096) ∧ p = none ∧ k = 1)) := by
  by_cases h : 1 ≤ n ∧ n ≤ 4096
  · obtain ⟨m, rfl⟩ : ∃ m : Nat, n = m := ⟨n.toNat, by omega⟩
    refine (new_ok m w (by omega) (by omega)).mono ?_
    rintro e w' ⟨rfl, D, hb⟩
    exact ⟨_, _, rfl, hb, .inl ⟨h.1, h.2, rfl, rfl, D⟩⟩
  · refine (new_bad n w (by omega)).mono ?_
    rintro e w' ⟨rfl, rfl⟩
    exact ⟨_, _, rfl, Below.refl _ _, .inr ⟨h, rfl, rfl⟩⟩
theorem rnew_u {F : Nat → Prop} (w : World) (n : Int) (hF : ∀ q, F q → q < w.heap.size) (hn : okI n) : Calls Try.prog 20 #[.int .i64 n] w fun e w' => ∃ r, e = .returned (.pointer r) ∧ Below w.heap.size w w' ∧
    ((1 ≤ n ∧ n ≤ 4096 ∧ r = some ⟨w.heap.size, 0, none⟩ ∧ ∃ g c bs, RfAt F w' (w.heap.size + 1) w.heap.size g c bs (newD n.toNat)) ∨ (¬ (1 ≤ n ∧ n ≤ 4096) ∧ r = none)) := by
  refine (rnew_any (F := F) w n hF hn).mono ?_
  rintro e w' ⟨hb, ⟨h1, h2, rfl, h⟩ | ⟨h, rfl⟩⟩
  · exact ⟨_, rfl, hb, .inl ⟨h1, h2, rfl, h⟩⟩
  · exact ⟨_, rfl, hb, .inr ⟨h, rfl⟩⟩
theorem Sl.mk {F : Nat → Prop} {w wa wb : World} {z h rb g c : Nat} {bs : List Bk} {d : Dsk} (D : DkAt wa h 0 [] d) (R : RfAt F wb (rb + 1) rb g c bs d) (ha : Below wa.heap.size wa w) (hb : Below wb.heap.size wb w) (hz : z ≤ h) (hr : h + 3 < rb)
    (bar : ∀ b, h ≤ b → b ≤ h + 3 → F b) (fz : ∀ b, F b → b < w.heap.size) (hO : d.Ok 0) : Sl F w z (some ⟨h + 3, 0, none⟩) (some ⟨rb, 0, none⟩) (PrB h [] rb g bs) 0 ∧ ∀ b, PrB h [] rb g bs b → (h ≤ b ∧ b ≤ h + 3) ∨ (rb ≤ b ∧ b < wb.heap.size) := by
  refine ⟨.inr ⟨h, 0, [], d, rb + 1, rb, g, c, bs, 0, rfl, rfl, ⟨D.below ha, R.below hb, hz, hr, by omega, bar, fz⟩, hO, by omega, by omega, rfl⟩, ?_⟩
  have hg := R.gl
  have := hg.2.lt
  rintro b (hb | ⟨i, v, h1, _⟩ | rfl | rfl | ⟨x, hx, e⟩)
  · exact .inl hb
  · simp [lookI] at h1
  · exact .inr ⟨by omega, R.box.lt⟩
  · exact .inr ⟨by omega, hg.2.lt⟩
  · have := R.own hx e; exact .inr ⟨by omega, this.2.lt⟩

set_option maxRecDepth 100000 in
set_option maxHeartbeats 8000000 in
theorem plays_any (w : World) (n1 n2 : Int) (hn1 : okI n1) (hn2 : okI n2) (A1 A2 : Option Addr) (c1 c2 : Nat) (l1 l2 : List OpD) (O1 : OpsF w A1 l1) (O2 : OpsF w A2 l2) (hl1 : l1.length ≤ 100000000) (hl2 : l2.length ≤ 100000000)
    (hb1 : ∀ o ∈ l1, o.b.length ≤ 140737488351232 ∧ o.l.length ≤ 17592186043904) (hb2 : ∀ o ∈ l2, o.b.length ≤ 140737488351232 ∧ o.l.length ≤ 17592186043904) :
    Calls Try.prog 7 #[.int .i64 n1, .int .i64 n2, .slice A1 l1.length c1, .slice A2 l2.length c2] w fun e w' => e = .returned (.bool true) ∧ Below w.heap.size w w' := by
  replace O1 := Lib.hid O1
  replace O2 := Lib.hid O2
  replace hb1 := Lib.hid hb1
  replace hb2 := Lib.hid hb2
  go_enter Try.func7, Try.ntmps7
  go_upto_region 2 with (go_at_call 9; refine (pnew w n1).mono ?_; rintro e w1 ⟨p1, k1, rfl, b1, H1⟩; replace H1 := Lib.hid H1)
  go_upto_region 3 with (go_at_call 9; refine (pnew w1 n2).mono ?_; rintro e w2 ⟨p2, k2, rfl, b2, H2⟩; replace H2 := Lib.hid H2)
  go_upto_region 4 with (go_at_call 20; refine (rnew_u (F := fun b => w.heap.size ≤ b ∧ b < w2.heap.size) w2 n1 (fun q h => h.2) hn1).mono ?_; rintro e w3 ⟨r1, rfl, b3, H3⟩; replace H3 := Lib.hid H3)
  go_upto_region 5 with (go_at_call 20; refine (rnew_u (F := fun b => w.heap.size ≤ b ∧ b < w2.heap.size) w3 n2 (fun q h => Nat.lt_of_lt_of_le h.2 b3.size) hn2).mono ?_; rintro e w4 ⟨r2, rfl, b4, H4⟩; replace H4 := Lib.hid H4)
  have b13 := bl_tr (bl_tr b2 b3) b4
  have bw := bl_tr b1 b13
  have s1 := b1.size
  have s2 := b2.size
  have s3 := b3.size
  have s4 := b4.size
  have HS1 : ∃ P1, Sl (fun b => w.heap.size ≤ b ∧ b < w2.heap.size) w4 w.heap.size p1 r1 P1 0 ∧ ∀ b, P1 b → (w.heap.size ≤ b ∧ b < w1.heap.size) ∨ (w2.heap.size ≤ b ∧ b < w3.heap.size) := by
    rcases H1.out with ⟨v1, v2, rfl, rfl, D⟩ | ⟨v, rfl, rfl⟩ <;> rcases H3.out with ⟨u1, u2, rfl, g, c, bs, R⟩ | ⟨u, rfl⟩
    · have := D.lt
      obtain ⟨h1, h2⟩ := Sl.mk (w := w4) (z := w.heap.size) D R b13 b4 (Nat.le_refl _) (by omega) (fun b h1 h2 => ⟨h1, by omega⟩) (fun b h => by have := h.2; omega) (newD_ok0 _ (by omega) (by omega))
      exact ⟨_, h1, fun b hb => (h2 b hb).imp (fun h => ⟨h.1, by omega⟩) id⟩
    · exact absurd ⟨v1, v2⟩ u
    · exact absurd ⟨u1, u2⟩ v
    · exact ⟨_, Sl.zero, fun b hb => hb.elim⟩
  have HS2 : ∃ P2, Sl (fun b => w.heap.size ≤ b ∧ b < w2.heap.size) w4 w.heap.size p2 r2 P2 0 ∧ ∀ b, P2 b → (w1.heap.size ≤ b ∧ b < w2.heap.size) ∨ (w3.heap.size ≤ b) := by
    rcases H2.out with ⟨v1, v2, rfl, rfl, D⟩ | ⟨v, rfl, rfl⟩ <;> rcases H4.out with ⟨u1, u2, rfl, g, c, bs, R⟩ | ⟨u, rfl⟩
    · have := D.lt
      obtain ⟨h1, h2⟩ := Sl.mk (w := w4) (z := w.heap.size) D R (bl_tr b3 b4) (Below.refl _ _) (by omega) (by omega) (fun b h1 h2 => ⟨by omega, by omega⟩) (fun b h => by have := h.2; omega) (newD_ok0 _ (by omega) (by omega))
      exact ⟨_, h1, fun b hb => (h2 b hb).imp (fun h => ⟨h.1, by omega⟩) (fun h => h.1)⟩
    · exact absurd ⟨v1, v2⟩ u
    · exact absurd ⟨u1, u2⟩ v
    · exact ⟨_, Sl.zero, fun b hb => hb.elim⟩
  go_cut [61] from 30 to 61 (fun s61 wx => s61 = .bool false ∧ Below w4.heap.size w4 wx)
  case first =>
    rcases H1.out with ⟨v1, v2, rfl, rfl, D⟩ | ⟨v, rfl, rfl⟩ <;> rcases H3.out with ⟨u1, u2, rfl, g, c, bs, R⟩ | ⟨u, rfl⟩ <;> rcases H2.out with ⟨x1, x2, rfl, rfl, D'⟩ | ⟨x, rfl, rfl⟩ <;> rcases H4.out with ⟨y1, y2, rfl, g', c', bs', R'⟩ | ⟨y, rfl⟩
    all_goals first | (exfalso; omega) | skip
    all_goals
      clear HS1 HS2 H1 H2 H3 H4
      go_wp2_with (first | (go_at_call 10; refine (num_any _ _).mono ?_; rintro e w5 ⟨rfl, rfl⟩) | (go_at_call 11; refine (knows_any _).mono ?_; rintro e w5 ⟨rfl, b5⟩))
      go_meet
      exact ⟨rfl, b5⟩
  case rest =>
    obtain ⟨rfl, hcut⟩ := hcut
    obtain ⟨P1, S1, hP1⟩ := HS1
    obtain ⟨P2, S2, hP2⟩ := HS2
    clear H1 H2 H3 H4
    have hfr := FrP.of_below hcut (fun _ => False)
    replace S1 := S1.keep hfr (fun b _ h => h) (fun b _ _ h => h)
    replace S2 := S2.keep hfr (fun b _ h => h) (fun b _ _ h => h)
    have hd : ∀ b, P1 b → ¬ P2 b := fun b h1 h2 => by
      have g4 := (S1.ge h1)
      rcases hP1 b h1 with h | h <;> rcases hP2 b h2 with h' | h' <;> omega
    have hbw := bl_tr bw hcut
    replace hd := Lib.hid hd
    replace S1 := Lib.hid S1
    replace S2 := Lib.hid S2
    generalize (fun b => w.heap.size ≤ b ∧ b < w2.heap.size) = F at *
    clear hfr hP1 hP2 b13 bw hcut b1 b2 b3 b4 s1 s2 s3 s4
    go_wp2_with fail
    go_loopw [15] (fun v wr => ∃ (i : Nat) (P1 P2 : Nat → Prop), v = .int .i64 i ∧ (i ≤ l1.length ∨ i ≤ l2.length) ∧ Hid (Sl F wr w.heap.size p1 r1 P1 i) ∧ Hid (Sl F wr w.heap.size p2 r2 P2 i) ∧ Hid (∀ b, P1 b → ¬ P2 b) ∧ Below w.heap.size w wr) (fun v _ => l1.length + l2.length + 1 - (intOf v).toNat)
    case atStart => exact ⟨0, P1, P2, rfl, .inl (Nat.zero_le _), S1, S2, hd, hbw⟩
    case round =>
      clear S1 S2 hd hbw P1 P2
      obtain ⟨i, P1, P2, rfl, hi, S1, S2, hd, hb⟩ := hrel
      have hi0 : (0 : Int) ≤ (i : Int) := by omega
      have hi9 : i < 1000000000 := by omega
      by_cases h1 : i < l1.length <;> by_cases h2 : i < l2.length <;> rcases r1 with _ | r1 <;> rcases r2 with _ | r2
      · go_wp2_with fail
        go_roundw
        case rel => exact ⟨i + 1, P1, P2, by go_num, by omega, Lib.hid S1.out.up, Lib.hid S2.out.up, hd, hb⟩
        case measure => simp [intOf]; omega
      · obtain ⟨yb, yo, Bi, di, B'i, d'i, J⟩ := O2.out i h2
        obtain ⟨hy1, hy2⟩ := hb2.out _ (List.getElem_mem h2)
        obtain rfl := J.at_
        obtain ⟨yl, y0, y1, y2, y3, y4, y5⟩ := J.cells hb
        replace J := Lib.hid J
        go_wp2_with (first | (go_at_call 21; refine (S2.out.step (by simp) hi9 hb J.out hy1 hy2).mono ?_; rintro e w6 ⟨rfl, Q2, U2, f2⟩; have U1 := S1.out.keep f2 (fun b h1 h2 => hd.out b h1 h2) (fun b ht hF => S2.out.ne5 ht hF); have hd2 : ∀ b, P1 b → ¬ Q2 b := (fun b h1 h2 => ((f2.sub b h2).elim (fun h => hd.out b h1 h) (fun h => by have := (S1.out.ge h1).2; omega))); have hb6 := hb.trans (f2.below hb.size (fun b h => (S2.out.ge h).1)); replace hd2 := Lib.hid hd2; replace U1 := Lib.hid U1; replace U2 := Lib.hid U2))
        go_roundw
        case rel => exact ⟨i + 1, P1, Q2, by go_num, by omega, Lib.hid U1.out.up, Lib.hid U2.out, hd2, hb6⟩
        case measure => simp [intOf]; omega
      · obtain ⟨xb, xo, Ai, ci, A'i, c'i, H⟩ := O1.out i h1
        obtain ⟨hx1, hx2⟩ := hb1.out _ (List.getElem_mem h1)
        obtain rfl := H.at_
        obtain ⟨zl, z0, z1, z2, z3, z4, z5⟩ := H.cells hb
        replace H := Lib.hid H
        go_wp2_with (first | (go_at_call 21; refine (S1.out.step (by simp) hi9 hb H.out hx1 hx2).mono ?_; rintro e w5 ⟨rfl, Q1, T1, f1⟩; have T2 := S2.out.keep f1 (fun b h2 h1 => hd.out b h1 h2) (fun b ht hF => S1.out.ne5 ht hF); have hd1 : ∀ b, Q1 b → ¬ P2 b := (fun b h1 h2 => ((f1.sub b h1).elim (fun h => hd.out b h h2) (fun h => by have := (S2.out.ge h2).2; omega))); have hb5 := hb.trans (f1.below hb.size (fun b h => (S1.out.ge h).1)); replace hd1 := Lib.hid hd1; replace T1 := Lib.hid T1; replace T2 := Lib.hid T2))
        go_roundw
        case rel => exact ⟨i + 1, Q1, P2, by go_num, by omega, Lib.hid T1.out, Lib.hid T2.out.up, hd1, hb5⟩
        case measure => simp [intOf]; omega
      · obtain ⟨xb, xo, Ai, ci, A'i, c'i, H⟩ := O1.out i h1
        obtain ⟨hx1, hx2⟩ := hb1.out _ (List.getElem_mem h1)
        obtain rfl := H.at_
        obtain ⟨zl, z0, z1, z2, z3, z4, z5⟩ := H.cells hb
        replace H := Lib.hid H
        obtain ⟨yb, yo, Bi, di, B'i, d'i, J⟩ := O2.out i h2
        obtain ⟨hy1, hy2⟩ := hb2.out _ (List.getElem_mem h2)
        obtain rfl := J.at_
        replace J := Lib.hid J
        go_wp2_with (first | (go_at_call 21; refine (S1.out.step (by simp) hi9 hb H.out hx1 hx2).mono ?_; rintro e w5 ⟨rfl, Q1, T1, f1⟩; have T2 := S2.out.keep f1 (fun b h2 h1 => hd.out b h1 h2) (fun b ht hF => S1.out.ne5 ht hF); have hd1 : ∀ b, Q1 b → ¬ P2 b := (fun b h1 h2 => ((f1.sub b h1).elim (fun h => hd.out b h h2) (fun h => by have := (S2.out.ge h2).2; omega))); have hb5 := hb.trans (f1.below hb.size (fun b h => (S1.out.ge h).1)); obtain ⟨yl, y0, y1, y2, y3, y4, y5⟩ := J.out.cells hb5; replace hd1 := Lib.hid hd1; replace T1 := Lib.hid T1; replace T2 := Lib.hid T2; clear S1 S2 H hx1 hx2) | (go_at_call 21; refine (T2.out.step (by simp) hi9 hb5 J.out hy1 hy2).mono ?_; rintro e w6 ⟨rfl, Q2, U2, f2⟩; have U1 := T1.out.keep f2 (fun b h1 h2 => hd1.out b h1 h2) (fun b ht hF => T2.out.ne5 ht hF); have hd2 : ∀ b, Q1 b → ¬ Q2 b := (fun b h1 h2 => ((f2.sub b h2).elim (fun h => hd1.out b h1 h) (fun h => by have := (T1.out.ge h1).2; omega))); have hb6 := hb5.trans (f2.below hb5.size (fun b h => (T2.out.ge h).1)); replace hd2 := Lib.hid hd2; replace U1 := Lib.hid U1; replace U2 := Lib.hid U2))
        go_roundw
        case rel => exact ⟨i + 1, Q1, Q2, by go_num, by omega, Lib.hid U1.out, Lib.hid U2.out, hd2, hb6⟩
        case measure => simp [intOf]; omega
      · go_wp2_with fail
        go_roundw
        case rel => exact ⟨i + 1, P1, P2, by go_num, by omega, Lib.hid S1.out.up, Lib.hid S2.out.up, hd, hb⟩
        case measure => simp [intOf]; omega
      · go_wp2_with fail
        go_roundw
        case rel => exact ⟨i + 1, P1, P2, by go_num, by omega, Lib.hid S1.out.up, Lib.hid S2.out.up, hd, hb⟩
        case measure => simp [intOf]; omega
      · obtain ⟨xb, xo, Ai, ci, A'i, c'i, H⟩ := O1.out i h1
        obtain ⟨hx1, hx2⟩ := hb1.out _ (List.getElem_mem h1)
        obtain rfl := H.at_
        obtain ⟨zl, z0, z1, z2, z3, z4, z5⟩ := H.cells hb
        replace H := Lib.hid H
        go_wp2_with (first | (go_at_call 21; refine (S1.out.step (by simp) hi9 hb H.out hx1 hx2).mono ?_; rintro e w5 ⟨rfl, Q1, T1, f1⟩; have T2 := S2.out.keep f1 (fun b h2 h1 => hd.out b h1 h2) (fun b ht hF => S1.out.ne5 ht hF); have hd1 : ∀ b, Q1 b → ¬ P2 b := (fun b h1 h2 => ((f1.sub b h1).elim (fun h => hd.out b h h2) (fun h => by have := (S2.out.ge h2).2; omega))); have hb5 := hb.trans (f1.below hb.size (fun b h => (S1.out.ge h).1)); replace hd1 := Lib.hid hd1; replace T1 := Lib.hid T1; replace T2 := Lib.hid T2))
        go_roundw
        case rel => exact ⟨i + 1, Q1, P2, by go_num, by omega, Lib.hid T1.out, Lib.hid T2.out.up, hd1, hb5⟩
        case measure => simp [intOf]; omega
      · obtain ⟨xb, xo, Ai, ci, A'i, c'i, H⟩ := O1.out i h1
        obtain ⟨hx1, hx2⟩ := hb1.out _ (List.getElem_mem h1)
        obtain rfl := H.at_
        obtain ⟨zl, z0, z1, z2, z3, z4, z5⟩ := H.cells hb
        replace H := Lib.hid H
        go_wp2_with (first | (go_at_call 21; refine (S1.out.step (by simp) hi9 hb H.out hx1 hx2).mono ?_; rintro e w5 ⟨rfl, Q1, T1, f1⟩; have T2 := S2.out.keep f1 (fun b h2 h1 => hd.out b h1 h2) (fun b ht hF => S1.out.ne5 ht hF); have hd1 : ∀ b, Q1 b → ¬ P2 b := (fun b h1 h2 => ((f1.sub b h1).elim (fun h => hd.out b h h2) (fun h => by have := (S2.out.ge h2).2; omega))); have hb5 := hb.trans (f1.below hb.size (fun b h => (S1.out.ge h).1)); replace hd1 := Lib.hid hd1; replace T1 := Lib.hid T1; replace T2 := Lib.hid T2))
        go_roundw
        case rel => exact ⟨i + 1, Q1, P2, by go_num, by omega, Lib.hid T1.out, Lib.hid T2.out.up, hd1, hb5⟩
        case measure => simp [intOf]; omega
      · go_wp2_with fail
        go_roundw
        case rel => exact ⟨i + 1, P1, P2, by go_num, by omega, Lib.hid S1.out.up, Lib.hid S2.out.up, hd, hb⟩
        case measure => simp [intOf]; omega
      · obtain ⟨yb, yo, Bi, di, B'i, d'i, J⟩ := O2.out i h2
        obtain ⟨hy1, hy2⟩ := hb2.out _ (List.getElem_mem h2)
        obtain rfl := J.at_
        obtain ⟨yl, y0, y1, y2, y3, y4, y5⟩ := J.cells hb
        replace J := Lib.hid J
        go_wp2_with (first | (go_at_call 21; refine (S2.out.step (by simp) hi9 hb J.out hy1 hy2).mono ?_; rintro e w6 ⟨rfl, Q2, U2, f2⟩; have U1 := S1.out.keep f2 (fun b h1 h2 => hd.out b h1 h2) (fun b ht hF => S2.out.ne5 ht hF); have hd2 : ∀ b, P1 b → ¬ Q2 b := (fun b h1 h2 => ((f2.sub b h2).elim (fun h => hd.out b h1 h) (fun h => by have := (S1.out.ge h1).2; omega))); have hb6 := hb.trans (f2.below hb.size (fun b h => (S2.out.ge h).1)); replace hd2 := Lib.hid hd2; replace U1 := Lib.hid U1; replace U2 := Lib.hid U2))
        go_roundw
        case rel => exact ⟨i + 1, P1, Q2, by go_num, by omega, Lib.hid U1.out.up, Lib.hid U2.out, hd2, hb6⟩
        case measure => simp [intOf]; omega
      · go_wp2_with fail
        go_roundw
        case rel => exact ⟨i + 1, P1, P2, by go_num, by omega, Lib.hid S1.out.up, Lib.hid S2.out.up, hd, hb⟩
        case measure => simp [intOf]; omega
      · obtain ⟨yb, yo, Bi, di, B'i, d'i, J⟩ := O2.out i h2
        obtain ⟨hy1, hy2⟩ := hb2.out _ (List.getElem_mem h2)
        obtain rfl := J.at_
        obtain ⟨yl, y0, y1, y2, y3, y4, y5⟩ := J.cells hb
        replace J := Lib.hid J
        go_wp2_with (first | (go_at_call 21; refine (S2.out.step (by simp) hi9 hb J.out hy1 hy2).mono ?_; rintro e w6 ⟨rfl, Q2, U2, f2⟩; have U1 := S1.out.keep f2 (fun b h1 h2 => hd.out b h1 h2) (fun b ht hF => S2.out.ne5 ht hF); have hd2 : ∀ b, P1 b → ¬ Q2 b := (fun b h1 h2 => ((f2.sub b h2).elim (fun h => hd.out b h1 h) (fun h => by have := (S1.out.ge h1).2; omega))); have hb6 := hb.trans (f2.below hb.size (fun b h => (S2.out.ge h).1)); replace hd2 := Lib.hid hd2; replace U1 := Lib.hid U1; replace U2 := Lib.hid U2))
        go_roundw
        case rel => exact ⟨i + 1, P1, Q2, by go_num, by omega, Lib.hid U1.out.up, Lib.hid U2.out, hd2, hb6⟩
        case measure => simp [intOf]; omega
      · go_wp2_with fail
        go_ret
        exact ⟨rfl, hb⟩
      · go_wp2_with fail
        go_ret
        exact ⟨rfl, hb⟩
      · go_wp2_with fail
        go_ret
        exact ⟨rfl, hb⟩
      · go_wp2_with fail
        go_ret
        exact ⟨rfl, hb⟩
end Go.Proofs.Yteaenhmiomoocaa
