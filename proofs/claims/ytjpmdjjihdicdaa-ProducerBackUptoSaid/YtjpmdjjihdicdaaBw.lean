/- The walk of ProducerBack. -/
import Derived.Test.YtjpmdjjihdicdaaBk
import Derived.Test.YtjpmdjjihdicdaaPl
import Derived.Test.YtjpmdjjihdicdaaPy
namespace Go.Proofs.Ytjpmdjjihdicdaa
open Go.RowKit Go.Shelf
attribute [local go_sem] Oper.semAt_some

/-- A table of the program's. -/
structure Tab (w : World) (tb mb nn : Nat) (m : List (Int × St)) : Prop where
  tab : Blk w tb [.map (some mb)]
  im : IM Try.prog 3 w mb nn stV m
  good : GoodM m nn
theorem Tab.below {w w' : World} {tb mb nn : Nat} {m : List (Int × St)} (h : Tab w tb mb nn m) (hb : Below w.heap.size w w') : Tab w' tb mb nn m := ⟨h.tab.below hb h.tab.lt, h.im.below hb h.im.lt, h.good⟩
theorem Tab.mono {w : World} {tb mb nn nn' : Nat} {m : List (Int × St)} (h : Tab w tb mb nn m) (hn : nn ≤ nn') : Tab w tb mb nn' m := ⟨h.tab, h.im.mono hn, h.good.mono hn⟩
theorem Tab.drew {w : World} {tb mb nn : Nat} {m : List (Int × St)} (h : Tab w tb mb nn m) : Tab w.drew tb mb nn m := ⟨h.tab.drew, h.im.drew, h.good⟩
theorem Tab.ds {w : World} {tb mb nn : Nat} {m : List (Int × St)} (h : Tab w tb mb nn m) (hn : nn ≤ 1000000000) (p : Int) : ∀ st, lookI m p = some st → st.ds.length ≤ 4611686018427387904 ∧ 0 ≤ st.next ∧ st.next ≤ 2147483648 := fun st hs => by
  have := h.good.look hs
  omega
theorem Tab.sorted {w : World} {tb mb nn : Nat} {m : List (Int × St)} (h : Tab w tb mb nn m) : m.Pairwise fun a b => a.1 < b.1 := h.im.sorted Try.underlying3
/-- A table turns: another one stays. -/
theorem Tab.other {w w' : World} {tb mb nn tb' mb' nn' : Nat} {m m' : List (Int × St)} (h : Tab w tb mb nn m) (k : Tab w tb' mb' nn' m') (hg : w.grownBy w' (some mb)) (hne : mb' ≠ mb) : Tab w' tb' mb' nn' m' :=
  ⟨k.tab.grown hg (by intro e; simp only [Option.some.injEq] at e; exact h.im.ne_cell (k.tab.get (j := 0) rfl) e), k.im.grown hg (by simpa using hne), k.good⟩
theorem Tab.noted {w w' : World} {tb mb nn : Nat} {m m' : List (Int × St)} (h : Tab w tb mb nn m) (hg : w.grownBy w' (some mb)) (hM : IM Try.prog 3 w' mb (nn + 1) stV m') (hgd : GoodM m' (nn + 1)) : Tab w' tb mb (nn + 1) m' :=
  ⟨h.tab.grown hg (by intro e; simp only [Option.some.injEq] at e; exact h.im.ne_cell (h.tab.get (j := 0) rfl) e), hM, hgd⟩
theorem ents_ok {m : List (Int × St)} (h : GoodR m) : ∀ x ∈ m.map entOf, EntOk x := by
  intro x hx
  obtain ⟨y, hy, rfl⟩ := List.mem_map.1 hx
  obtain ⟨a, b, c, d, e, f, g⟩ := h y hy
  have hl := lasts_length y.2.ds
  refine ⟨?_, ?_, fun z hz => ?_⟩
  · simp only [entOf, okI]; omega
  · simp only [entOf]; omega
  · have := (h.right y hy).2 z hz
    simp only [okI]; omega

set_option maxRecDepth 100000 in
set_option maxHeartbeats 4000000 in
theorem back_any (A B : Option Addr) (ca cb : Nat) (la lb : List OpD) (w : World) (hA : OpsAt w A la) (hB : OpsAt w B lb) (hla : la.length ≤ 1048576) (hlb : lb.length ≤ 1048576) :
    Calls Try.prog 7 #[.slice A la.length ca, .slice B lb.length cb] w fun e w' => e = .returned (.bool true) ∧ Below w.heap.size w w' := by
  obtain ⟨hT, hM⟩ := table_new w
  have hb0 : Below w.heap.size w ((w.alloc (.map #[] 0)).alloc (.cells #[.map (some w.heap.size)] 65)) := bl_alloc (bl_alloc (Below.refl _ _) _) _
  have hT0 : Tab ((w.alloc (.map #[] 0)).alloc (.cells #[.map (some w.heap.size)] 65)) (w.heap.size + 1) w.heap.size 0 [] := ⟨hT, hM, GoodM.nil 0⟩
  clear hT hM
  go_enter Try.func7, Try.ntmps7
  go_wp2_with (go_at_call 9; refine (new_any _).mono ?_; rintro e w' ⟨rfl, rfl⟩)
  refine (knows_any _).mono ?_
  rintro e w1 ⟨rfl, hk⟩
  replace hT0 := hT0.below hk
  replace hb0 := bl_tr hb0 hk
  clear hk
  go_wp2_with fail
  go_loopw [6] (fun u wr => ∃ (i : Nat) (m : List (Int × St)), i ≤ la.length ∧ u = .int .i64 i ∧ Tab wr (w.heap.size + 1) w.heap.size i m ∧ GoodR m ∧ Below w.heap.size w wr) (fun u _ => la.length - (intOf u).toNat)
  case atStart => exact ⟨0, [], Nat.zero_le _, rfl, hT0, GoodR.nil, hb0⟩
  case round =>
    obtain ⟨i, m, hi, rfl, hTr, hgr, hbr⟩ := hrel
    clear hT0 hb0
    replace hgr := Lib.hid hgr
    have hi0 : (0 : Int) ≤ (i : Int) := by omega
    by_cases hlt : i < la.length
    · obtain ⟨b, oo, A', c', rfl, hbl, hR, hF, hlo, d0, d1, d2, d3, d4, d5, d6, d7⟩ := hA.later hbr i hlt
      generalize la[i] = x at *
      obtain ⟨xn, k, p, ep, s, t, rs, off⟩ := x
      obtain ⟨f1, f2, f3, f4, f5⟩ := hF
      dsimp only at f1 f2 f3 f4 f5 hR hlo d0 d1 d2 d3 d4 d5 d6 d7
      clear hlo d0 d7
      go_wp2_with fail
      refine (copied_any k p ep s t rs A' c' _ hR).mono ?_
      rintro e w2 ⟨A2, c2, rfl, hR2, hb2⟩
      replace hTr := hTr.below hb2
      replace hbr := bl_tr hbr hb2
      clear hb2 hbl d1 d2 d3 d4 d5 d6 hR
      have hds := Lib.hid (hTr.ds (by omega) p)
      have hgd := hTr.good.note k p ep s t rs i
      have hgr2 := Lib.hid (hgr.out.note k p ep s t rs i)
      generalize hX : noteF m k p ep s t rs i = X at hgd hgr2
      have HX := Lib.hid hX
      clear hX
      obtain ⟨X1, X2⟩ := X
      dsimp only at hgd hgr2
      go_wp2_with fail
      refine (note_any (w.heap.size + 1) w.heap.size i m k p ep s t A2 c2 rs i _ hTr.tab hTr.im hR2 f4 (by simp only [maxLen]; omega) hds.out).mono ?_
      rw [HX.out]
      rintro e w3 ⟨rfl, hM3, hg3⟩
      have hT3 := hTr.noted hg3 hM3 hgd
      have hb3 : Below w.heap.size w w3 := bl_gr hbr hg3 (Nat.le_refl _)
      clear hTr hbr hM3 hg3 hR2
      go_wp2_with fail
      go_roundw
      case rel => exact ⟨i + 1, X2, by omega, by go_num, hT3, hgr2.out, hb3⟩
      case measure => simp [intOf]; omega
    · obtain rfl : i = la.length := by omega
      have hz0 : w.heap.size + 1 < wr.heap.size := hTr.tab.lt
      have hml := hTr.im.length_le
      go_wp2_with fail
      refine (entries_any (w.heap.size + 1) w.heap.size la.length m _ hTr.tab hTr.im (by omega) (fun x hx => by have := hgr.out x hx; unfold okI; omega) (fun x hx => by have := (hTr.good x hx).2.2.2.2; omega)).mono ?_
      rintro e w2 ⟨v, rfl, hE, hb2⟩
      obtain ⟨A2, c2, rfl⟩ := hE.slice
      have hE2 := hE.ents
      replace hTr := hTr.below hb2
      replace hbr := bl_tr hbr hb2
      have hz2 := hb2.size
      clear hb2 hE
      go_wp2_with fail
      have HP := pload_any A2 c2 (m.map entOf) w2 hE2 (ents_ok hgr.out) (by simp; omega)
      simp only [List.length_map] at HP
      refine HP.mono ?_
      clear HP
      have hgl := hgr.out.load hTr.sorted
      rintro e w3 ⟨hb3, ⟨hg2, _⟩ | ⟨_, tb, mb, rfl, hT, hM, htb, hmb, hml3⟩⟩
      case inl => rw [hgl] at hg2; cases hg2
      replace hTr := hTr.below hb3
      replace hbr := bl_tr hbr hb3
      simp only [List.length_map] at hM
      have hU : Tab w3 tb mb (la.length + 5) (loadM (m.map entOf)) := ⟨hT, hM.mono (by omega), (goodL_good hgl).mono (by omega)⟩
      have hal := Lib.hid (show (loadM (m.map entOf)).map entOf = m.map entOf from loadM_ents hgl)
      generalize loadM (m.map entOf) = m' at hU hal
      clear hT hM hE2 hgl hb3
      go_wp2_with (go_at_call 13; refine (num_any _ _).mono ?_; rintro e w' ⟨rfl, rfl⟩)
      go_loopw [9] (fun u wr => ∃ (j : Nat) (m m' : List (Int × St)), j ≤ lb.length ∧ u = .int .i64 j ∧ Tab wr (w.heap.size + 1) w.heap.size (la.length + j) m ∧ Tab wr tb mb (la.length + 5 + j) m' ∧ Hid (m'.map entOf = m.map entOf) ∧ Below w.heap.size w wr) (fun u _ => lb.length - (intOf u).toNat)
      case atStart => exact ⟨0, m, m', Nat.zero_le _, rfl, hTr, hU, hal, hbr⟩
      case round =>
        clear hTr hU hal hbr hgr hml
        obtain ⟨j, m, m', hj, rfl, hTr, hU, hal, hbr⟩ := hrel
        have hj0 : (0 : Int) ≤ (j : Int) := by omega
        by_cases hlt : j < lb.length
        · obtain ⟨b, oo, A', c', rfl, hbl, hR, hF, hlo, d0, d1, d2, d3, d4, d5, d6, d7⟩ := hB.later hbr j hlt
          generalize lb[j] = x at *
          obtain ⟨xn, k, p, ep, s, t, rs, off⟩ := x
          obtain ⟨f1, f2, f3, f4, f5⟩ := hF
          dsimp only at f1 f2 f3 f4 f5 hR hlo d0 d1 d2 d3 d4 d5 d6 d7
          have hdt := Lib.hid (hTr.ds (by omega) p)
          have hdu := Lib.hid (hU.ds (by omega) p)
          obtain ⟨D, hD⟩ : ∃ D, decideF (lookI m p) k p ep s t rs = D := ⟨_, rfl⟩
          have HD := Lib.hid hD
          have HD' := Lib.hid (show decideF (lookI m' p) k p ep s t rs = D from by rw [← hD]; exact decide_alike hal.out k p ep s t rs)
          clear hD
          obtain ⟨D1, D2, D3⟩ := D
          have K0 : ∀ w', Below wr.heap.size wr w' → ∀ o, w'.cell? ⟨b, o, none⟩ = wr.cell? ⟨b, o, none⟩ := fun w' h o => h.cell (p := ⟨b, o, none⟩) hbl
          replace K0 := Lib.hid K0
          go_wp2_with fail
          refine (copied_any k p ep s t rs A' c' _ hR).mono ?_
          rintro e w4 ⟨A4, c4, rfl, hR4, hb4⟩
          have hT4 := hTr.below hb4
          go_wp2_with fail
          refine (decide_any (w.heap.size + 1) w.heap.size (la.length + j) m k p ep s t A4 c4 rs _ hT4.tab hT4.im hR4 f4 (fun st h => (hdt.out st h).1)).mono ?_
          rw [HD.out]
          rintro e w5 ⟨rfl, hb5⟩
          have hb45 := bl_tr hb4 hb5
          have hk5 := K0.out w5 hb45
          have hR5 := hR.below hb45
          clear hb4 hb5 hR4 hT4
          go_wp2_with fail
          refine (copied_any k p ep s t rs A' c' _ hR5).mono ?_
          rintro e w6 ⟨A6, c6, rfl, hR6, hb6⟩
          have hb46 := bl_tr hb45 hb6
          have hU6 := hU.below hb46
          clear hk5 hR5
          go_wp2_with fail
          refine (decide_any tb mb (la.length + 5 + j) m' k p ep s t A6 c6 rs _ hU6.tab hU6.im hR6 f4 (fun st h => (hdu.out st h).1)).mono ?_
          rw [HD'.out]
          rintro e w7 ⟨rfl, hb7⟩
          have hb47 := bl_tr hb46 hb7
          have hT7 := hTr.below hb47
          have hU7 := hU.below hb47
          have hR7 := hR.below hb47
          have hbr7 := bl_tr hbr hb47
          have e0 := (K0.out w7 hb47 _).trans d0
          have e1 := (K0.out w7 hb47 _).trans d1
          have e2 := (K0.out w7 hb47 _).trans d2
          have e3 := (K0.out w7 hb47 _).trans d3
          have e4 := (K0.out w7 hb47 _).trans d4
          have e5 := (K0.out w7 hb47 _).trans d5
          have e6 := (K0.out w7 hb47 _).trans d6
          have hbl7 : b < w7.heap.size := Nat.lt_of_lt_of_le hbl hb47.size
          clear hb45 hb6 hb7 hb46 hU6 hR6 d0 d1 d2 d3 d4 d5 d6 d7 hTr hU hR hbr hbl K0 hb47
          cases xn
          · go_wp2_with fail
            go_quiet (fail)
            go_wp2_with fail
            go_roundw
            case rel => exact ⟨j + 1, m, m', by omega, by go_num, (hT7.below (bl_drewN (Below.refl _ _) _)).mono (by omega), (hU7.below (bl_drewN (Below.refl _ _) _)).mono (by omega), hal, bl_drewN hbr7 _⟩
            case measure => simp [intOf]; omega
          · have hneT : b ≠ w.heap.size := hT7.im.ne_cell e0
            have hneU : b ≠ mb := hU7.im.ne_cell e0
            have hmw : mb ≠ w.heap.size := by omega
            have hgd := hT7.good.note k p ep s t rs j
            have hgd' := hU7.good.note k p ep s t rs j
            have hna := note_alike hal.out hU7.sorted hT7.sorted k p ep s t rs j
            obtain ⟨X, hX⟩ : ∃ X, noteF m k p ep s t rs j = X := ⟨_, rfl⟩
            obtain ⟨Y, hY⟩ : ∃ Y, noteF m' k p ep s t rs j = Y := ⟨_, rfl⟩
            rw [hX, hY] at hna
            rw [hX] at hgd
            rw [hY] at hgd'
            obtain ⟨X1, X2⟩ := X
            obtain ⟨Y1, Y2⟩ := Y
            dsimp only at hna hgd hgd'
            obtain ⟨rfl, hna2⟩ := hna
            have HX := Lib.hid hX
            have HY := Lib.hid hY
            replace hna2 := Lib.hid hna2
            clear hX hY
            go_wp2_with fail
            go_region_held3 (fun w' => (∀ o, w'.cell? ⟨b, o, none⟩ = w7.cell? ⟨b, o, none⟩) ∧ b < w'.heap.size)
              (first | exact ⟨fun _ => rfl, hbl7⟩ | assumption)
              (first | (go_at_call 11; refine (copied_any k p ep s t rs A' c' _ (hR7.below (keep_drew w7).2)).mono ?_; rintro e w8 ⟨A8, c8, rfl, hR8, hb8⟩; have S8 : (∀ o, w8.cell? ⟨b, o, none⟩ = w7.cell? ⟨b, o, none⟩) ∧ b < w8.heap.size := ks_below (W := w7.drew) ⟨fun _ => rfl, hbl7⟩ hb8; have hT8 := (hT7.drew).below hb8; have hU8 := (hU7.drew).below hb8; have hR78 := (hR7.below (keep_drew w7).2).below hb8; have hbr8 := bl_tr (bl_drew hbr7) hb8; clear hR7) | (go_at_call 14; refine (note_any (w.heap.size + 1) w.heap.size (la.length + j) m k p ep s t A8 c8 rs j _ hT8.tab hT8.im hR8 f4 (by simp only [maxLen]; omega) hdt.out).mono ?_; rw [HX.out]; rintro e w9 ⟨rfl, hM9, hg9⟩; have S9 := ks_grown S8 hg9 (by simpa using hneT); have hT9 := hT8.noted hg9 hM9 hgd; have hU9 := hT8.other hU8 hg9 hmw; have hR9 := hR78.grownMap hT8.im hg9; have hbr9 := bl_gr hbr8 hg9 (Nat.le_refl _); clear hT8) | (go_at_call 11; refine (copied_any k p ep s t rs A' c' _ hR9).mono ?_; rintro e w10 ⟨A10, c10, rfl, hR10, hb10⟩; have S10 := ks_below S9 hb10; have hT10 := hT9.below hb10; have hU10 := hU9.below hb10; have hbr10 := bl_tr hbr9 hb10) | (go_at_call 14; refine (note_any tb mb (la.length + 5 + j) m' k p ep s t A10 c10 rs j _ hU10.tab hU10.im hR10 f4 (by simp only [maxLen]; omega) hdu.out).mono ?_; rw [HY.out]; rintro e w11 ⟨rfl, hM11, hg11⟩; have S11 := ks_grown S10 hg11 (by simpa using hneU); have hU11 := hU10.noted hg11 hM11 hgd'; have hT11 := hU10.other hT10 hg11 (Ne.symm hmw); have hbr11 := bl_gr hbr10 hg11 (by omega)))
            go_wp2_with fail
            go_roundw
            case rel => exact ⟨j + 1, X2, Y2, by omega, by go_num, hT11, hU11, hna2, hbr11⟩
            case measure => simp [intOf]; omega
        · obtain rfl : j = lb.length := by omega
          have hmm := Lib.hid (show m'.length = m.length from by have := congrArg List.length hal.out; simpa using this)
          have hml := hTr.im.length_le
          have hul := hU.im.length_le
          have hgt := Lib.hid (fun x (hx : x ∈ m) => hTr.good x hx)
          have hgu := Lib.hid (fun x (hx : x ∈ m') => hU.good x hx)
          go_wp2_with fail
          refine (entries_any (w.heap.size + 1) w.heap.size (la.length + lb.length) m _ hTr.tab hTr.im (by omega) (fun x hx => by obtain ⟨a, b, _⟩ := hgt.out x hx; unfold okI; omega) (fun x hx => by obtain ⟨_, _, _, _, a⟩ := hgt.out x hx; omega)).mono ?_
          rintro e w4 ⟨v, rfl, hE, hb4⟩
          obtain ⟨A4, c4, rfl⟩ := hE.slice
          have hU4 := hU.below hb4
          simp only [List.length_map]
          clear hE hTr
          go_wp2_with fail
          refine (entries_any tb mb (la.length + 5 + lb.length) m' _ hU4.tab hU4.im (by omega) (fun x hx => by obtain ⟨a, b, _⟩ := hgu.out x hx; unfold okI; omega) (fun x hx => by obtain ⟨_, _, _, _, a⟩ := hgu.out x hx; omega)).mono ?_
          rintro e w5 ⟨v, rfl, hE, hb5⟩
          obtain ⟨A5, c5, rfl⟩ := hE.slice
          simp only [List.length_map]
          rw [hmm.out]
          go_wp2_with fail
          go_ret
          exact ⟨by first | rfl | simp, bl_tr hbr (bl_tr hb4 hb5)⟩
end Go.Proofs.Ytjpmdjjihdicdaa
