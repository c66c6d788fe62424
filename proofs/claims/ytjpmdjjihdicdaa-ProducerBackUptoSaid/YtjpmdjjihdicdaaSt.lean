/- A step of the laws (15): an operation on both tables; whether they agree. -/
import Derived.Test.YtjpmdjjihdicdaaBo
namespace Go.Proofs.Ytjpmdjjihdicdaa
open Go.RowKit Go.Shelf
attribute [local go_sem] Oper.semAt_some

def opV (x : OpD) (A : Option Addr) (c : Nat) : List Value := [.bool x.note, .int .i64 x.k, .int .i64 x.p, .int .i64 x.ep, .int .i64 x.s, .bool x.t, .slice A x.rs.length c, .int .i64 x.off]

/-- Behind the operation: both tables have turned alike. -/
def Stepped (W : World) (n0 tb mb nn rb : Nat) (gL : Option Nat) (m : List (Int × St)) (b5 b7 : Nat) (v5 v7 : List Value) (wx : World) : Prop :=
  ∃ gL', Both wx n0 tb mb nn rb gL' m ∧ NewOr W gL gL' ∧ FrS W wx mb rb gL ∧ Blk wx b5 v5 ∧ Blk wx b7 v7

set_option maxRecDepth 100000 in
set_option maxHeartbeats 2000000 in
theorem step_any (w : World) (n0 tb mb nn rb : Nat) (gL : Option Nat) (m : List (Int × St)) (h : Both w n0 tb mb nn rb gL m) (x : OpD) (A2 : Option Addr) (c2 : Nat) (hR : RecsAt w A2 x.rs) (hx : x.fits) (hnn : nn < 2932031007399)
    (hlo : ∀ b o, x.rs ≠ [] → A2 = some ⟨b, o, none⟩ → b ≠ mb ∧ b ≠ rb ∧ some b ≠ gL) :
    Calls Try.prog 15 #[.pointer (some ⟨tb, 0, none⟩), .pointer (some ⟨rb, 0, none⟩), .agg (opV x A2 c2).toArray] w fun e w' =>
      e = .returned (.bool true) ∧ ∃ gL', Both w' n0 tb mb (nn + 1) rb gL' (stepM m x) ∧ NewOr w gL gL' ∧ FrS w w' mb rb gL := by
  obtain ⟨xn, k, p, ep, s, t, rs, off⟩ := x
  obtain ⟨f1, f2, f3, f4, f5⟩ := hx
  dsimp only at f1 f2 f3 f4 f5 hR hlo
  replace hlo := Lib.hid hlo
  simp only [opV]
  go_enter Try.func15, Try.ntmps15
  go_wp2_with fail
  refine (copied_new k p ep s t rs A2 c2 _ (hR.below (bl_alloc (Below.refl _ _) _))).mono ?_
  rintro e w2 ⟨A7, c7, rfl, hR7, hnew7, hb2⟩
  have hB5 := (Blk.new' (w := w) #[.bool xn, .int .i64 k, .int .i64 p, .int .i64 ep, .int .i64 s, .bool t, .slice A2 rs.length c2, .int .i64 off] 33 rfl).below hb2 (by simp)
  have hnew7' := Lib.hid (fun b o hn hA => h.far (b := b) (by have := hnew7 b o hn hA; simp at this; omega))
  clear hnew7
  replace hb2 := bl_tr (bl_alloc (Below.refl _ _) _) hb2
  have q5 := hB5.cell
  have l5 := hB5.lt
  go_upto_if 22 with fail
  have hB7 : Blk (w2.alloc (.cells #[.int .i64 k, .int .i64 p, .int .i64 ep, .int .i64 s, .bool t, .slice A7 rs.length c7] 30)) w2.heap.size [.int .i64 k, .int .i64 p, .int .i64 ep, .int .i64 s, .bool t, .slice A7 rs.length c7] := Blk.new' _ _ rfl
  have hbW := bl_alloc hb2 (.cells #[.int .i64 k, .int .i64 p, .int .i64 ep, .int .i64 s, .bool t, .slice A7 rs.length c7] 30)
  have hBW := h.below hbW
  have hRW := hR.below hbW
  have hR7W := hR7.below (bl_alloc (Below.refl _ _) (.cells #[.int .i64 k, .int .i64 p, .int .i64 ep, .int .i64 s, .bool t, .slice A7 rs.length c7] 30))
  have hB5W := hB5.alloc (.cells #[.int .i64 k, .int .i64 p, .int .i64 ep, .int .i64 s, .bool t, .slice A7 rs.length c7] 30)
  have hne57 : w.heap.size < w2.heap.size := hB5.lt
  have hl5 := hB5W.lt
  have hl7 := hB7.lt
  clear hB5 hb2 hR7 hR q5 l5
  generalize w2.alloc (.cells #[.int .i64 k, .int .i64 p, .int .i64 ep, .int .i64 s, .bool t, .slice A7 rs.length c7] 30) = W at *
  have q5 := hB5W.cell
  have q7 := hB7.cell
  replace h := Lib.hid h
  go_cut [] from 23 to 64 (fun wx => Stepped W n0 tb mb (nn + 1) rb gL (stepM m ⟨xn, k, p, ep, s, t, rs, off⟩) w.heap.size w2.heap.size [.bool xn, .int .i64 k, .int .i64 p, .int .i64 ep, .int .i64 s, .bool t, .slice A2 rs.length c2, .int .i64 off] [.int .i64 k, .int .i64 p, .int .i64 ep, .int .i64 s, .bool t, .slice A7 rs.length c7] wx)
  case first =>
    cases xn
    · have hds := Lib.hid (show ∀ st, lookI m p = some st → st.ds.length ≤ 4611686018427387904 from fun st h' => by have := (hBW.good.look h').2.2; omega)
      have hml := hBW.im.length_le
      go_wp2_with fail
      refine (decide_any tb mb nn m k p ep s t A7 c7 rs _ hBW.tab hBW.im hR7W f4 hds.out).mono ?_
      obtain ⟨D, hD⟩ : ∃ D, decideF (lookI m p) k p ep s t rs = D := ⟨_, rfl⟩
      have HD := Lib.hid hD
      rw [hD]
      clear hD
      obtain ⟨D1, D2, D3⟩ := D
      rintro e w3 ⟨rfl, hb3⟩
      obtain ⟨A, c, vs, hr⟩ := (hBW.below hb3).ref
      replace q5 := (hB5W.below hb3 hl5).cell
      replace q7 := (hB7.below hb3 hl7).cell
      have hRX := hRW.below hb3
      go_wp2_with fail
      refine (rdecide_any rb A c (m.map entOf) k p ep s t rs A2 c2 _ hr.tab hr.ents (by simp; omega) (fun x hx => by have := (hBW.good.ents x hx).1; omega) hRX f4).mono ?_
      rw [decideR_eq, HD.out]
      unfold trip
      rintro e w4 ⟨rfl, hb4⟩
      dsimp only
      have hb34 := bl_tr hb3 hb4
      clear q5 q7 hr hRX
      go_wp2_with (go_at_call 13; refine (num_any _ _).mono ?_; rintro e w' ⟨rfl, rfl⟩)
      go_meet
      case rel => exact ⟨gL, (hBW.below hb34).mono' (by omega), .inl rfl, FrS.of_below hb34 _ _ _, hB5W.below hb34 hl5, hB7.below hb34 hl7⟩
    · have hds := Lib.hid (show ∀ st, lookI m p = some st → st.ds.length ≤ 4611686018427387904 ∧ 0 ≤ st.next ∧ st.next ≤ 2147483648 from fun st h' => by have := hBW.good.look h'; omega)
      have hml := hBW.im.length_le
      have hgd := hBW.good.note k p ep s t rs off
      have hso := hBW.im.sorted Try.underlying3
      have hnr := noteR_eq m hso k p ep s t rs off
      have hf5 := h.out.far (b := w.heap.size) (Nat.le_refl _)
      have hf7 := h.out.far (b := w2.heap.size) (by omega)
      have hne5 := hf5.1
      have hne7 := hf7.1
      obtain ⟨X, hX⟩ : ∃ X, noteF m k p ep s t rs off = X := ⟨_, rfl⟩
      have HX := Lib.hid hX
      rw [hX] at hgd hnr
      replace hnr := Lib.hid hnr
      clear hX
      obtain ⟨X1, X2⟩ := X
      dsimp only at hgd
      replace hso := Lib.hid hso
      go_wp2_with fail
      go_region_held3 (fun w' => ((∀ o, w'.cell? ⟨w.heap.size, o, none⟩ = W.cell? ⟨w.heap.size, o, none⟩) ∧ w.heap.size < w'.heap.size) ∧ ((∀ o, w'.cell? ⟨w2.heap.size, o, none⟩ = W.cell? ⟨w2.heap.size, o, none⟩) ∧ w2.heap.size < w'.heap.size))
        (first | exact ⟨⟨fun _ => rfl, hl5⟩, ⟨fun _ => rfl, hl7⟩⟩ | exact ⟨ks_grown (W := W.drew) (w2 := W) ⟨fun _ => rfl, hl5⟩ hg3 (by simpa using hne5), ks_grown (W := W.drew) (w2 := W) ⟨fun _ => rfl, hl7⟩ hg3 (by simpa using hne7)⟩ | exact ⟨ks_ref (ks_grown (W := W.drew) (w2 := W) ⟨fun _ => rfl, hl5⟩ hg3 (by simpa using hne5)) hN4 hf5.2.1 hf5.2.2, ks_ref (ks_grown (W := W.drew) (w2 := W) ⟨fun _ => rfl, hl7⟩ hg3 (by simpa using hne7)) hN4 hf7.2.1 hf7.2.2⟩)
        (first | (go_at_call 14; refine (note_any tb mb nn m k p ep s t A7 c7 rs off _ hBW.tab.drew hBW.im.drew (hR7W.below (keep_drew W).2) f4 (by simp only [maxLen]; omega) hds.out).mono ?_; rw [HX.out]; rintro e w3 ⟨rfl, hM3, hg3⟩; have hg3' : W.grownBy w3 (some mb) := ⟨hg3.os, hg3.tape, hg3.output, hg3.size, hg3.block⟩; obtain ⟨A, c, vs, hr3⟩ := hBW.turned hg3'; have hR3 := hRW.grownMap hBW.im hg3') | (go_at_call 13; refine (num_any _ _).mono ?_; rintro e w' ⟨rfl, rfl⟩) | (go_at_call 23; refine (rnote_any n0 rb gL (m.map entOf) A c vs k p ep s t rs off A2 c2 _ hr3 (Nat.le_trans hBW.nl hg3'.size) hBW.rl (by simp; omega) (sorted_ents hso.out) hBW.good.ents hR3 f4).mono ?_; rw [hnr.out]; rintro e w4 ⟨rfl, hN4⟩))
      obtain ⟨gL', hB4, hnew, hfr⟩ := hBW.noted hg3' hM3 hgd hN4
      have hB5X := hfr.blk hB5W hf5
      have hB7X := hfr.blk hB7 hf7
      go_wp2_with fail
      go_meet
      case rel => exact ⟨gL', by unfold stepM; dsimp only; rw [if_pos rfl, HX.out]; exact hB4, hnew, hfr, hB5X, hB7X⟩
  case rest =>
    obtain ⟨gL', hB, hnew, hfr, h5, h7⟩ := hcut
    clear hB5W hB7 q5 q7 hl5 hl7
    have hR2' := hRW.frS hfr hlo.out
    have hR7' := hR7W.frS hfr hnew7'.out
    have hfin := Lib.hid (And.intro h.out.nl hbW)
    generalize hm' : stepM m ⟨xn, k, p, ep, s, t, rs, off⟩ = m' at hB
    replace hm' := Lib.hid hm'
    have q5 := h5.cell
    have q7 := h7.cell
    have hl5 := h5.lt
    have hl7 := h7.lt
    have hB0 := hB
    have hml := hB.im.length_le
    have hrl := hB.rl
    have hwl := hB.nl
    have hgd := Lib.hid (fun x (hx : x ∈ m') => hB.good x hx)
    have hsz := hnn
    go_wp2_with fail
    refine (entries_any tb mb (nn + 1) m' _ hB.tab hB.im (by omega) (fun x hx => by obtain ⟨a, b, _⟩ := hgd.out x hx; unfold okI; omega) (fun x hx => by obtain ⟨_, _, _, _, a⟩ := hgd.out x hx; omega)).mono ?_
    rintro e w5 ⟨v, rfl, hE, hb5⟩
    obtain ⟨A9, c9, rfl⟩ := hE.slice
    simp only [List.length_map] at hE ⊢
    replace hB := hB.below hb5
    obtain ⟨A, c, vs, hr⟩ := hB.ref
    replace q5 := (h5.below hb5 hl5).cell
    replace q7 := (h7.below hb5 hl7).cell
    have qr := hr.tab.cell
    have lr := hr.tab.lt
    have hR2'' := hR2'.below hb5
    have hR7'' := hR7'.below hb5
    simp only [List.length_map] at qr
    go_wp2_with fail
    have HS := same_any A9 A c9 c (m'.map entOf) (m'.map entOf) w5 hE.ents hr.ents (by simp; omega) (fun x hx => by have := (hB.good.ents x hx).1; omega)
    simp only [List.length_map, decide_true] at HS
    refine HS.mono ?_
    clear HS
    rintro e w6 ⟨rfl, hb6⟩
    have hSp := hE.spoil
    have hb56 := bl_tr hb5 hb6
    replace hSp := hSp.below hb6
    replace hR2'' := hR2''.below hb6
    replace hR7'' := hR7''.below hb6
    replace hB := hB.below hb6
    replace q5 := (h5.below hb56 hl5).cell
    replace q7 := (h7.below hb56 hl7).cell
    clear hr qr lr hE
    go_wp2_with fail
    refine (bsame_any k p ep s t A7 A2 c7 c2 rs w6 hR7'' hR2'').mono ?_
    rintro e w7 ⟨rfl, hb7⟩
    replace hSp := hSp.below hb7
    replace hB := hB.below hb7
    replace hb56 := bl_tr hb56 hb7
    clear q5 q7 hR2'' hR7'' hR2' hR7'
    have hSl := hSp
    go_wp2_with fail
    have hlen : (m'.map entOf).length = m'.length := by simp
    have h5l : Hid (∀ x ∈ m'.map entOf, x.last.length ≤ 5) := Lib.hid (fun x hx => (hB.good.ents x hx).1)
    generalize m'.map entOf = le at hSp hlen h5l
    clear hSl
    have hlen1 : le.length ≤ m'.length := by omega
    have hlen2 : m'.length ≤ le.length := by omega
    clear hlen
    go_loopw [16] (fun u wr => ∃ i : Nat, i ≤ m'.length ∧ u = .int .i64 i ∧ SpoilAt wr wc.heap.size A9 le ∧ Below wc.heap.size wc wr) (fun u _ => m'.length - (intOf u).toNat)
    case atStart => exact ⟨0, Nat.zero_le _, rfl, hSp, hb56⟩
    case round =>
      obtain ⟨i, hi, rfl, hSi, hbi⟩ := hrel
      clear hSp
      by_cases hlt : i < m'.length
      · obtain ⟨g, A', c', rfl, hgt, hgb, g3, hin⟩ := hSi i (by omega)
        have h55 := h5l.out le[i] (List.getElem_mem _)
        generalize hnl : le[i].last.length = nl at g3 hin h55
        replace hnl := Lib.hid hnl
        have hI0 : (0 : Int) ≤ (i : Int) := by omega
        have hgl := hgt.lt
        clear hin
        go_wp2_with fail
        go_loopw [17] (fun u wr => ∃ j : Nat, j ≤ nl ∧ u = .int .i64 j ∧ SpoilAt wr wc.heap.size (some ⟨g, 0, none⟩) le ∧ Below wc.heap.size wc wr) (fun u _ => nl - (intOf u).toNat)
        case atStart => exact ⟨0, Nat.zero_le _, rfl, hSi, hbi⟩
        case round =>
          obtain ⟨j, hj, rfl, hSj, hbj⟩ := hrel
          clear hSi hbi g3 hgt hgl
          obtain ⟨g', A2', c2', hgg, hgt', hgb', g3', hin'⟩ := hSj i (by omega)
          cases hgg
          rw [hnl.out] at g3' hin'
          have hgl := hgt'.lt
          by_cases hjl : j < nl
          · obtain ⟨b, v, rfl, hbt, hbb, hbc, hbf⟩ := hin' j hjl
            have hbl := hbt.lt
            replace hin' := Lib.hid hin'
            go_wp2_with fail
            go_roundw
            case rel => exact ⟨j + 1, by omega, by go_num, hSj.set hbt _ _, bl_set hbj hbb _⟩
            case measure => simp [intOf]; omega
          · obtain rfl : j = nl := by omega
            replace hin' := Lib.hid hin'
            go_wp2_with fail
            go_roundw
            case rel => exact ⟨i + 1, by omega, by go_num, hSj, hbj⟩
            case measure => simp [intOf]; omega
      · go_wp2_with fail
        go_ret
        refine ⟨rfl, gL', ?_, ?_, ?_⟩
        · rw [hm'.out]; exact hB0.below hbi
        · exact (NewOr.refl w gL).tr hnew hbW.size
        · exact (FrS.of_below hbW mb rb gL).tr (hfr.tr (FrS.of_below hbi mb rb gL') hnew) (.inl rfl)
end Go.Proofs.Ytjpmdjjihdicdaa
