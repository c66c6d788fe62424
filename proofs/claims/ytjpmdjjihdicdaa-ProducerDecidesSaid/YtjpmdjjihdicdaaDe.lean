/- The walk of ProducerDecides. -/
import Derived.Test.YtjpmdjjihdicdaaLo
namespace Go.Proofs.Ytjpmdjjihdicdaa
open Go.RowKit Go.Shelf
attribute [local go_sem] Oper.semAt_some

set_option maxRecDepth 100000 in
set_option maxHeartbeats 4000000 in
theorem decides_any (A A2 : Option Addr) (ca c2 : Nat) (l : List Ent) (k p ep s off : Int) (t : Bool) (rs : List Rec) (w : World) (hE : EntsAt w A l) (hf : ∀ x ∈ l, EntOk x) (hfl : ∀ x ∈ l, x.last.length ≤ 5864062014805) (hl : l.length ≤ 2932031007318)
    (hR : RecsAt w A2 rs) (hb : okI k ∧ okI p ∧ okI ep ∧ okI s ∧ okI off) :
    Calls Try.prog 8 #[.slice A l.length ca, .agg #[.int .i64 k, .int .i64 p, .int .i64 ep, .int .i64 s, .bool t, .slice A2 rs.length c2], .int .i64 off] w fun e w' => e = .returned (.bool true) ∧ Below w.heap.size w w' := by
  obtain ⟨f1, f2, f3, f4, f5⟩ := hb
  replace hf := Lib.hid hf
  replace hfl := Lib.hid hfl
  have hlo := Lib.hid (fun b o (hn : rs ≠ []) (e : A2 = some ⟨b, o, none⟩) => show b < w.heap.size from by
    obtain ⟨b2, o2, e2, h2, _⟩ := hR.2 0 (by cases hh : rs with | nil => exact absurd hh hn | cons => simp)
    rw [e] at e2; cases e2; exact h2)
  go_enter Try.func8, Try.ntmps8
  go_wp2_with fail
  have hB0 : Blk (w.alloc (.cells #[.int .i64 k, .int .i64 p, .int .i64 ep, .int .i64 s, .bool t, .slice A2 rs.length c2] 30)) w.heap.size [.int .i64 k, .int .i64 p, .int .i64 ep, .int .i64 s, .bool t, .slice A2 rs.length c2] := Blk.new' _ _ rfl
  have hb0 : Below w.heap.size w (w.alloc (.cells #[.int .i64 k, .int .i64 p, .int .i64 ep, .int .i64 s, .bool t, .slice A2 rs.length c2] 30)) := bl_alloc (Below.refl _ _) _
  refine (own_any A ca l _ (hE.below hb0) (by omega) (fun x hx => by have := hfl.out x hx; omega)).mono ?_
  rintro e w1 ⟨v, rfl, hX, hb1⟩
  have hz0 : w.heap.size < w1.heap.size := (hB0.below hb1 hB0.lt).lt
  replace hB0 := hB0.below hb1 hB0.lt
  replace hb1 := bl_tr hb0 hb1
  clear hb0
  obtain ⟨A1, c1, rfl⟩ := hX.slice
  have hX1 := hX.ents
  clear hX
  go_wp2_with fail
  refine (pload_any A1 c1 l _ hX1 hf.out (by omega)).mono ?_
  rintro e w2 ⟨hb2, hc2⟩
  have hE2 := hE.below (bl_tr hb1 hb2)
  replace hB0 := hB0.below hb2 hB0.lt
  rcases hc2 with ⟨hg, rfl⟩ | ⟨hg, tb, mb, rfl, hT, hM, htb, hmb, hml⟩
  · go_wp2_with fail
    refine (rload_any A ca l _ hE2 hf.out (by omega) hfl.out).mono ?_
    rintro e w3 ⟨hb3, ⟨_, rfl⟩ | ⟨hg2, _⟩⟩
    case inr => rw [hg] at hg2; cases hg2
    go_wp2_with (first | (go_at_call 13; refine (num_any _ _).mono ?_; rintro e w' ⟨rfl, rfl⟩) | (go_at_call 10; refine (knows_any _).mono ?_; rintro e w' ⟨rfl, hx9⟩))
    go_ret
    exact ⟨rfl, bl_tr (bl_tr hb1 (bl_tr hb2 hb3)) hx9⟩
  · go_wp2_with fail
    refine (rload_any A ca l _ hE2 hf.out (by omega) hfl.out).mono ?_
    rintro e w3 ⟨hb3, ⟨hg2, _⟩ | ⟨_, rfl, gL, A3, c3, vs, hr⟩⟩
    case inl => rw [hg] at hg2; cases hg2
    have hBo := Both.loaded hg hT hM hb3 hr
    have hz1 := hb1.size
    have hz2 := hb2.size
    have HB := bl_tr hb1 (bl_tr hb2 hb3)
    replace hB0 := hB0.below hb3 hB0.lt
    clear hX1 hE2 hE hb1 hb2 hb3 hg hT hM hr
    have q0 := hB0.cell
    have l0 := hB0.lt
    go_wp2_with (go_at_call 13; refine (num_any _ _).mono ?_; rintro e w' ⟨rfl, rfl⟩)
    have hml := hBo.im.length_le
    have hnn : l.length + 5 < 2932031007399 := by omega
    have hds := Lib.hid (show ∀ st, lookI (loadM l) p = some st → st.ds.length ≤ 4611686018427387904 ∧ 0 ≤ st.next ∧ st.next ≤ 2147483648 from fun st h' => by have := hBo.good.look h'; omega)
    have hgd := hBo.good.note k p ep s t rs off
    have hso := hBo.im.sorted Try.underlying3
    have hnr := noteR_eq (loadM l) hso k p ep s t rs off
    obtain ⟨X, hX⟩ : ∃ X, noteF (loadM l) k p ep s t rs off = X := ⟨_, rfl⟩
    have HX := Lib.hid hX
    rw [hX] at hgd hnr
    replace hnr := Lib.hid hnr
    clear hX
    obtain ⟨X1, X2⟩ := X
    dsimp only at hgd
    replace hso := Lib.hid hso
    obtain ⟨D, hD⟩ : ∃ D, decideF (lookI (loadM l) p) k p ep s t rs = D := ⟨_, rfl⟩
    have HD := Lib.hid hD
    clear hD
    obtain ⟨D1, D2, D3⟩ := D
    have hgl := Lib.hid (fun q (e : gL = some q) => hBo.gl e)
    have hne0 : w.heap.size ≠ mb ∧ w.heap.size ≠ w2.heap.size ∧ some w.heap.size ≠ gL := ⟨by omega, by omega, fun e => by have := (hgl.out _ e.symm).1; omega⟩
    have hneA : ∀ b o, rs ≠ [] → A2 = some ⟨b, o, none⟩ → b ≠ mb ∧ b ≠ w2.heap.size ∧ some b ≠ gL := fun b o hn e => by
      have := hlo.out b o hn e
      exact ⟨by omega, by omega, fun e => by have := (hgl.out _ e.symm).1; omega⟩
    replace hneA := Lib.hid hneA
    replace hne0 := Lib.hid hne0
    have hR3 := hR.below HB
    -- Decide of the program's table
    refine (copied_new k p ep s t rs A2 c2 _ hR3).mono ?_
    rintro e w4 ⟨A4, c4, rfl, hR4, _, hb4⟩
    have hBo4 := hBo.below hb4
    have hR34 := hR3.below hb4
    replace q0 := (hB0.below hb4 l0).cell
    have l04 := (hB0.below hb4 l0).lt
    go_wp2_with fail
    refine (decide_any tb mb (l.length + 5) (loadM l) k p ep s t A4 c4 rs _ hBo4.tab hBo4.im hR4 f4 (fun st h => (hds.out st h).1)).mono ?_
    rw [HD.out]
    rintro e w5 ⟨rfl, hb5⟩
    have hb45 := bl_tr hb4 hb5
    replace hBo4 := hBo.below hb45
    replace hR34 := hR3.below hb45
    replace q0 := (hB0.below hb45 l0).cell
    have l05 := (hB0.below hb45 l0).lt
    clear hb4 hb5 l04 hR4
    -- Decide of the document's
    obtain ⟨A8, c8, vs8, hr8⟩ := hBo4.ref
    go_wp2_with fail
    refine (rdecide_any w2.heap.size A8 c8 ((loadM l).map entOf) k p ep s t rs A2 c2 _ hr8.tab hr8.ents (by simp; omega) (fun x hx => by have := (hBo.good.ents x hx).1; omega) hR34 f4).mono ?_
    rw [decideR_eq, HD.out]
    unfold trip
    rintro e w6 ⟨rfl, hb6⟩
    dsimp only
    have hb46 := bl_tr hb45 hb6
    replace hBo4 := hBo.below hb46
    replace hR34 := hR3.below hb46
    have hB06 := hB0.below hb46 l0
    replace q0 := hB06.cell
    have l06 := hB06.lt
    have HB6 := bl_tr HB hb46
    clear hr8 hb45 hb6 l05 hb46 hBo hB0 l0 hR3 HB hR
    go_wp2_with fail
    -- Note of the program's table
    refine (copied_new k p ep s t rs A2 c2 _ hR34).mono ?_
    rintro e w7 ⟨A7, c7, rfl, hR7, _, hb7⟩
    replace hBo4 := hBo4.below hb7
    replace hR34 := hR34.below hb7
    replace hB06 := hB06.below hb7 l06
    replace q0 := hB06.cell
    have l07 := hB06.lt
    have HB7 := bl_tr HB6 hb7
    clear hb7 l06 HB6
    go_wp2_with fail
    refine (note_any tb mb (l.length + 5) (loadM l) k p ep s t A7 c7 rs off _ hBo4.tab hBo4.im hR7 f4 (by simp only [maxLen]; omega) hds.out).mono ?_
    rw [HX.out]
    rintro e w8 ⟨rfl, hM8, hg8⟩
    have hR8 := hR34.frS (FrS.of_grown hg8 w2.heap.size gL) hneA.out
    have hB8 := (FrS.of_grown hg8 w2.heap.size gL).blk hB06 hne0.out
    obtain ⟨A9, c9, vs9, hr9⟩ := hBo4.turned hg8
    replace q0 := hB8.cell
    have l08 := hB8.lt
    clear hR34 hR7 l07
    go_wp2_with fail
    refine (rnote_any (w2.heap.size + 1) w2.heap.size gL ((loadM l).map entOf) A9 c9 vs9 k p ep s t rs off A2 c2 _ hr9 (Nat.le_trans hBo4.nl hg8.size) (by omega) (by simp; omega) (sorted_ents hso.out) hBo4.good.ents hR8 f4).mono ?_
    rw [hnr.out]
    rintro e w9 ⟨rfl, hN9⟩
    dsimp only at hM8 hN9 ⊢
    obtain ⟨gL', hB9, hn9, hf9⟩ := hBo4.noted hg8 hM8 hgd hN9
    have HB9 := hf9.below HB7 (by omega) (by omega) (fun q e => by have := (hgl.out q e).1; omega) HB7.size
    clear hr9 hR8 hB8 q0 l08 hN9 hM8 hg8 hBo4 hf9 hB06 HB7
    go_wp2_with fail
    obtain ⟨A10, c10, vs10, hr10⟩ := hB9.ref
    have qr := hr10.tab.cell
    have lr := hr10.tab.lt
    have hx5 := Lib.hid (fun x hx => (hB9.good.ents x hx).1)
    have hE10 := hr10.ents
    have hml9 := hB9.im.length_le
    have hgd9 := Lib.hid (fun x (hx : x ∈ X2) => hB9.good x hx)
    simp only [List.length_map] at qr
    clear hr10
    go_region_held3 (fun w' => (∀ o, w'.cell? ⟨w2.heap.size, o, none⟩ = w9.cell? ⟨w2.heap.size, o, none⟩) ∧ w2.heap.size < w'.heap.size)
      (first | exact ⟨fun _ => rfl, lr⟩ | exact ks_below ⟨fun _ => rfl, lr⟩ (bl_tr (bl_drew (Below.refl _ _)) hb11) | exact ks_below ⟨fun _ => rfl, lr⟩ (bl_tr (bl_tr (bl_drew (Below.refl _ _)) hb11) hb12) | exact ks_below ⟨fun _ => rfl, lr⟩ (bl_tr (bl_tr (bl_tr (bl_drew (Below.refl _ _)) hb11) hb12) hb13))
      (first | (go_at_call 13; refine (num_any _ _).mono ?_; rintro e w' ⟨rfl, rfl⟩) | (go_at_call 17; refine (entries_any tb mb (l.length + 5 + 1) X2 _ hB9.tab.drew hB9.im.drew (by omega) (fun x hx => by obtain ⟨a, b, _⟩ := hgd9.out x hx; unfold okI; omega) (fun x hx => by obtain ⟨_, _, _, _, a⟩ := hgd9.out x hx; omega)).mono ?_; rintro e w11 ⟨v11, rfl, hE11, hb11⟩; obtain ⟨A11, c11, rfl⟩ := hE11.slice; have HS := same_any A11 A10 c11 c10 (X2.map entOf) (X2.map entOf) w11 hE11.ents (hE10.below (bl_tr (bl_drew (Below.refl _ _)) hb11)) (by simp; omega) (fun x hx => by have := hx5.out x hx; omega); simp only [List.length_map, decide_true] at HS ⊢; replace HS := Lib.hid HS) | (go_at_call 21; refine HS.out.mono ?_; rintro e w12 ⟨rfl, hb12⟩) | (go_at_call 10; refine (knows_any _).mono ?_; rintro e w13 ⟨rfl, hb13⟩))
    go_wp2_with fail
    go_ret
    exact ⟨rfl, bl_tr (bl_tr (bl_tr (bl_drew HB9) hb11) hb12) hb13⟩
end Go.Proofs.Ytjpmdjjihdicdaa
