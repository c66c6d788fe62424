/- The walk of ProducerLoads. -/
import Derived.Test.YtjpmdjjihdicdaaRl
import Derived.Test.YtjpmdjjihdicdaaPy
import Derived.Test.YtjpmdjjihdicdaaOw
import Derived.Test.YtjpmdjjihdicdaaNz
namespace Go.Proofs.Ytjpmdjjihdicdaa
open Go.RowKit Go.Shelf
attribute [local go_sem] Oper.semAt_some

/-- Both tables, just loaded. -/
theorem Both.loaded {w2 w3 : World} {l : List Ent} {tb mb : Nat} {gL : Option Nat} {A : Option Addr} {c : Nat} {vs : List Value} (hg : goodL l = true) (hT : Blk w2 tb [.map (some mb)]) (hM : IM Try.prog 3 w2 mb l.length stV (loadM l))
    (hb : Below w2.heap.size w2 w3) (hr : RefAt w3 (w2.heap.size + 1) w2.heap.size gL l A c vs) : Both w3 (w2.heap.size + 1) tb mb (l.length + 5) w2.heap.size gL (loadM l) := by
  have h1 := hT.lt
  have h2 := hM.lt
  refine ⟨hT.below hb h1, (hM.below hb h2).mono (by omega), ?_, by omega, by omega, by omega, hr.tab.lt, by omega, (goodL_good hg).mono (by omega)⟩
  rw [loadM_ents hg]
  exact ⟨A, c, vs, hr⟩

set_option maxRecDepth 100000 in
set_option maxHeartbeats 4000000 in
theorem loads_any (A B : Option Addr) (ca cb : Nat) (l : List Ent) (ops : List OpD) (w : World) (hE : EntsAt w A l) (hf : ∀ x ∈ l, EntOk x) (hfl : ∀ x ∈ l, x.last.length ≤ 5864062014805) (hl : l.length ≤ 1048576) (hO : OpsAt w B ops) (hol : ops.length ≤ 1048576) :
    Calls Try.prog 6 #[.slice A l.length ca, .slice B ops.length cb] w fun e w' => e = .returned (.bool true) ∧ Below w.heap.size w w' := by
  replace hf := Lib.hid hf
  replace hfl := Lib.hid hfl
  go_enter Try.func6, Try.ntmps6
  go_wp2_with fail
  refine (own_any A ca l _ hE (by omega) (fun x hx => by have := hfl.out x hx; omega)).mono ?_
  rintro e w1 ⟨v, rfl, hX, hb1⟩
  obtain ⟨A1, c1, rfl⟩ := hX.slice
  have hX1 := hX.ents
  clear hX
  go_wp2_with fail
  refine (pload_any A1 c1 l _ hX1 hf.out (by omega)).mono ?_
  rintro e w2 ⟨hb2, hc2⟩
  have hE2 := hE.below (bl_tr hb1 hb2)
  rcases hc2 with ⟨hg, rfl⟩ | ⟨hg, tb, mb, rfl, hT, hM, htb, hmb, hml⟩
  · go_wp2_with fail
    refine (rload_any A ca l _ hE2 hf.out (by omega) hfl.out).mono ?_
    rintro e w3 ⟨hb3, ⟨_, rfl⟩ | ⟨hg2, _⟩⟩
    case inr => rw [hg] at hg2; cases hg2
    go_wp2_with (go_at_call 13; refine (num_any _ _).mono ?_; rintro e w' ⟨rfl, rfl⟩)
    refine (same_any A1 A c1 ca l l _ (hX1.below (bl_tr hb2 hb3)) (hE2.below hb3) (by omega) (fun x hx => by have := hfl.out x hx; omega)).mono ?_
    rw [show decide (l = l) = true from by simp]
    rintro e w4 ⟨rfl, hb4⟩
    have HB := bl_tr (bl_tr hb1 hb2) (bl_tr hb3 hb4)
    clear hX1 hE2 hE hb1 hb2 hb3 hb4 hg
    go_wp2_with fail
    go_loopw [9] (fun u wr => u = .int .i64 0 ∧ wr = w4) (fun u _ => 1)
    case atStart => exact ⟨rfl, rfl⟩
    case round =>
      obtain ⟨rfl, rfl⟩ := hrel
      by_cases ho : 0 < ops.length
      all_goals
        go_wp2_with fail
        go_loopw [10, 11] (fun v u wr => ∃ i : Nat, i ≤ 2 ∧ u = .int .i64 i ∧ NoTab v wr ∧ Below w.heap.size w wr) (fun _ u _ => 2 - (intOf u).toNat)
        case atStart => exact ⟨0, by omega, rfl, .inl rfl, HB⟩
        case round =>
          obtain ⟨i, hi, rfl, hno, hbr⟩ := hrel
          replace hno := Lib.hid hno
          by_cases hlt : i < 2
          · go_wp2_with fail
            refine (records_any 1 _ (by omega)).mono ?_
            rintro e x1 ⟨A9, c9, rfl, _, hx1⟩
            replace hbr := bl_tr hbr hx1
            go_wp2_with fail
            refine (decide_no _ 1 (-1) 0 0 false A9 1 c9 _ (hno.out.below hx1)).mono ?_
            rintro e x2 ⟨rfl, hx2⟩
            replace hbr := bl_tr hbr hx2
            have hx12 := bl_tr hx1 hx2
            go_wp2_with (go_at_call 13; refine (num_any _ _).mono ?_; rintro e w' ⟨rfl, rfl⟩)
            refine (note_no _ 0 0 0 0 0 false none 0 0 _ (hno.out.below hx12)).mono ?_
            rintro e x3 ⟨rfl, hx3⟩
            replace hbr := bl_tr hbr hx3
            have hx13 := bl_tr hx12 hx3
            go_wp2_with (go_at_call 13; refine (num_any _ _).mono ?_; rintro e w' ⟨rfl, rfl⟩)
            refine (entries_no _ _ (hno.out.below hx13)).mono ?_
            rintro e x4 ⟨rfl, hx4⟩
            replace hbr := bl_tr hbr hx4
            go_wp2_with fail
            go_roundw
            case rel => exact ⟨i + 1, by omega, by go_num, .inr ⟨_, rfl, Blk.new' _ _ rfl⟩, bl_alloc hbr _⟩
            case measure => simp [intOf]; omega
          · go_wp2_with (go_at_call 10; refine (knows_any _).mono ?_; rintro e w' ⟨rfl, hx9⟩)
            go_ret
            exact ⟨rfl, bl_tr hbr hx9⟩
  · go_wp2_with fail
    refine (rload_any A ca l _ hE2 hf.out (by omega) hfl.out).mono ?_
    rintro e w3 ⟨hb3, ⟨hg2, _⟩ | ⟨_, rfl, gL, A3, c3, vs, hr⟩⟩
    case inl => rw [hg] at hg2; cases hg2
    have hBo := Both.loaded hg hT hM hb3 hr
    have hz1 := hb1.size
    have hz2 := hb2.size
    clear hT hM hr
    go_wp2_with (go_at_call 13; refine (num_any _ _).mono ?_; rintro e w' ⟨rfl, rfl⟩)
    refine (same_any A1 A c1 ca l l _ (hX1.below (bl_tr hb2 hb3)) (hE2.below hb3) (by omega) (fun x hx => by have := hfl.out x hx; omega)).mono ?_
    rw [show decide (l = l) = true from by simp]
    rintro e w4 ⟨rfl, hb4⟩
    have HB0 := bl_tr (bl_tr hb1 hb2) (bl_tr hb3 hb4)
    replace hBo := hBo.below hb4
    clear hX1 hE2 hE hb1 hb2 hb3 hb4 hg
    go_wp2_with fail
    go_loopw [9] (fun u wr => ∃ (i : Nat) (g : Option Nat) (m : List (Int × St)), i ≤ ops.length ∧ u = .int .i64 i ∧ Both wr (w2.heap.size + 1) tb mb (l.length + 5 + i) w2.heap.size g m ∧ Below w.heap.size w wr) (fun u _ => ops.length - (intOf u).toNat)
    case atStart => exact ⟨0, gL, _, Nat.zero_le _, rfl, hBo, HB0⟩
    case round =>
      obtain ⟨i, g, m, hi, rfl, hBi, HB⟩ := hrel
      clear hBo HB0
      have hi0 : (0 : Int) ≤ (i : Int) := by omega
      by_cases hlt : i < ops.length
      · obtain ⟨b, oo, A', c', rfl, hbl, hR, hF, hlo, d0, d1, d2, d3, d4, d5, d6, d7⟩ := hO.later HB i hlt
        generalize ops[i] = x at *
        replace hF := Lib.hid hF
        replace hlo := Lib.hid hlo
        have hgl1 := Lib.hid (fun q (e : g = some q) => (hBi.gl e).1)
        go_wp2_with fail
        refine (step_any _ _ _ _ _ _ _ _ hBi x A' c' hR hF.out (by omega) (fun b' o' hn e => by have := hlo.out b' o' hn e; refine ⟨by omega, by omega, fun e2 => ?_⟩; have := hgl1.out _ e2.symm; omega)).mono ?_
        rintro e w5 ⟨rfl, g1, hB5, hn1, hf1⟩
        have HB5 := hf1.below HB (by omega) (by omega) (fun q e => by have := (hBi.gl e).1; omega) HB.size
        clear d0 d1 d2 d3 d4 d5 d6 d7 hR hBi hn1 hf1 hgl1 hbl hlo HB
        go_wp2_with fail
        go_roundw
        case rel => exact ⟨i + 1, g1, _, by omega, by go_num, hB5, HB5⟩
        case measure => simp [intOf]; omega
      · clear hBi
        go_wp2_with fail
        go_loopw [10, 11] (fun v u wr => ∃ i : Nat, i ≤ 2 ∧ u = .int .i64 i ∧ NoTab v wr ∧ Below w.heap.size w wr) (fun _ u _ => 2 - (intOf u).toNat)
        case atStart => exact ⟨0, by omega, rfl, .inl rfl, HB⟩
        case round =>
          obtain ⟨i, hi, rfl, hno, hbr⟩ := hrel
          replace hno := Lib.hid hno
          by_cases hlt : i < 2
          · go_wp2_with fail
            refine (records_any 1 _ (by omega)).mono ?_
            rintro e x1 ⟨A9, c9, rfl, _, hx1⟩
            replace hbr := bl_tr hbr hx1
            go_wp2_with fail
            refine (decide_no _ 1 (-1) 0 0 false A9 1 c9 _ (hno.out.below hx1)).mono ?_
            rintro e x2 ⟨rfl, hx2⟩
            replace hbr := bl_tr hbr hx2
            have hx12 := bl_tr hx1 hx2
            go_wp2_with (go_at_call 13; refine (num_any _ _).mono ?_; rintro e w' ⟨rfl, rfl⟩)
            refine (note_no _ 0 0 0 0 0 false none 0 0 _ (hno.out.below hx12)).mono ?_
            rintro e x3 ⟨rfl, hx3⟩
            replace hbr := bl_tr hbr hx3
            have hx13 := bl_tr hx12 hx3
            go_wp2_with (go_at_call 13; refine (num_any _ _).mono ?_; rintro e w' ⟨rfl, rfl⟩)
            refine (entries_no _ _ (hno.out.below hx13)).mono ?_
            rintro e x4 ⟨rfl, hx4⟩
            replace hbr := bl_tr hbr hx4
            go_wp2_with fail
            go_roundw
            case rel => exact ⟨i + 1, by omega, by go_num, .inr ⟨_, rfl, Blk.new' _ _ rfl⟩, bl_alloc hbr _⟩
            case measure => simp [intOf]; omega
          · go_wp2_with (go_at_call 10; refine (knows_any _).mono ?_; rintro e w' ⟨rfl, hx9⟩)
            go_ret
            exact ⟨rfl, bl_tr hbr hx9⟩
end Go.Proofs.Ytjpmdjjihdicdaa
