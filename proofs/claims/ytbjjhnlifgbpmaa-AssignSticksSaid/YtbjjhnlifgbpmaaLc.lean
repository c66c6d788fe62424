/- AssignRanges (3). -/
import Derived.Test.YtbjjhnlifgbpmaaRt
import Derived.Test.YtbjjhnlifgbpmaaLa
namespace Go.Proofs.Ytbjjhnlifgbpmaa
open Go.RowKit Go.Shelf
attribute [local go_sem] Oper.semAt_some

theorem nl_eq {os : List Ou} {S : List ByteArray} {f : Nat → List Int} (hm : os.map Ou.m = S) (hj : ∀ j, j < S.length → (os.getD j default).r.l = f j) : os.map nl = (List.range S.length).map fun j => (S.getD j default, f j) := by
  have hl : os.length = S.length := by rw [← hm]; simp
  apply List.ext_getElem
  · simp [hl]
  · intro j h1 h2
    have h3 : j < os.length := by simpa using h1
    have h4 := hj j (by omega)
    rw [getD_get _ _ h3] at h4
    simp only [List.getElem_map, List.getElem_range, nl]
    rw [h4, ← hm, map_getD Ou.m os j h3, getD_get _ _ h3]
/-- What comes of both Ranges. -/
def RgOut (f : Nat) (ml : List ByteArray) (parts : Int) (X : List (ByteArray × List Int)) (k : Int) : Prop :=
  ∀ A c (w : World), LAt w A 1 encS ml → Calls Try.prog f #[.slice A ml.length c, .int .i64 parts] w fun e w' => ∃ A' c' os, e = .returned (.tuple #[.slice A' X.length c', .int .i64 k]) ∧ ShAt w' A' os ∧ os.map nl = X ∧ Below w.heap.size w w'
theorem both_range (ml : List ByteArray) (parts : Int) (hml : ml.length * 16 ≤ 140737488351232) (hms : ∀ s ∈ ml, s.size ≤ 140737488351232) :
    ∃ X k, RgOut 8 ml parts X k ∧ RgOut 9 ml parts X k ∧ X.length ≤ 1000 ∧ ∀ p ∈ X, p.2.length ≤ 33 := by
  obtain ⟨S, hS⟩ : ∃ S, sortS ml = S := ⟨_, rfl⟩
  have hks : ∀ s ∈ S, s.size ≤ 140737488351232 := fun s hs => hms s ((hS ▸ sortS_perm ml).mem_iff.1 hs)
  cases hN : okN S parts with
  | false =>
    refine ⟨[], 1, fun A c w hm => ?_, fun A c w hm => ?_, by simp, by simp⟩
    · refine (range_bad A c ml parts w hm hml S hS hks hN).mono ?_
      rintro e w' ⟨rfl, hb⟩
      exact ⟨none, 0, [], rfl, ⟨LAt.nil, by simp⟩, rfl, hb⟩
    · refine (rrange_bad A c ml parts w hm hml S hS hks hN).mono ?_
      rintro e w' ⟨rfl, hb⟩
      exact ⟨none, 0, [], rfl, ⟨LAt.nil, by simp⟩, rfl, hb⟩
  | true =>
    obtain ⟨pn, rfl, hp32, hS1000⟩ := ok_parts hN
    refine ⟨(List.range S.length).map fun j => (S.getD j default, rangeL pn S.length j), 0, fun A c w hm => ?_, fun A c w hm => ?_, by simpa using hS1000, ?_⟩
    · refine (range_any A c ml pn w hm hml S hS hks hN).mono ?_
      rintro e w' ⟨A', c', os, rfl, h1, h2, h3, hb⟩
      exact ⟨A', c', os, by simp, h1, nl_eq h2 h3, hb⟩
    · refine (rrange_any A c ml pn w hm hml S hS hks hN).mono ?_
      rintro e w' ⟨A', c', os, rfl, h1, h2, h3, hb⟩
      exact ⟨A', c', os, by simp, h1, nl_eq h2 h3, hb⟩
    · intro p hp
      obtain ⟨j, _, rfl⟩ := List.mem_map.1 hp
      simp only [rangeL_len]
      exact lenR_le hp32
theorem nl_bound {os : List Ou} {X : List (ByteArray × List Int)} (h : os.map nl = X) {n : Nat} (hX : ∀ p ∈ X, p.2.length ≤ n) : ∀ i (hi : i < os.length), os[i].r.l.length ≤ n := fun i hi =>
  hX (nl os[i]) (by rw [← h]; exact List.mem_map_of_mem (List.getElem_mem hi))

set_option maxRecDepth 100000 in
set_option maxHeartbeats 8000000 in
theorem aranges_any (A0 : Option Addr) (c0 : Nat) (ml : List ByteArray) (parts : Int) (w : World) (hm : LAt w A0 1 encS ml) (hml : ml.length * 16 ≤ 140737488351232) (hms : ∀ s ∈ ml, s.size ≤ 140737488351232) :
    Calls Try.prog 3 #[.slice A0 ml.length c0, .int .i64 parts] w fun e w' => e = .returned (.bool true) ∧ Below w.heap.size w w' := by
  obtain ⟨X, kk, hR, hQ, hXl, hXs⟩ := both_range ml parts hml hms
  replace hm := Lib.hid hm
  replace hR := Lib.hid hR
  replace hQ := Lib.hid hQ
  replace hXs := Lib.hid hXs
  replace hms := Lib.hid hms
  go_enter Try.func3, Try.ntmps3
  go_wp2_with (refine wpList_copyS rfl _ _ rfl w rfl A0 c0 ml rfl hm.out hml ?_; intro A2 c2 w2 hm2 hb2)
  refine (hR.out A2 c2 w2 hm2).mono ?_
  rintro e w3 ⟨A3, c3, os3, rfl, hs3, hn3, hb3⟩
  have hm3 := hm2.below hb3
  replace hb3 := bl_tr hb2 hb3
  replace hs3 := Lib.hid hs3
  replace hn3 := Lib.hid hn3
  clear hm2 hb2
  go_wp2_with fail
  refine (hQ.out A0 c0 w3 (hm.out.below hb3)).mono ?_
  rintro e w4 ⟨A4, c4, os4, rfl, hs4, hn4, hb4⟩
  have hm4 := hm3.below hb4
  replace hs3 := Lib.hid (hs3.out.below hb4)
  replace hb4 := bl_tr hb3 hb4
  replace hs4 := Lib.hid hs4
  replace hn4 := Lib.hid hn4
  clear hm3 hb3
  have hm0 := hm.out.below hb4
  go_wp2_with fail
  go_loopw [10] (fun u wr => ∃ i : Nat, i ≤ ml.length ∧ u = .int .i64 i ∧ Below w4.heap.size w4 wr) (fun u _ => ml.length - (intOf u).toNat)
  case atStart => exact ⟨0, Nat.zero_le _, rfl, Below.refl _ _⟩
  case round =>
    obtain ⟨i, hi, rfl, hbr⟩ := hrel
    by_cases hlt : i < ml.length
    · obtain ⟨g, o, rfl, hg, hc⟩ := (hm0.low (n := w4.heap.size) hbr hm0.bel) i hlt
      obtain ⟨g2, o2, rfl, hg2, hc2⟩ := (hm4.low (n := w4.heap.size) hbr hm4.bel) i hlt
      have q0 := hc 0 _ rfl
      have r0 := hc2 0 _ rfl
      simp only [Nat.mul_one, Nat.add_zero] at q0 r0
      generalize ml[i] = x at *
      have hi0' : (0 : Int) ≤ (i : Int) := by omega
      have hilt : (i : Int) < (ml.length : Int) := by omega
      have hxx : (x.toList == x.toList) = true := by simp
      clear hc hc2
      go_wp2_with fail
      go_region
      go_wp2_with fail
      exact ⟨⟨i + 1, by omega, by go_num, hbr.drew⟩, by simp [intOf]; omega⟩
    · obtain rfl : i = ml.length := by omega
      have hl3 : os3.length = X.length := by rw [← hn3.out]; simp
      have hl4 : os4.length = X.length := by rw [← hn4.out]; simp
      have hsm := same_any A3 A4 c3 c4 os3 os4 wr (hs3.out.below hbr) (hs4.out.below hbr) (by omega) (by omega) (fun i hi => Nat.le_trans (nl_bound hn3.out hXs.out i hi) (by omega)) (fun i hi => Nat.le_trans (nl_bound hn4.out hXs.out i hi) (by omega))
      rw [decide_eq_true (hn3.out.trans hn4.out.symm), hl3, hl4] at hsm
      have hbf := bl_tr hb4 hbr
      have hkk : (kk == kk) = true := by simp
      replace hsm := Lib.hid hsm
      go_wp2_with (first | (go_at_call 11; refine (num_any _ _).mono ?_; rintro e wX ⟨rfl, rfl⟩) | (go_at_call 12; refine (knows_any _).mono ?_; rintro e w9 ⟨rfl, hb9⟩) | (go_at_call 10; refine hsm.out.mono ?_; rintro e w8 ⟨rfl, hb8⟩))
      go_ret
      exact ⟨rfl, bl_tr (bl_tr hbf hb8) hb9⟩
end Go.Proofs.Ytbjjhnlifgbpmaa
