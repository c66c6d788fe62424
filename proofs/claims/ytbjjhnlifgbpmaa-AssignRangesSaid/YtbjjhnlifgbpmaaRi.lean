/- The document's right (21): may members and parts be? -/
import Derived.Test.YtbjjhnlifgbpmaaRs
import Derived.Test.YtbjjhnlifgbpmaaSy
namespace Go.Proofs.Ytbjjhnlifgbpmaa
open Go.RowKit Go.Shelf
attribute [local go_sem] Oper.semAt_some

theorem goodTo_no {S : List ByteArray} {i : Nat} (h : goodN S i = false) : ∀ k, i < k → goodTo S k = false
  | 0, hk => by omega
  | k + 1, hk => by
    by_cases e : i = k
    · subst e; simp [goodTo, h]
    · simp [goodTo, goodTo_no h k (by omega)]
theorem goodTo_all {S : List ByteArray} : ∀ k, (∀ i, i < k → goodN S i = true) → goodTo S k = true
  | 0, _ => rfl
  | k + 1, h => by simp [goodTo, goodTo_all k (fun i hi => h i (by omega)), h k (by omega)]

set_option maxRecDepth 100000 in
set_option maxHeartbeats 8000000 in
theorem right_any (A : Option Addr) (c : Nat) (ml : List ByteArray) (parts : Int) (w : World) (hm : LAt w A 1 encS ml) (hml : ml.length * 16 ≤ 140737488351232) (S : List ByteArray) (hS : sortS ml = S) (hk : ∀ s ∈ S, s.size ≤ 140737488351232) :
    Calls Try.prog 21 #[.slice A ml.length c, .int .i64 parts] w fun e w' => e = .returned (.bool (okN S parts)) ∧ Below w.heap.size w w' := by
  have hSl : S.length = ml.length := by rw [← hS]; exact sortS_len ml
  by_cases h1 : 1000 < ml.length
  · have hno : okN S parts = false := by simp [okN]; omega
    have hd : decide ((1000 : Int) < (ml.length : Int)) = true := by simp; omega
    replace hno := Lib.hid hno
    replace hSl := Lib.hid hSl
    go_enter Try.func21, Try.ntmps21
    go_wp2_with fail
    go_ret
    exact ⟨ret_bool hno.out.symm, Below.refl _ _⟩
  have hd1 : decide ((1000 : Int) < (ml.length : Int)) = false := by simp; omega
  by_cases h2 : parts < 0
  · have hno : okN S parts = false := by simp [okN]; omega
    have hd : decide (parts < 0) = true := by simp; omega
    replace hno := Lib.hid hno
    replace hSl := Lib.hid hSl
    go_enter Try.func21, Try.ntmps21
    go_wp2_with fail
    go_ret
    exact ⟨ret_bool hno.out.symm, Below.refl _ _⟩
  have hd2 : decide (parts < 0) = false := by simp; omega
  by_cases h3 : 32 < parts
  · have hno : okN S parts = false := by simp [okN]; omega
    have hd : decide (32 < parts) = true := by simp; omega
    replace hno := Lib.hid hno
    replace hSl := Lib.hid hSl
    go_enter Try.func21, Try.ntmps21
    go_wp2_with fail
    go_ret
    exact ⟨ret_bool hno.out.symm, Below.refl _ _⟩
  have hd3 : decide (32 < parts) = false := by simp; omega
  have hok : okN S parts = goodTo S S.length := by
    have a1 : S.length ≤ 1000 := by omega
    have a2 : 0 ≤ parts := by omega
    have a3 : parts ≤ 32 := by omega
    simp [okN, a1, a2, a3]
  replace hok := Lib.hid hok
  have hst := sorted_any A c ml w hm hml
  rw [hS] at hst
  replace hst := Lib.hid hst
  replace hS := Lib.hid hS
  replace h1 := Lib.hid h1
  go_enter Try.func21, Try.ntmps21
  go_wp2_with (go_at_call 22; refine hst.out.mono ?_; rintro e w1 ⟨A1, c1, rfl, hlat, hb1⟩)
  rw [← hSl]
  have hS1000 : S.length ≤ 1000 := by have := h1.out; omega
  replace hSl := Lib.hid hSl
  clear hst
  have hlat' := hlat
  go_loopw [6] (fun u wr => ∃ k : Nat, k ≤ S.length ∧ u = .int .i64 k ∧ (∀ i, i < k → goodN S i = true) ∧ Below w1.heap.size w1 wr) (fun u _ => S.length - (intOf u).toNat)
  case atStart => exact ⟨0, Nat.zero_le _, rfl, fun i h => by omega, Below.refl _ _⟩
  case round =>
    obtain ⟨k, hkl, rfl, hgood, hbr⟩ := hrel
    by_cases hlt : k < S.length
    · obtain ⟨g, o, rfl, hg, hc⟩ := (hlat.below hbr) k hlt
      have qk := hc 0 _ rfl
      simp only [Nat.mul_one, Nat.add_zero] at qk
      have hgk : S.getD k default = S[k] := getD_get _ _ hlt
      have hsz := hk S[k] (List.getElem_mem _)
      have hgn : goodN S k = (decide (1 ≤ S[k].size) && decide (S[k].size ≤ 64) && (decide (k = 0) || !decide (S[k] = S.getD (k - 1) default))) := by simp only [goodN, hgk]
      have hbad := Lib.hid (fun h : goodN S k = false => goodTo_no h S.length hlt)
      have hnx : goodN S k = true → ∀ i, i < k + 1 → goodN S i = true := fun h i hi => by
        by_cases e : i = k
        · subst e; exact h
        · exact hgood i (by omega)
      replace hnx := Lib.hid hnx
      replace hgn := Lib.hid hgn
      have hprev : ∀ m, m + 1 = k → ∃ y : ByteArray, S.getD (k - 1) default = y ∧ wr.cell? ⟨g, o + m, none⟩ = some (.string y) := fun m hm => by
        obtain ⟨g', o', e', _, hc'⟩ := (hlat.below hbr) m (by omega)
        cases e'
        refine ⟨S[m]'(by omega), ?_, ?_⟩
        · rw [show k - 1 = m from by omega, getD_get _ _ (by omega)]
        · have := hc' 0 _ rfl
          simpa only [Nat.mul_one, Nat.add_zero] using this
      generalize S[k] = x at *
      clear hc hgk hlat'
      have hk0 : (0 : Int) ≤ (k : Int) := by omega
      have hkI : (k : Int) < (S.length : Int) := by omega
      by_cases z1 : x.size < 1
      · have hF : goodN S k = false := by rw [hgn.out]; simp; omega
        have d1 : decide ((x.size : Int) < 1) = true := by simp; omega
        replace z1 := Lib.hid z1
        replace hbad := Lib.hid (hbad.out hF)
        replace hgn := Lib.hid hgn
        clear hF hprev
        go_wp2_with fail
        go_region
        go_wp2_with fail
        go_ret
        exact ⟨ret_bool (by rw [hok.out, hbad.out]), hb1.trans (hbr.drew.mono hb1.size)⟩
      have d1 : decide ((x.size : Int) < 1) = false := by simp; omega
      by_cases z2 : 64 < x.size
      · have hF : goodN S k = false := by rw [hgn.out]; simp; omega
        have d2 : decide ((64 : Int) < (x.size : Int)) = true := by simp; omega
        replace z1 := Lib.hid z1
        replace z2 := Lib.hid z2
        replace hbad := Lib.hid (hbad.out hF)
        replace hgn := Lib.hid hgn
        clear hF hprev
        go_wp2_with fail
        go_region
        go_wp2_with fail
        go_ret
        exact ⟨ret_bool (by rw [hok.out, hbad.out]), hb1.trans (hbr.drew.mono hb1.size)⟩
      have d2 : decide ((64 : Int) < (x.size : Int)) = false := by simp; omega
      by_cases hkz : 0 < k
      · obtain ⟨m, hmk⟩ : ∃ m, m + 1 = k := ⟨k - 1, by omega⟩
        obtain ⟨y, hy, qm⟩ := hprev m hmk
        have d3 : decide ((0 : Int) < (k : Int)) = true := by simp; omega
        have hw1 : IntKind.i64.wrap ((k : Int) - 1) = m := by rw [IntKind.wrap_i64]; omega
        have hw2 : wrap64 ((k : Int) - 1) = m := (IntWalk.i64_left _).symm.trans hw1
        have hm0 : (0 : Int) ≤ (m : Int) := by omega
        have hmI : (m : Int) < (S.length : Int) := by omega
        replace hgn := Lib.hid (by have := hgn.out; rw [hy] at this; exact this)
        by_cases hxy : x = y
        · have hF : goodN S k = false := by rw [hgn.out]; simp [hxy]; omega
          have d4 : (x.toList == y.toList) = true := by rw [str_eq]; simp [hxy]
          replace hxy := Lib.hid hxy
          replace z1 := Lib.hid z1
          replace z2 := Lib.hid z2
          replace hbad := Lib.hid (hbad.out hF)
          replace hgn := Lib.hid hgn
          clear hF hprev
          go_wp2_with fail
          go_region
          go_wp2_with fail
          go_ret
          exact ⟨ret_bool (by rw [hok.out, hbad.out]), hb1.trans (hbr.drew.mono hb1.size)⟩
        · have hT : goodN S k = true := by
            rw [hgn.out]
            have a1 : 1 ≤ x.size := by omega
            have a2 : x.size ≤ 64 := by omega
            simp [hxy, a1, a2]
          have d4 : (x.toList == y.toList) = false := by rw [str_eq]; simp [hxy]
          replace hxy := Lib.hid hxy
          replace z1 := Lib.hid z1
          replace z2 := Lib.hid z2
          replace hgn := Lib.hid hgn
          replace hnx := Lib.hid (hnx.out hT)
          clear hT hprev
          go_wp2_with fail
          go_region
          go_wp2_with fail
          exact ⟨⟨k + 1, by omega, by go_num, hnx.out, hbr.drew⟩, by simp [intOf]; omega⟩
      · have hT : goodN S k = true := by
          rw [hgn.out]
          have a1 : 1 ≤ x.size := by omega
          have a2 : x.size ≤ 64 := by omega
          have a3 : k = 0 := by omega
          simp [a1, a2, a3]
        have d3 : decide ((0 : Int) < (k : Int)) = false := by simp; omega
        replace z1 := Lib.hid z1
        replace z2 := Lib.hid z2
        replace hgn := Lib.hid hgn
        replace hnx := Lib.hid (hnx.out hT)
        clear hT hprev
        go_wp2_with fail
        go_region
        go_wp2_with fail
        exact ⟨⟨k + 1, by omega, by go_num, hnx.out, hbr.drew⟩, by simp [intOf]; omega⟩
    · obtain rfl : k = S.length := by omega
      have hall := goodTo_all _ hgood
      replace hall := Lib.hid hall
      go_wp2_with fail
      go_ret
      exact ⟨ret_bool (by rw [hok.out, hall.out]), hb1.trans (hbr.mono hb1.size)⟩
end Go.Proofs.Ytbjjhnlifgbpmaa
