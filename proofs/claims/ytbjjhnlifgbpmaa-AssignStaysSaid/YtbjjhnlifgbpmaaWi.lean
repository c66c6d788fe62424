/- within (17): are all of some numbers among others? -/
import Derived.Test.YtbjjhnlifgbpmaaRa
namespace Go.Proofs.Ytbjjhnlifgbpmaa
open Go.RowKit Go.Shelf
attribute [local go_sem] Oper.semAt_some

set_option maxRecDepth 100000 in
set_option maxHeartbeats 4000000 in
theorem within_any (A B : Option Addr) (c d : Nat) (l m : List Int) (w : World) (ha : LAt w A 1 encI l) (hb' : LAt w B 1 encI m) (hal : l.length ≤ 1000000000000000) (hbl : m.length ≤ 1000000000000000) (hsub : ∀ x ∈ l, x ∈ m) :
    Calls Try.prog 17 #[.slice A l.length c, .slice B m.length d] w fun e w' => e = .returned (.bool true) ∧ Below w.heap.size w w' := by
  replace hsub := Lib.hid hsub
  go_enter Try.func17, Try.ntmps17
  go_wp2_with fail
  go_loopw [5] (fun u wr => ∃ i : Nat, i ≤ l.length ∧ u = .int .i64 i ∧ Below w.heap.size w wr) (fun u _ => l.length - (intOf u).toNat)
  case atStart => exact ⟨0, Nat.zero_le _, rfl, Below.refl _ _⟩
  case round =>
    obtain ⟨i, hi, rfl, hb⟩ := hrel
    by_cases hlt : i < l.length
    · obtain ⟨g, o, rfl, hg, hc⟩ := (ha.low (n := w.heap.size) hb ha.bel) i hlt
      have q0' := hc 0 _ rfl
      simp only [Nat.mul_one, Nat.add_zero] at q0'
      have hgw : g < w.heap.size := by obtain ⟨g', o', e, h1, _⟩ := ha i hlt; cases e; exact h1
      have hx := hsub.out l[i] (List.getElem_mem hlt)
      generalize l[i] = x at *
      have q0w : w.cell? ⟨g, o + i, none⟩ = some (.int .i64 x) := (hb.cell (p := ⟨g, _, none⟩) hgw).symm.trans q0'
      replace q0w := Lib.hid q0w
      have hi0 : (0 : Int) ≤ (i : Int) := by omega
      have hiI : (i : Int) < (l.length : Int) := by omega
      replace hx := Lib.hid hx
      replace ha := Lib.hid ha
      clear hc q0'
      go_wp2_with fail
      go_loopw [6, 7] (fun v u wi => ∃ k : Nat, k ≤ m.length ∧ u = .int .i64 k ∧ v = .bool ((m.take k).contains x) ∧ Below w.heap.size w wi) (fun _ u _ => m.length - (intOf u).toNat)
      case atStart => exact ⟨0, Nat.zero_le _, rfl, by simp, hb⟩
      case round =>
        clear hb
        obtain ⟨k, hk, rfl, rfl, hb⟩ := hrel
        by_cases hkl : k < m.length
        · have q0 := (hb.cell (p := ⟨g, o + i, none⟩) hgw).trans q0w.out
          obtain ⟨g2, o2, rfl, hg2, hc2⟩ := (hb'.low (n := w.heap.size) hb hb'.bel) k hkl
          have q1 := hc2 0 _ rfl
          simp only [Nat.mul_one, Nat.add_zero] at q1
          have hk0 : (0 : Int) ≤ (k : Int) := by omega
          have hkI : (k : Int) < (m.length : Int) := by omega
          have htk : (m.take (k + 1)).contains x = ((m.take k).contains x || x == m[k]) := by
            rw [List.take_succ_eq_append_getElem hkl, List.contains_eq_any_beq, List.contains_eq_any_beq, List.any_append]; simp
          replace htk := Lib.hid htk
          generalize m[k] = y at *
          clear hc2
          cases hd : (m.take k).contains x with
          | true =>
            replace htk := Lib.hid (htk.out.trans (by rw [hd, Bool.true_or]))
            clear hd
            go_wp2_with fail
            go_region
            go_wp2_with fail
            exact ⟨⟨k + 1, by omega, by go_num, by rw [htk.out], hb.drew⟩, by simp [intOf]; omega⟩
          | false =>
            replace htk := Lib.hid (htk.out.trans (by rw [hd, Bool.false_or]))
            clear hd
            go_wp2_with fail
            go_region
            go_wp2_with fail
            exact ⟨⟨k + 1, by omega, by go_num, by rw [htk.out], hb.drew⟩, by simp [intOf]; omega⟩
        · obtain rfl : k = m.length := by omega
          have hall : (m.take m.length).contains x = true := by rw [List.take_length]; simpa using hx.out
          rw [hall]
          clear hall
          go_wp2_with fail
          exact ⟨⟨i + 1, by omega, by go_num, hb⟩, by simp [intOf]; omega⟩
    · obtain rfl : i = l.length := by omega
      go_wp2_with fail
      go_ret
      exact ⟨rfl, hb⟩
end Go.Proofs.Ytbjjhnlifgbpmaa
