/- Same (10), num (11). -/
import Derived.Test.YtbjjhnlifgbpmaaOn
namespace Go.Proofs.Ytbjjhnlifgbpmaa
open Go.RowKit Go.Shelf
attribute [local go_sem] Oper.semAt_some

set_option maxHeartbeats 400000 in
theorem num_any (a : Int) (w : World) :
    Calls Try.prog 11 #[.int .i64 a] w fun e w' => e = .returned (.int .i64 a) ∧ w = w' := by
  go_enter Try.func11, Try.ntmps11
  go_wp2
  go_ret
  exact ⟨rfl, rfl⟩

theorem ne_at {os rs : List Ou} {i : Nat} (h1 : i < os.length) (h2 : i < rs.length) (h : nl os[i] ≠ nl rs[i]) : ¬ os.map nl = rs.map nl := fun e => h (by
  have := congrArg (fun l => l[i]?) e
  simpa [h1, h2] using this)
theorem ne_list {l m : List Int} {k : Nat} (h1 : k < l.length) (h2 : k < m.length) (h : l[k] ≠ m[k]) : l ≠ m := fun e => h (by subst e; rfl)
theorem eq_take {l m : List Int} {k : Nat} (h1 : k < l.length) (h2 : k < m.length) (h : l[k] = m[k]) (ht : l.take k = m.take k) : l.take (k + 1) = m.take (k + 1) := by
  rw [List.take_succ_eq_append_getElem h1, List.take_succ_eq_append_getElem h2, ht, h]

set_option maxRecDepth 100000 in
set_option maxHeartbeats 4000000 in
theorem same_any (A B : Option Addr) (c d : Nat) (os rs : List Ou) (w : World) (ha : ShAt w A os) (hb' : ShAt w B rs) (hal : os.length ≤ 1000000000000000) (hbl : rs.length ≤ 1000000000000000) (hap : ∀ i (h : i < os.length), os[i].r.l.length ≤ 1000000000000000) (hbp : ∀ i (h : i < rs.length), rs[i].r.l.length ≤ 1000000000000000) :
    Calls Try.prog 10 #[.slice A os.length c, .slice B rs.length d] w fun e w' => e = .returned (.bool (decide (os.map nl = rs.map nl))) ∧ Below w.heap.size w w' := by
  by_cases hlen : os.length = rs.length
  · have hlenI : ((os.length : Int) == (rs.length : Int)) = true := by simp [hlen]
    have hneN : (!((os.length : Int) == (rs.length : Int))) = false := by simp [hlen]
    replace hlen := Lib.hid hlen
    go_enter Try.func10, Try.ntmps10
    go_wp2_with fail
    go_loopw [5] (fun u wr => ∃ i : Nat, i ≤ os.length ∧ u = .int .i64 i ∧ (∀ j (h1 : j < os.length) (h2 : j < rs.length), j < i → nl os[j] = nl rs[j]) ∧ Below w.heap.size w wr) (fun u _ => os.length - (intOf u).toNat)
    case atStart => exact ⟨0, Nat.zero_le _, rfl, fun j _ _ h => by omega, Below.refl _ _⟩
    case round =>
      obtain ⟨i, hi, rfl, hpre, hb⟩ := hrel
      by_cases hlt : i < os.length
      · have hlt2 : i < rs.length := by have := hlen.out; omega
        obtain ⟨g, o, rfl, hg, hc⟩ := ha.1 i hlt
        obtain ⟨g2, o2, rfl, hg2, hc2⟩ := hb'.1 i hlt2
        have hsl := ha.2 os[i] (List.getElem_mem hlt)
        have hsl2 := hb'.2 rs[i] (List.getElem_mem hlt2)
        have hap1 := hap i hlt
        have hbp1 := hbp i hlt2
        have hnd := Lib.hid (fun h => ne_at (os := os) (rs := rs) hlt hlt2 h)
        have hnx : nl os[i] = nl rs[i] → ∀ j (h1 : j < os.length) (h2 : j < rs.length), j < i + 1 → nl os[j] = nl rs[j] := fun h j h1 h2 hj => by
          by_cases e : j = i
          · subst e; exact h
          · exact hpre j h1 h2 (by omega)
        replace hnx := Lib.hid hnx
        generalize os[i] = ou at *
        generalize rs[i] = ru at *
        obtain ⟨m0, Ao, co, lo⟩ := ou
        obtain ⟨m1, Bo, dd, lr⟩ := ru
        simp only at hsl hsl2 hap1 hbp1
        have q0 := (hb.cell (p := ⟨g, o + i * 2 + 0, none⟩) hg).trans (hc 0 _ rfl)
        have q1 := (hb.cell (p := ⟨g, o + i * 2 + 1, none⟩) hg).trans (hc 1 _ rfl)
        have r0 := (hb.cell (p := ⟨g2, o2 + i * 2 + 0, none⟩) hg2).trans (hc2 0 _ rfl)
        have r1 := (hb.cell (p := ⟨g2, o2 + i * 2 + 1, none⟩) hg2).trans (hc2 1 _ rfl)
        simp only [Rw3.v, Nat.add_zero] at q0 q1 r0 r1
        have hi0' : (0 : Int) ≤ (i : Int) := by omega
        have hilt : (i : Int) < (os.length : Int) := by omega
        have hilt2 : (i : Int) < (rs.length : Int) := by omega
        clear hc hc2 ha hb' hap hbp hpre
        by_cases hm : m0 = m1
        · by_cases hll : lo.length = lr.length
          · have hllN : ((lo.length : Int) != (lr.length : Int)) = false := by simp [hll]
            have hmd : (m0.toList == m1.toList) = true := by rw [str_eq]; simp [hm]
            replace hll := Lib.hid hll
            replace hm := Lib.hid hm
            go_wp2_with fail
            go_region
            go_wp2_with fail
            clear q0 r0
            have q1' := Lib.hid q1
            have r1' := Lib.hid r1
            go_loopw [6] (fun u wi => ∃ k : Nat, k ≤ lo.length ∧ u = .int .i64 k ∧ lo.take k = lr.take k ∧ Below w.heap.size w wi ∧ wi.heap = wr.heap) (fun u _ => lo.length - (intOf u).toNat)
            case atStart => exact ⟨0, Nat.zero_le _, rfl, rfl, hb.drew, rfl⟩
            case round =>
              clear hb q1 r1
              obtain ⟨k, hkl, rfl, htk, hb, hhe⟩ := hrel
              have q1 := (World.cell?_of_block (w' := wr) (a := ⟨g, o + i * 2 + 1, none⟩) (congrArg (fun h => h[g]?) hhe)).trans q1'.out
              have r1 := (World.cell?_of_block (w' := wr) (a := ⟨g2, o2 + i * 2 + 1, none⟩) (congrArg (fun h => h[g2]?) hhe)).trans r1'.out
              by_cases hkk : k < lo.length
              · have hkk2 : k < lr.length := by have := hll.out; omega
                obtain ⟨ga, oa, rfl, hga, hca⟩ := (hsl.low (n := w.heap.size) hb hsl.bel) k hkk
                obtain ⟨gb, ob, rfl, hgb, hcb⟩ := (hsl2.low (n := w.heap.size) hb hsl2.bel) k hkk2
                have qa := hca 0 _ rfl
                have qb := hcb 0 _ rfl
                simp only [Nat.mul_one, Nat.add_zero] at qa qb
                have hk0 : (0 : Int) ≤ (k : Int) := by omega
                have hkI : (k : Int) < (lo.length : Int) := by omega
                have hkI2 : (k : Int) < (lr.length : Int) := by omega
                have hstep := Lib.hid (fun h => eq_take (l := lo) (m := lr) hkk hkk2 h htk)
                have hneq := Lib.hid (fun h => ne_list (l := lo) (m := lr) hkk hkk2 h)
                generalize lo[k] = xa at *
                generalize lr[k] = xb at *
                replace hll := Lib.hid hll
                replace hhe := Lib.hid hhe
                clear hca hcb
                by_cases hx : xa = xb
                · have hxN : (xa != xb) = false := by simp [hx]
                  replace hx := Lib.hid hx
                  go_wp2_with fail
                  go_region
                  go_wp2_with fail
                  refine ⟨⟨k + 1, by omega, by go_num, hstep.out hx.out, hb.drew, hhe.out⟩, by simp [intOf]; omega⟩
                · have hxN : (xa != xb) = true := by simp [hx]
                  have hno := hnd.out (by intro e; apply hneq.out hx; have := congrArg (fun p => p.2) e; simpa [nl] using this)
                  replace hx := Lib.hid hx
                  replace hno := Lib.hid hno
                  go_wp2_with fail
                  go_region
                  go_wp2_with fail
                  go_ret
                  exact ⟨ret_bool (decide_eq_false hno.out).symm, hb.drew⟩
              · obtain rfl : k = lo.length := by omega
                have hlo : lo = lr := by
                  have h1 := htk
                  rw [List.take_length, List.take_of_length_le (by have := hll.out; omega)] at h1
                  exact h1
                have hnx' := hnx.out (by rw [nl, nl]; simp only [Prod.mk.injEq]; exact ⟨hm.out, hlo⟩)
                replace hlo := Lib.hid hlo
                go_wp2_with fail
                refine ⟨⟨i + 1, by omega, by go_num, hnx', hb⟩, by simp [intOf]; omega⟩
          · have hllN : ((lo.length : Int) != (lr.length : Int)) = true := by simp; omega
            have hmd : (m0.toList == m1.toList) = true := by rw [str_eq]; simp [hm]
            have hno := hnd.out (by intro e; apply hll; have := congrArg (fun p => p.2.length) e; simpa [nl] using this)
            replace hno := Lib.hid hno
            replace hll := Lib.hid hll
            replace hm := Lib.hid hm
            go_wp2_with fail
            go_region
            go_wp2_with fail
            go_ret
            exact ⟨ret_bool (decide_eq_false hno.out).symm, hb.drew⟩
        · have hmd : (m0.toList == m1.toList) = false := by rw [str_eq]; simp [hm]
          have hno := hnd.out (by intro e; apply hm; have := congrArg (fun p => p.1) e; simpa [nl] using this)
          replace hno := Lib.hid hno
          replace hm := Lib.hid hm
          go_wp2_with fail
          go_region
          go_wp2_with fail
          go_ret
          exact ⟨ret_bool (decide_eq_false hno.out).symm, hb.drew⟩
      · have hall : os.map nl = rs.map nl := by
          apply List.ext_getElem
          · simpa using hlen.out
          · intro j h1 h2
            simp only [List.getElem_map]
            exact hpre j (by simpa using h1) (by simpa using h2) (by simp at h1; omega)
        replace hall := Lib.hid hall
        go_wp2_with fail
        go_ret
        exact ⟨ret_bool (decide_eq_true hall.out).symm, hb⟩
  · have hno : ¬ os.map nl = rs.map nl := fun e => hlen (by simpa using congrArg List.length e)
    have hlenI : ((os.length : Int) == (rs.length : Int)) = false := by simp; omega
    rw [decide_eq_false hno]
    go_enter Try.func10, Try.ntmps10
    go_wp2_with fail
    go_ret
    exact ⟨rfl, Below.refl _ _⟩
end Go.Proofs.Ytbjjhnlifgbpmaa
