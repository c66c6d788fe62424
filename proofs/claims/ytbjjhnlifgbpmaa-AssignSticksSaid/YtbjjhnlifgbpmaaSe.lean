/- The laws' own shares: own (13). -/
import Derived.Test.YtbjjhnlifgbpmaaRa
namespace Go.Proofs.Ytbjjhnlifgbpmaa
open Go.RowKit Go.Shelf
attribute [local go_sem] Oper.semAt_some

/-- A share as data. -/
def nl (o : Ou) : ByteArray × List Int := (o.m, o.r.l)

set_option maxRecDepth 100000 in
set_option maxHeartbeats 4000000 in
theorem own_any (A : Option Addr) (c : Nat) (os : List Ou) (w : World) (hs : ShAt w A os) (hol : os.length ≤ 3518437208783) (hok : ∀ i (h : i < os.length), os[i].r.l.length * 8 ≤ 140737488351232) :
    Calls Try.prog 13 #[.slice A os.length c] w fun e w' => ∃ A' c' os', e = .returned (.slice A' os.length c') ∧ ShAt w' A' os' ∧ os'.map nl = os.map nl ∧ Below w.heap.size w w' := by
  obtain ⟨i0, hi0, hz0, hz1, hz2⟩ := info_parts info39
  obtain ⟨j0, hj0, hjz, hj1, hj2⟩ := info_parts infoI
  go_enter Try.func13, Try.ntmps13
  go_wp2_with fail
  go_loopw [3, 4] (fun v u wr => ∃ (i : Nat) (A1 : Option Addr) (c1 : Nat) (o1 : List Ou), i ≤ os.length ∧ v = .slice A1 i c1 ∧ u = .int .i64 i ∧ o1.length = i ∧ o1.map nl = (os.take i).map nl ∧ RgAt wr w.heap.size A1 c1 o1 ∧ Below w.heap.size w wr) (fun _ u _ => os.length - (intOf u).toNat)
  case atStart => exact ⟨0, none, 0, [], Nat.zero_le _, rfl, rfl, rfl, rfl, ⟨World.ownsRow_nil _ _ _ _, by simp, Nat.le_refl _⟩, Below.refl _ _⟩
  case round =>
    obtain ⟨i, A1, c1, o1, hi, rfl, rfl, hol1, hom1, hR, hb⟩ := hrel
    by_cases hlt : i < os.length
    · obtain ⟨g, o, rfl, hg, hc⟩ := hs.1 i hlt
      have hsl := hs.2 os[i] (List.getElem_mem hlt)
      have hok1 := hok i hlt
      have htk := Lib.hid (show (os.take (i + 1)).map nl = (os.take i).map nl ++ [nl os[i]] by rw [List.take_succ_eq_append_getElem hlt, List.map_append]; rfl)
      generalize os[i] = ou at *
      obtain ⟨m0, Ao, co, lo⟩ := ou
      simp only at hsl hok1
      have q0 := hc 0 _ rfl
      have q1 := hc 1 _ rfl
      simp only [Rw3.v, Nat.add_zero] at q0 q1
      rw [← (show ∀ W, Below w.heap.size w W → W.cell? ⟨g, o + i * 2 + 1, none⟩ = w.cell? ⟨g, o + i * 2 + 1, none⟩ from fun W h => h.cell (p := ⟨g, _, none⟩) hg) wr hb] at q1
      rw [← (show ∀ W, Below w.heap.size w W → W.cell? ⟨g, o + i * 2, none⟩ = w.cell? ⟨g, o + i * 2, none⟩ from fun W h => h.cell (p := ⟨g, _, none⟩) hg) wr hb] at q0
      have hsw := hsl.low (n := w.heap.size) hb hsl.bel
      have hi0' : (0 : Int) ≤ (i : Int) := by omega
      have hilt : (i : Int) < (os.length : Int) := by omega
      have hbs := hb.size
      have hgw : g < wr.heap.size := by omega
      have hR1 := hR.row
      rw [hol1] at hR1
      have hne : some g ≠ (Value.slice A1 i c1).ownBlock := by intro e; have := ownsRow_base hR1 e.symm; omega
      clear hc hs hok
      replace hsl := Lib.hid hsl
      go_wp2_with fail
      go_region_held3 (fun w' => (∀ o, w'.cell? ⟨g, o, none⟩ = wr.cell? ⟨g, o, none⟩) ∧ g < w'.heap.size)
        (first | exact bat_drew (bat_here wr hgw) | exact bat_alloc ‹_› _ | exact bat_grown ‹_› ‹_› hne | exact bat_grown ‹_› ‹_› (by simp [Value.ownBlock]; omega))
        (first
          | (refine step_append_src rfl _ _ 37 rfl wr.heap.size 3 j0 _ 1 8 Try.underlying37 hj0 hjz hj1 hj2 rfl (by omega) (.slice (some ⟨wr.heap.size, 0, none⟩) 0 0) 0 [] rfl (ownsRow_empty wr.drew 3 1 wr.heap.size (Nat.le_refl _)) Ao lo.length co (lo.flatMap encI) rfl ((hsw.below (bl_alloc (bl_drew (Below.refl _ _)) _)).src encI_len (by omega)) (flat_one encI_one lo) (by simp only [maxLen]; omega) (by omega) (by simp) ?_; intro A2 c2 w2 hown2 hg2; rw [Nat.zero_add] at hown2; simp only [Nat.zero_add])
          | (refine step_append_src rfl _ _ 23 rfl w.heap.size 39 i0 _ 2 40 Try.underlying23 hi0 hz0 hz1 hz2 rfl (by omega) (.slice A1 i c1) i _ rfl ((ownsRow_type (hR1.drew.alloc _) (ownsRow_empty wr.drew 3 1 wr.heap.size (Nat.le_refl _)) (by decide) hg2).alloc _) (some ⟨w2.heap.size, 0, none⟩) 1 1 [.string m0, .slice A2 lo.length c2] rfl (src_new w2 _ 39 1 2 rfl) (by intro u hu; simp only [List.mem_cons, List.not_mem_nil, or_false] at hu; rcases hu with rfl | rfl <;> rfl) (by simp only [maxLen]; omega) (by omega) (by have := hg2.size; simp at this ⊢; omega) ?_; intro A3 c3 w3 hown3 hg3))
      have hpo : ∀ x ∈ o1, w2.ownsRow w.heap.size 3 1 x.r.v x.r.l.length (x.r.l.flatMap encI) := fun x h => ownsRow_new (w := wr.drew) (hR.part x h).drew hg2
      have hrw2 : w2.ownsRow w.heap.size 39 2 (.slice A1 i c1) i (o1.flatMap ouL) := ownsRow_new (w := wr.drew) hR1.drew hg2
      have hb2 : Below w.heap.size w w2 := (bl_drew (bl_alloc hb (.cells #[] 3))).grown hg2 (Nat.le_trans hbs (by simp)) (fun k e => by cases e; omega)
      have hs2 : wr.heap.size ≤ w2.heap.size := Nat.le_trans (by simp) hg2.size
      go_wp2_with fail
      refine ⟨⟨i + 1, A3, c3, o1 ++ [⟨m0, ⟨A2, c2, lo⟩⟩], by omega, rfl, by go_num, by simp [hol1], by rw [List.map_append, hom1, htk.out]; rfl, ⟨?_, ?_, ?_⟩, ?_⟩, by simp [intOf]; omega⟩
      · simp only [List.flatMap_append, List.length_append, List.length_cons, List.length_nil]
        rw [hol1]
        simpa [ouL, Rw3.v] using hown3
      · intro x hx
        rcases List.mem_append.1 hx with h | h
        · exact ownsRow_type ((hpo x h).alloc _) (hrw2.alloc _) (by decide) hg3
        · rw [List.mem_singleton] at h
          subst h
          rw [List.nil_append] at hown2
          have h3 := ownsRow_type ((ownsRow_le hown2 hbs).alloc _) (hrw2.alloc _) (by decide) hg3
          simpa [Rw3.v] using h3
      · exact Nat.le_trans hbs (Nat.le_trans hs2 (Nat.le_trans (by simp) hg3.size))
      · exact bl_own (bl_alloc hb2 _) (hrw2.alloc _) (Nat.le_refl _) hg3
    · obtain rfl : i = os.length := by omega
      go_wp2_with fail
      go_ret
      rw [List.take_length] at hom1
      exact ⟨A1, c1, o1, rfl, hR.sh, hom1, hb⟩
end Go.Proofs.Ytbjjhnlifgbpmaa
/- Same (10), num (11). -/
namespace Go.Proofs.Ytbjjhnlifgbpmaa
open Go.RowKit Go.Shelf
attribute [local go_sem] Oper.semAt_some

set_option maxHeartbeats 400000 in
theorem num_any (a : Int) (w : World) :
    Calls Try.prog 11 #[.int .i64 a] w fun e w' => e = .returned (.int .i64 a) ∧ w = w' := by
  go_enter Try.func11, Try.ntmps11
  go_wp2
  go_ret
  exact ⟨rfl, rfl⟩

theorem ne_at {os rs : List Ou} {i : Nat} (h1 : i < os.length) (h2 : i < rs.length) (h : nl os[i] ≠ nl rs[i]) : ¬ os.map nl = rs.map nl := fun e => h (by
  have := congrArg (fun l => l[i]?) e
  simpa [h1, h2] using this)
theorem ne_list {l m : List Int} {k : Nat} (h1 : k < l.length) (h2 : k < m.length) (h : l[k] ≠ m[k]) : l ≠ m := fun e => h (by subst e; rfl)
theorem eq_take {l m : List Int} {k : Nat} (h1 : k < l.length) (h2 : k < m.length) (h : l[k] = m[k]) (ht : l.take k = m.take k) : l.take (k + 1) = m.take (k + 1) := by
  rw [List.take_succ_eq_append_getElem h1, List.take_succ_eq_append_getElem h2, ht, h]

set_option maxRecDepth 100000 in
set_option maxHeartbeats 4000000 in
theorem same_any (A B : Option Addr) (c d : Nat) (os rs : List Ou) (w : World) (ha : ShAt w A os) (hb' : ShAt w B rs) (hal : os.length ≤ 1000000000000000) (hbl : rs.length ≤ 1000000000000000) (hap : ∀ i (h : i < os.length), os[i].r.l.length ≤ 1000000000000000) (hbp : ∀ i (h : i < rs.length), rs[i].r.l.length ≤ 1000000000000000) :
    Calls Try.prog 10 #[.slice A os.length c, .slice B rs.length d] w fun e w' => e = .returned (.bool (decide (os.map nl = rs.map nl))) ∧ Below w.heap.size w w' := by
  by_cases hlen : os.length = rs.length
  · have hlenI : ((os.length : Int) == (rs.length : Int)) = true := by simp [hlen]
    have hneN : (!((os.length : Int) == (rs.length : Int))) = false := by simp [hlen]
    replace hlen := Lib.hid hlen
    go_enter Try.func10, Try.ntmps10
    go_wp2_with fail
    go_loopw [5] (fun u wr => ∃ i : Nat, i ≤ os.length ∧ u = .int .i64 i ∧ (∀ j (h1 : j < os.length) (h2 : j < rs.length), j < i → nl os[j] = nl rs[j]) ∧ Below w.heap.size w wr) (fun u _ => os.length - (intOf u).toNat)
    case atStart => exact ⟨0, Nat.zero_le _, rfl, fun j _ _ h => by omega, Below.refl _ _⟩
    case round =>
      obtain ⟨i, hi, rfl, hpre, hb⟩ := hrel
      by_cases hlt : i < os.length
      · have hlt2 : i < rs.length := by have := hlen.out; omega
        obtain ⟨g, o, rfl, hg, hc⟩ := ha.1 i hlt
        obtain ⟨g2, o2, rfl, hg2, hc2⟩ := hb'.1 i hlt2
        have hsl := ha.2 os[i] (List.getElem_mem hlt)
        have hsl2 := hb'.2 rs[i] (List.getElem_mem hlt2)
        have hap1 := hap i hlt
        have hbp1 := hbp i hlt2
        have hnd := Lib.hid (fun h => ne_at (os := os) (rs := rs) hlt hlt2 h)
        have hnx : nl os[i] = nl rs[i] → ∀ j (h1 : j < os.length) (h2 : j < rs.length), j < i + 1 → nl os[j] = nl rs[j] := fun h j h1 h2 hj => by
          by_cases e : j = i
          · subst e; exact h
          · exact hpre j h1 h2 (by omega)
        replace hnx := Lib.hid hnx
        generalize os[i] = ou at *
        generalize rs[i] = ru at *
        obtain ⟨m0, Ao, co, lo⟩ := ou
        obtain ⟨m1, Bo, dd, lr⟩ := ru
        simp only at hsl hsl2 hap1 hbp1
        have q0 := (hb.cell (p := ⟨g, o + i * 2 + 0, none⟩) hg).trans (hc 0 _ rfl)
        have q1 := (hb.cell (p := ⟨g, o + i * 2 + 1, none⟩) hg).trans (hc 1 _ rfl)
        have r0 := (hb.cell (p := ⟨g2, o2 + i * 2 + 0, none⟩) hg2).trans (hc2 0 _ rfl)
        have r1 := (hb.cell (p := ⟨g2, o2 + i * 2 + 1, none⟩) hg2).trans (hc2 1 _ rfl)
        simp only [Rw3.v, Nat.add_zero] at q0 q1 r0 r1
        have hi0' : (0 : Int) ≤ (i : Int) := by omega
        have hilt : (i : Int) < (os.length : Int) := by omega
        have hilt2 : (i : Int) < (rs.length : Int) := by omega
        clear hc hc2 ha hb' hap hbp hpre
        by_cases hm : m0 = m1
        · by_cases hll : lo.length = lr.length
          · have hllN : ((lo.length : Int) != (lr.length : Int)) = false := by simp [hll]
            have hmd : (m0.toList == m1.toList) = true := by rw [str_eq]; simp [hm]
            replace hll := Lib.hid hll
            replace hm := Lib.hid hm
            go_wp2_with fail
            go_region
            go_wp2_with fail
            clear q0 r0
            have q1' := Lib.hid q1
            have r1' := Lib.hid r1
            go_loopw [6] (fun u wi => ∃ k : Nat, k ≤ lo.length ∧ u = .int .i64 k ∧ lo.take k = lr.take k ∧ Below w.heap.size w wi ∧ wi.heap = wr.heap) (fun u _ => lo.length - (intOf u).toNat)
            case atStart => exact ⟨0, Nat.zero_le _, rfl, rfl, hb.drew, rfl⟩
            case round =>
              clear hb q1 r1
              obtain ⟨k, hkl, rfl, htk, hb, hhe⟩ := hrel
              have q1 := (World.cell?_of_block (w' := wr) (a := ⟨g, o + i * 2 + 1, none⟩) (congrArg (fun h => h[g]?) hhe)).trans q1'.out
              have r1 := (World.cell?_of_block (w' := wr) (a := ⟨g2, o2 + i * 2 + 1, none⟩) (congrArg (fun h => h[g2]?) hhe)).trans r1'.out
              by_cases hkk : k < lo.length
              · have hkk2 : k < lr.length := by have := hll.out; omega
                obtain ⟨ga, oa, rfl, hga, hca⟩ := (hsl.low (n := w.heap.size) hb hsl.bel) k hkk
                obtain ⟨gb, ob, rfl, hgb, hcb⟩ := (hsl2.low (n := w.heap.size) hb hsl2.bel) k hkk2
                have qa := hca 0 _ rfl
                have qb := hcb 0 _ rfl
                simp only [Nat.mul_one, Nat.add_zero] at qa qb
                have hk0 : (0 : Int) ≤ (k : Int) := by omega
                have hkI : (k : Int) < (lo.length : Int) := by omega
                have hkI2 : (k : Int) < (lr.length : Int) := by omega
                have hstep := Lib.hid (fun h => eq_take (l := lo) (m := lr) hkk hkk2 h htk)
                have hneq := Lib.hid (fun h => ne_list (l := lo) (m := lr) hkk hkk2 h)
                generalize lo[k] = xa at *
                generalize lr[k] = xb at *
                replace hll := Lib.hid hll
                replace hhe := Lib.hid hhe
                clear hca hcb
                by_cases hx : xa = xb
                · have hxN : (xa != xb) = false := by simp [hx]
                  replace hx := Lib.hid hx
                  go_wp2_with fail
                  go_region
                  go_wp2_with fail
                  refine ⟨⟨k + 1, by omega, by go_num, hstep.out hx.out, hb.drew, hhe.out⟩, by simp [intOf]; omega⟩
                · have hxN : (xa != xb) = true := by simp [hx]
                  have hno := hnd.out (by intro e; apply hneq.out hx; have := congrArg (fun p => p.2) e; simpa [nl] using this)
                  replace hx := Lib.hid hx
                  replace hno := Lib.hid hno
                  go_wp2_with fail
                  go_region
                  go_wp2_with fail
                  go_ret
                  exact ⟨ret_bool (decide_eq_false hno.out).symm, hb.drew⟩
              · obtain rfl : k = lo.length := by omega
                have hlo : lo = lr := by
                  have h1 := htk
                  rw [List.take_length, List.take_of_length_le (by have := hll.out; omega)] at h1
                  exact h1
                have hnx' := hnx.out (by rw [nl, nl]; simp only [Prod.mk.injEq]; exact ⟨hm.out, hlo⟩)
                replace hlo := Lib.hid hlo
                go_wp2_with fail
                refine ⟨⟨i + 1, by omega, by go_num, hnx', hb⟩, by simp [intOf]; omega⟩
          · have hllN : ((lo.length : Int) != (lr.length : Int)) = true := by simp; omega
            have hmd : (m0.toList == m1.toList) = true := by rw [str_eq]; simp [hm]
            have hno := hnd.out (by intro e; apply hll; have := congrArg (fun p => p.2.length) e; simpa [nl] using this)
            replace hno := Lib.hid hno
            replace hll := Lib.hid hll
            replace hm := Lib.hid hm
            go_wp2_with fail
            go_region
            go_wp2_with fail
            go_ret
            exact ⟨ret_bool (decide_eq_false hno.out).symm, hb.drew⟩
        · have hmd : (m0.toList == m1.toList) = false := by rw [str_eq]; simp [hm]
          have hno := hnd.out (by intro e; apply hm; have := congrArg (fun p => p.1) e; simpa [nl] using this)
          replace hno := Lib.hid hno
          replace hm := Lib.hid hm
          go_wp2_with fail
          go_region
          go_wp2_with fail
          go_ret
          exact ⟨ret_bool (decide_eq_false hno.out).symm, hb.drew⟩
      · have hall : os.map nl = rs.map nl := by
          apply List.ext_getElem
          · simpa using hlen.out
          · intro j h1 h2
            simp only [List.getElem_map]
            exact hpre j (by simpa using h1) (by simpa using h2) (by simp at h1; omega)
        replace hall := Lib.hid hall
        go_wp2_with fail
        go_ret
        exact ⟨ret_bool (decide_eq_true hall.out).symm, hb⟩
  · have hno : ¬ os.map nl = rs.map nl := fun e => hlen (by simpa using congrArg List.length e)
    have hlenI : ((os.length : Int) == (rs.length : Int)) = false := by simp; omega
    rw [decide_eq_false hno]
    go_enter Try.func10, Try.ntmps10
    go_wp2_with fail
    go_ret
    exact ⟨rfl, Below.refl _ _⟩
end Go.Proofs.Ytbjjhnlifgbpmaa
