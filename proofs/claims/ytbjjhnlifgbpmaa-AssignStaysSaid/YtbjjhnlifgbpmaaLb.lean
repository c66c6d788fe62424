/- AssignStays (6). -/
import Derived.Test.YtbjjhnlifgbpmaaLa
import Derived.Test.YtbjjhnlifgbpmaaSy
import Derived.Test.YtbjjhnlifgbpmaaWi
namespace Go.Proofs.Ytbjjhnlifgbpmaa
open Go.RowKit Go.Shelf
attribute [local go_sem] Oper.semAt_some

section
variable {P : Program} {o : Oper} {a : Act} {w : World} {K : Act → World → Prop} {Q : Exit → Act → World → Prop}
theorem wp_goCall2 (f : FuncId) (hf : Enters P f) (x y : Operand) (ts : Array TypeId) (ho : o.op = .call { callee := .value (.func f), args := #[x, y], argTypes := ts }) (dt : Nat) (hd : o.dst = some dt)
    (h : Calls P f #[a.eval x, a.eval y] w fun e w' => ∃ v, e = .returned v ∧ K { a with tmps := a.tmps.setIfInBounds dt v } w') : o.wp P a w K Q := by
  unfold Oper.wp execOp
  simp only [ho, resolve, invoke, Sem.run_bind, Deferred.ofValue, Act.eval]
  simp [Result.andThen, hf _ _, Oper.upon_enter]
  refine h.mono ?_
  rintro e w' ⟨v, rfl, hk⟩
  simp only [hd, Act.put]
  exact hk
end
theorem gone_in (gone : Int) {n : Nat} (hn : 0 < n) (hn2 : n ≤ 1000) : ∃ g : Nat, g < n ∧ (wrap64 (gone.tmod (n : Int) + (n : Int))).tmod (n : Int) = (g : Int) := by
  have h1 := Int.tmod_lt_of_pos gone (b := (n : Int)) (by omega)
  have h2 : -(n : Int) < gone.tmod (n : Int) := by
    have h := Int.tmod_lt_of_pos (-gone) (b := (n : Int)) (by omega)
    rw [Int.neg_tmod] at h; omega
  generalize gone.tmod (n : Int) = v at *
  have h3 : wrap64 (v + (n : Int)) = v + (n : Int) := by unfold wrap64; omega
  rw [h3, Int.tmod_eq_emod_of_nonneg (by omega)]
  have h4 := Int.emod_nonneg (v + (n : Int)) (b := (n : Int)) (by omega)
  have h5 := Int.emod_lt_of_pos (v + (n : Int)) (b := (n : Int)) (by omega)
  exact ⟨((v + (n : Int)) % (n : Int)).toNat, by omega, by omega⟩
theorem quo_in {pn n : Nat} (hp : pn ≤ 32) : wrap64 ((pn : Int) / (n : Int)) = ((pn / n : Nat) : Int) := by
  have h1 : pn / n ≤ 32 := Nat.le_trans (Nat.div_le_self _ _) hp
  rw [← Int.natCast_ediv, w64n (by omega)]

set_option maxRecDepth 100000 in
set_option maxHeartbeats 16000000 in
theorem astays_any (A0 : Option Addr) (c0 : Nat) (ml : List ByteArray) (parts gone : Int) (more : ByteArray) (w : World) (hm : LAt w A0 1 encS ml) (hml : ml.length * 16 ≤ 140737488351232) (hms : ∀ s ∈ ml, s.size ≤ 140737488351232) (hmo : more.size ≤ 140737488351232) :
    Calls Try.prog 6 #[.slice A0 ml.length c0, .int .i64 parts, .int .i64 gone, .string more] w fun e w' => e = .returned (.bool true) ∧ Below w.heap.size w w' := by
  obtain ⟨S, hS⟩ : ∃ S, sortS ml = S := ⟨_, rfl⟩
  have hSl : S.length = ml.length := by rw [← hS]; exact sortS_len ml
  have hks : ∀ s ∈ S, s.size ≤ 140737488351232 := fun s hs => hms s ((hS ▸ sortS_perm ml).mem_iff.1 hs)
  replace hm := Lib.hid hm
  replace hms := Lib.hid hms
  replace hks := Lib.hid hks
  cases hN : okN S parts with
  | false =>
    replace hN := Lib.hid hN
    replace hSl := Lib.hid hSl
    replace hS := Lib.hid hS
    go_enter Try.func6, Try.ntmps6
    go_wp2_with (refine wpList_copyS rfl _ _ rfl w rfl A0 c0 ml rfl hm.out hml ?_; intro A2 c2 w2 hm2 hb2)
    refine (range_bad A2 c2 ml parts w2 hm2 hml S hS.out hks.out hN.out).mono ?_
    rintro e w3 ⟨rfl, hb3⟩
    replace hb3 := bl_tr hb2 hb3
    clear hm2 hb2
    go_wp2_with (first | (go_at_call 11; refine (num_any _ _).mono ?_; rintro e wX ⟨rfl, rfl⟩) | (go_at_call 12; refine (knows_any _).mono ?_; rintro e w7 ⟨rfl, hb7⟩))
    go_ret
    exact ⟨rfl, bl_tr hb3 hb7⟩
  | true =>
    obtain ⟨pn, rfl, hp32, hS1000⟩ := ok_parts hN
    have hSd : S.Nodup := ok_nodup hN (hS ▸ sortS_sorted ml)
    replace hN := Lib.hid hN
    replace hS := Lib.hid hS
    have hrg := fun A c w hm => range_any A c ml pn w hm hml S hS.out hks.out hN.out
    rw [hSl] at hrg hS1000
    replace hrg := Lib.hid hrg
    by_cases hnil : ml = []
    · have hml0 : ml.length = 0 := by rw [hnil]; rfl
      have hz1 : ((ml.length : Int) == 0) = true := by rw [hml0]; rfl
      replace hSl := Lib.hid hSl
      replace hml0 := Lib.hid hml0
      clear hnil
      go_enter Try.func6, Try.ntmps6
      go_wp2_with (refine wpList_copyS rfl _ _ rfl w rfl A0 c0 ml rfl hm.out hml ?_; intro A2 c2 w2 hm2 hb2)
      refine (hrg.out A2 c2 w2 hm2).mono ?_
      rintro e w3 ⟨A3, c3, os3, rfl, -, -, -, hb3⟩
      replace hb3 := bl_tr hb2 hb3
      clear hm2 hb2
      go_wp2_with (first | (go_at_call 11; refine (num_any _ _).mono ?_; rintro e wX ⟨rfl, rfl⟩) | (go_at_call 12; refine (knows_any _).mono ?_; rintro e w7 ⟨rfl, hb7⟩))
      go_ret
      exact ⟨rfl, bl_tr hb3 hb7⟩
    · have hml0 : 0 < ml.length := List.length_pos_iff.2 hnil
      have hSne : S ≠ [] := by rintro rfl; simp at hSl; omega
      have hz1 : ((ml.length : Int) == 0) = false := by rw [beq_eq_false_iff_ne]; omega
      have hn0 : (ml.length : Int) ≠ 0 := by omega
      have hn0' : ml.length ≠ 0 := by omega
      obtain ⟨gg, hgl, hgg⟩ := gone_in gone hml0 hS1000
      have hqq := Lib.hid (quo_in (n := ml.length) hp32)
      replace hgg := Lib.hid hgg
      replace hSl := Lib.hid hSl
      go_enter Try.func6, Try.ntmps6
      go_wp2_with (refine wpList_copyS rfl _ _ rfl w rfl A0 c0 ml rfl hm.out hml ?_; intro A2 c2 w2 hm2 hb2)
      refine (hrg.out A2 c2 w2 hm2).mono ?_
      rintro e w3 ⟨A3, c3, os3, rfl, hs3, hm3, hj3, hb3⟩
      have hl3 : os3.length = ml.length := by rw [← hSl.out, ← hm3]; simp
      have hd3 : (os3.map Ou.m).Nodup := by rw [hm3]; exact hSd
      have hfs := fps_range (parts := pn) hl3 hd3 hj3
      rw [hm3] at hfs
      replace hb3 := bl_tr hb2 hb3
      have hm3w := hm.out.below hb3
      have hsz3 : ∀ o ∈ os3, o.m.size ≤ 140737488351232 ∧ o.r.l.length * 8 ≤ 140737488351232 := fun o ho => by
        obtain ⟨j, hj, rfl⟩ := List.getElem_of_mem ho
        refine ⟨hks.out _ (by rw [← hm3]; exact List.mem_map_of_mem ho), ?_⟩
        have := hj3 j (by omega)
        rw [getD_get _ _ hj] at this
        rw [this, rangeL_len]
        have := lenR_le (n := ml.length) (i := j) hp32
        omega
      replace hsz3 := Lib.hid hsz3
      replace hm3 := Lib.hid hm3
      replace hj3 := Lib.hid hj3
      replace hd3 := Lib.hid hd3
      replace hs3 := Lib.hid hs3
      clear hm2 hb2
      go_wp2_with (first | (go_at_call 11; refine (num_any _ _).mono ?_; rintro e wX ⟨rfl, rfl⟩) | (refine wpList_copyS rfl _ _ rfl w3 rfl A0 c0 ml rfl hm3w hml ?_; intro A5 c5 w5 hm5 hb5))
      have hst := sticky_ok A3 A5 c3 c5 os3 ml pn w5 (hs3.out.below hb5).1 (hs3.out.below hb5).2 hm5 hml (by omega) hsz3.out S hS.out hks.out hN.out hSne
      rw [hfs, hl3, hSl.out] at hst
      refine hst.mono ?_
      rintro e w6 ⟨O, os6, rfl, hM6, hm6, hj6, hb6⟩
      clear hst hfs
      have hl6 : os6.length = ml.length := by rw [← hSl.out, ← hm6]; simp
      have hs6 := hM6.sh
      replace hj6 : ∀ j, j < ml.length → (os6.getD j default).r.l = rangeL pn ml.length j := fun j hj => (hj6 j hj).trans (stays_same hml0 j hj)
      replace hs3 := hs3.out.below (bl_tr hb5 hb6)
      replace hb6 := bl_tr (bl_tr hb3 hb5) hb6
      clear hb3 hb5 hm5 hm3w hM6 hm6
      have hmd : (!(ml.length : Int) == (ml.length : Int)) = false := by simp
      go_wp2_with (first | (go_at_call 11; refine (num_any _ _).mono ?_; rintro e wX ⟨rfl, rfl⟩))
      replace hj6 := Lib.hid hj6
      replace hs3 := Lib.hid hs3
      replace hs6 := Lib.hid hs6
      go_loopw [13] (fun u wr => ∃ i : Nat, i ≤ ml.length ∧ u = .int .i64 i ∧ Below w6.heap.size w6 wr) (fun u _ => ml.length - (intOf u).toNat)
      case atStart => exact ⟨0, Nat.zero_le _, rfl, Below.refl _ _⟩
      case round =>
        obtain ⟨i, hi, rfl, hbr⟩ := hrel
        by_cases hlt : i < ml.length
        · have h3i : i < os3.length := by omega
          have h6i : i < os6.length := by omega
          obtain ⟨g, o, rfl, hg, hc⟩ := hs3.out.1 i h3i
          obtain ⟨g2, o2, e2, hg2, hc2⟩ := hs6.out.1 i h6i
          cases e2
          have hsl := hs3.out.2 os3[i] (List.getElem_mem h3i)
          have hsl2 := hs6.out.2 os6[i] (List.getElem_mem h6i)
          have hlo := hj3.out i hlt
          have hlo2 := hj6.out i hlt
          rw [getD_get _ _ h3i] at hlo
          rw [getD_get _ _ h6i] at hlo2
          have hLl : (rangeL pn ml.length i).length ≤ 33 := by rw [rangeL_len]; exact lenR_le hp32
          generalize os3[i] = ou at *
          generalize os6[i] = ru at *
          obtain ⟨m0, Ao, co, lo⟩ := ou
          obtain ⟨m1, Bo, dd, lr⟩ := ru
          simp only at hsl hsl2 hlo hlo2
          rw [← hlo] at hlo2 hLl
          subst hlo2
          have q1w := hc 1 _ rfl
          have r1w := hc2 1 _ rfl
          simp only [Rw3.v] at q1w r1w
          replace q1w := Lib.hid q1w
          replace r1w := Lib.hid r1w
          have q1 := (hbr.cell (p := ⟨g, o + i * 2 + 1, none⟩) hg).trans q1w.out
          have r1 := (hbr.cell (p := ⟨O, 0 + i * 2 + 1, none⟩) hg2).trans r1w.out
          simp only [Nat.zero_add] at r1
          have hi0' : (0 : Int) ≤ (i : Int) := by omega
          have hilt : (i : Int) < (ml.length : Int) := by omega
          replace hlo := Lib.hid hlo
          replace hsl := Lib.hid hsl
          replace hsl2 := Lib.hid hsl2
          clear hc hc2
          have hllN : ((lr.length : Int) != (lr.length : Int)) = false := by simp
          go_wp2_with fail
          go_region
          go_wp2_with fail
          clear q1 r1
          go_loopw [14] (fun u wi => ∃ k : Nat, k ≤ lr.length ∧ u = .int .i64 k ∧ Below w6.heap.size w6 wi) (fun u _ => lr.length - (intOf u).toNat)
          case atStart => exact ⟨0, Nat.zero_le _, rfl, hbr.drew⟩
          case round =>
            clear hbr
            obtain ⟨k, hk, rfl, hbr⟩ := hrel
            have q1 := (hbr.cell (p := ⟨g, o + i * 2 + 1, none⟩) hg).trans q1w.out
            have r1 := (hbr.cell (p := ⟨O, 0 + i * 2 + 1, none⟩) hg2).trans r1w.out
            simp only [Nat.zero_add] at r1
            by_cases hkl : k < lr.length
            · obtain ⟨ga, oa, rfl, hga, hca⟩ := (hsl.out.low (n := w6.heap.size) hbr hsl.out.bel) k hkl
              obtain ⟨gb, ob, rfl, hgb, hcb⟩ := (hsl2.out.low (n := w6.heap.size) hbr hsl2.out.bel) k hkl
              have qa := hca 0 _ rfl
              have qb := hcb 0 _ rfl
              simp only [Nat.mul_one, Nat.add_zero] at qa qb
              have hk0 : (0 : Int) ≤ (k : Int) := by omega
              have hkI : (k : Int) < (lr.length : Int) := by omega
              generalize lr[k] = xa at *
              have hxN : (xa != xa) = false := by simp
              clear hca hcb
              go_wp2_with fail
              go_region
              go_wp2_with fail
              exact ⟨⟨k + 1, by omega, by go_num, hbr.drew⟩, by simp [intOf]; omega⟩
            · obtain rfl : k = lr.length := by omega
              go_wp2_with fail
              exact ⟨⟨i + 1, by omega, by go_num, hbr⟩, by simp [intOf]; omega⟩
        · obtain rfl : i = ml.length := by omega
          go_wp2_with fail
          rw [hgg.out]
          obtain ⟨W1, hW1⟩ : ∃ W1, wr = W1 := ⟨_, rfl⟩
          rw [hW1] at hbr ⊢
          clear hW1 wr
          obtain ⟨k0, hk0, hkz, hk1, hk2⟩ := info_parts infoS
          have hb1 : Below w.heap.size w W1 := bl_tr hb6 hbr
          have hmW := hm.out.below hb1
          go_loopw [15, 16] (fun v u wi => ∃ (i : Nat) (A1 : Option Addr) (c1 : Nat) (L : List ByteArray), i ≤ ml.length ∧ u = .int .i64 i ∧ v = .slice A1 L.length c1 ∧ L.length = (if gg < i then i - 1 else i) ∧ (∀ s ∈ L, s.size ≤ 140737488351232) ∧ wi.ownsRow W1.heap.size 9 1 (.slice A1 L.length c1) L.length (L.flatMap encS) ∧ Below W1.heap.size W1 wi) (fun _ u _ => ml.length - (intOf u).toNat)
          case atStart => exact ⟨0, none, 0, [], Nat.zero_le _, rfl, rfl, by simp, by simp, World.ownsRow_nil _ _ _ _, Below.refl _ _⟩
          case round =>
            obtain ⟨i, A1, c1, L, hi, rfl, rfl, hLl, hLs, hown, hbi⟩ := hrel
            by_cases hlt : i < ml.length
            · obtain ⟨g, o, rfl, hg, hc⟩ := (hmW.low (n := W1.heap.size) hbi hmW.bel) i hlt
              have q0 := hc 0 _ rfl
              simp only [Nat.mul_one, Nat.add_zero] at q0
              have hxs := hms.out ml[i] (List.getElem_mem hlt)
              generalize ml[i] = x at *
              have hi0' : (0 : Int) ≤ (i : Int) := by omega
              have hilt : (i : Int) < (ml.length : Int) := by omega
              have hL1000 : L.length ≤ 1000 := by rw [hLl]; split <;> omega
              clear hc
              by_cases hig : i = gg
              · subst hig
                have hLl' : L.length = if i < i + 1 then i + 1 - 1 else i + 1 := by rw [hLl]; simp
                replace hLl := Lib.hid hLl
                replace hLl' := Lib.hid hLl'
                have hne : (!(i : Int) == (i : Int)) = false := by simp
                go_wp2_with fail
                refine ⟨⟨i + 1, A1, c1, L, by omega, by go_num, rfl, hLl'.out, hLs, hown, hbi⟩, by simp [intOf]; omega⟩
              · have hLl' : L.length + 1 = if gg < i + 1 then i + 1 - 1 else i + 1 := by rw [hLl]; split <;> split <;> omega
                replace hLl := Lib.hid hLl
                replace hLl' := Lib.hid hLl'
                have hne : (!(i : Int) == (gg : Int)) = true := by simp; omega
                have hne2 : ((i : Int) == (gg : Int)) = false := by rw [beq_eq_false_iff_ne]; omega
                go_wp2_with (refine wpList_append_srcT rfl _ _ 22 rfl W1.heap.size 9 k0 _ 1 16 Try.underlying22 hk0 hkz hk1 hk2 rfl (by omega) (.slice A1 L.length c1) L.length _ rfl (hown.alloc _) (some ⟨wr.heap.size, 0, none⟩) 1 1 (encS x) rfl (src_new wr (encS x) 9 1 1 rfl) (encS_one _) (by simp only [maxLen]; omega) (by omega) (by have := hbi.size; simp; omega) ?_; (intro A9 c9 w9 hown9 hg9))
                refine ⟨⟨i + 1, A9, c9, L ++ [x], by omega, by go_num, by simp, by simpa using hLl'.out, ?_, ?_, bl_own (bl_alloc hbi _) (hown.alloc _) (Nat.le_refl _) hg9⟩, by simp [intOf]; omega⟩
                · intro s hs
                  rcases List.mem_append.1 hs with h | h
                  · exact hLs s h
                  · rw [List.mem_singleton] at h; rw [h]; exact hxs
                · rw [List.flatMap_append, List.length_append]
                  simpa using hown9
            · obtain rfl : i = ml.length := by omega
              have hL1 : L.length + 1 = ml.length := by rw [hLl, if_pos hgl]; omega
              replace hLl := Lib.hid hLl
              go_wp2_with (refine wpList_append_srcT rfl _ _ 22 rfl W1.heap.size 9 k0 _ 1 16 Try.underlying22 hk0 hkz hk1 hk2 rfl (by omega) (.slice A1 L.length c1) L.length _ rfl (hown.alloc _) (some ⟨wr.heap.size, 0, none⟩) 1 1 (encS more) rfl (src_new wr (encS more) 9 1 1 rfl) (encS_one _) (by simp only [maxLen]; omega) (by omega) (by have := hbi.size; simp; omega) ?_; (intro A9 c9 w9 hown9 hg9))
              have hmN : LAt w9 A9 1 encS (L ++ [more]) := LAt.of_own encS_len (show w9.ownsRow W1.heap.size 9 1 (.slice A9 ml.length c9) ml.length ((L ++ [more]).flatMap encS) from by rw [List.flatMap_append, ← hL1]; simpa using hown9) (by simp [hL1])
              have hlN : (L ++ [more]).length = ml.length := by simp [hL1]
              have hsN : ∀ s ∈ L ++ [more], s.size ≤ 140737488351232 := fun s hs => by
                rcases List.mem_append.1 hs with h | h
                · exact hLs s h
                · rw [List.mem_singleton] at h; rw [h]; exact hmo
              have hb9 : Below W1.heap.size W1 w9 := bl_own (bl_alloc hbi _) (hown.alloc _) (Nat.le_refl _) hg9
              generalize L ++ [more] = nx at *
              have hb69 : Below w6.heap.size w6 w9 := hbr.trans (hb9.mono hbr.size)
              have hb19 := bl_tr hb6 hb69
              have hs39 := hs3.out.below hb69
              clear hown9 hg9 hown hbi hmW hL1 hLs hb9
              obtain ⟨S2, hS2⟩ : ∃ S2, sortS nx = S2 := ⟨_, rfl⟩
              have hS2l : S2.length = ml.length := by rw [← hS2, sortS_len]; exact hlN
              have hks2 : ∀ s ∈ S2, s.size ≤ 140737488351232 := fun s hs => hsN s ((hS2 ▸ sortS_perm nx).mem_iff.1 hs)
              cases hN2 : okN S2 (pn : Int) with
              | false =>
                have hstb := sticky_bad (.slice A3 ml.length c3) A9 c9 nx pn w9 hmN (by rw [hlN]; exact hml) S2 hS2 hks2 hN2
                rw [hlN] at hstb
                refine hstb.mono ?_
                rintro e w10 ⟨rfl, hb10⟩
                clear hstb
                go_wp2_with (first | (go_at_call 11; refine (num_any _ _).mono ?_; rintro e wX ⟨rfl, rfl⟩) | (go_at_call 12; refine (knows_any _).mono ?_; rintro e w11 ⟨rfl, hb11⟩))
                go_ret
                exact ⟨rfl, bl_tr (bl_tr hb19 hb10) hb11⟩
              | true =>
                have hSd2 : S2.Nodup := ok_nodup hN2 (hS2 ▸ sortS_sorted nx)
                have hS2ne : S2 ≠ [] := by rintro rfl; simp at hS2l; omega
                have hst := sticky_ok A3 A9 c3 c9 os3 nx pn w9 hs39.1 hs39.2 hmN (by rw [hlN]; exact hml) (by omega) hsz3.out S2 hS2 hks2 hN2 hS2ne
                rw [hl3, hlN, hS2l] at hst
                have hwi := fun i k hi hk he hb => stays_within (parts := pn) hml0 hl3 hd3.out hj3.out hS2l hSd2 (i := i) (k := k) hi hk he hb
                rw [hl3] at hwi
                generalize fpsOf (fmL os3 (bk ml.length)) S2 = fs at *
                refine hst.mono ?_
                rintro e w10 ⟨O7, os7, rfl, hM7, hm7, hj7, hb10⟩
                clear hst
                have hl7 : os7.length = ml.length := by rw [← hS2l, ← hm7]; simp
                have hs7 := hM7.sh
                have hs3' := hs39.below hb10
                have hb20 := bl_tr hb19 hb10
                have hge : ∀ i, i < ml.length → pn / ml.length ≤ (ofL (own4 pn ml.length fs) i).length := fun i hi => by rw [ofL_len]; exact ((own4_fair pn ml.length hml0 fs).2.2 i hi).1
                have hle7 : ∀ i, (ofL (own4 pn ml.length fs) i).length ≤ 32 := fun i => by
                  rw [ofL_len]; exact Nat.le_trans (List.countP_le_length ..) (by rw [own4_len]; exact hp32)
                have hname : ∀ i, i < ml.length → (os7.getD i default).m = S2.getD i default := fun i hi => by
                  rw [← hm7, map_getD Ou.m os7 i (by omega)]
                have hbs : pn / ml.length ≤ 32 := Nat.le_trans (Nat.div_le_self _ _) hp32
                obtain ⟨bs, hbse⟩ : ∃ bs, pn / ml.length = bs := ⟨_, rfl⟩
                rw [hbse] at hge hbs hqq hwi
                replace hwi := Lib.hid hwi
                replace hge := Lib.hid hge
                replace hname := Lib.hid hname
                replace hj7 := Lib.hid hj7
                replace hm7 := Lib.hid hm7
                replace hs7 := Lib.hid hs7
                replace hs3' := Lib.hid hs3'
                replace hle7 := Lib.hid hle7
                replace hN2 := Lib.hid hN2
                replace hS2 := Lib.hid hS2
                replace hbse := Lib.hid hbse
                clear hM7 hs39 hmN hlN hsN hks2 hS2l hb10 hb69 hb19
                go_wp2_with (first | (go_at_call 11; refine (num_any _ _).mono ?_; rintro e wX ⟨rfl, rfl⟩))
                rw [hqq.out]
                go_loopw [20] (fun u wr => ∃ i : Nat, i ≤ ml.length ∧ u = .int .i64 i ∧ Below w10.heap.size w10 wr) (fun u _ => ml.length - (intOf u).toNat)
                case atStart => exact ⟨0, Nat.zero_le _, rfl, Below.refl _ _⟩
                case round =>
                  obtain ⟨i, hi, rfl, hbr'⟩ := hrel
                  by_cases hlt : i < ml.length
                  · have h7i : i < os7.length := by omega
                    obtain ⟨g7, o7, e7, hg7, hc7⟩ := hs7.out.1 i h7i
                    cases e7
                    have hsl7 := hs7.out.2 os7[i] (List.getElem_mem h7i)
                    have hlo7 := hj7.out i hlt
                    have hnm7 := hname.out i hlt
                    rw [getD_get _ _ h7i] at hlo7 hnm7
                    have hl732 := hle7.out i
                    have hgei := hge.out i hlt
                    generalize os7[i] = cu at *
                    obtain ⟨m7, Co, cc, lc⟩ := cu
                    simp only at hsl7 hlo7 hnm7
                    rw [← hlo7] at hl732 hgei
                    have q0w := hc7 0 _ rfl
                    have q1w := hc7 1 _ rfl
                    simp only [Rw3.v, Nat.add_zero, Nat.zero_add] at q0w q1w
                    replace q0w := Lib.hid q0w
                    replace q1w := Lib.hid q1w
                    have hi0' : (0 : Int) ≤ (i : Int) := by omega
                    have hilt : (i : Int) < (ml.length : Int) := by omega
                    replace hlo7 := Lib.hid hlo7
                    replace hnm7 := Lib.hid hnm7
                    replace hsl7 := Lib.hid hsl7
                    clear hc7
                    go_wp2_with fail
                    go_loopw [21] (fun u wi => ∃ k : Nat, k ≤ ml.length ∧ u = .int .i64 k ∧ Below w10.heap.size w10 wi) (fun u _ => ml.length - (intOf u).toNat)
                    case atStart => exact ⟨0, Nat.zero_le _, rfl, hbr'⟩
                    case round =>
                      clear hbr'
                      obtain ⟨k, hk, rfl, hbr'⟩ := hrel
                      by_cases hkl : k < ml.length
                      · have h3k : k < os3.length := by omega
                        obtain ⟨g, o, rfl, hg, hc⟩ := hs3'.out.1 k h3k
                        have hsl := hs3'.out.2 os3[k] (List.getElem_mem h3k)
                        have hlo := hj3.out k hkl
                        have hwik := hwi.out i k hlt hkl
                        rw [getD_get _ _ h3k] at hlo hwik
                        rw [← hnm7.out, ← hlo7.out] at hwik
                        have hLl : (rangeL pn ml.length k).length ≤ 33 := by rw [rangeL_len]; exact lenR_le hp32
                        generalize os3[k] = ou at *
                        obtain ⟨m0, Ao, co, lo⟩ := ou
                        simp only at hsl hlo hwik
                        rw [← hlo] at hLl hwik
                        have p0 := (hbr'.cell (p := ⟨g, o + k * 2 + 0, none⟩) hg).trans (hc 0 _ rfl)
                        have p1 := (hbr'.cell (p := ⟨g, o + k * 2 + 1, none⟩) hg).trans (hc 1 _ rfl)
                        simp only [Rw3.v, Nat.add_zero] at p0 p1
                        have q0 := (hbr'.cell (p := ⟨O7, i * 2, none⟩) hg7).trans q0w.out
                        have q1 := (hbr'.cell (p := ⟨O7, i * 2 + 1, none⟩) hg7).trans q1w.out
                        have hk0 : (0 : Int) ≤ (k : Int) := by omega
                        have hkI : (k : Int) < (ml.length : Int) := by omega
                        clear hc
                        by_cases hmm : m0 = m7
                        · have hmd : (m0.toList == m7.toList) = true := by rw [str_eq]; simp [hmm]
                          by_cases hbl : lo.length ≤ bs
                          · have hw := hwik hmm hbl
                            have hgt : decide ((bs : Int) < (lo.length : Int)) = false := by simp; omega
                            have hgt2 : decide ((lc.length : Int) < (lo.length : Int)) = false := by simp; omega
                            have hcal := within_any Ao Co co cc lo lc
                            have hslw := (hsl.low (n := w10.heap.size) hbr' hsl.bel)
                            have hslw7 := (hsl7.out.low (n := w10.heap.size) hbr' hsl7.out.bel)
                            replace hcal := Lib.hid (fun W hb => hcal W (hslw.below hb) (hslw7.below hb) (by omega) (by omega) hw)
                            replace hmm := Lib.hid hmm
                            clear hslw hslw7 hsl hw hwik hlo
                            go_wp2_with fail
                            go_region
                            go_wp2_with fail
                            have hp0 : wr.drew.cell? ⟨g, o + k * 2 + 1, none⟩ = some (.slice Ao lo.length co) := p1
                            have hq0 : wr.drew.cell? ⟨O7, i * 2 + 1, none⟩ = some (.slice Co lc.length cc) := q1
                            have hbd := hbr'.drew
                            have hwx := bl_drew (Below.refl wr.heap.size wr)
                            have hgd : g < wr.drew.heap.size := Nat.lt_of_lt_of_le hg hbr'.size
                            have hg7d : O7 < wr.drew.heap.size := Nat.lt_of_lt_of_le hg7 hbr'.size
                            generalize wr.drew = X at *
                            refine wpAnyH.region rfl (fun w' => Below X.heap.size X w') ?_
                            have hS0 : Below X.heap.size X X.drew := bl_drew (Below.refl _ _)
                            try simp only [List.setIfInBounds_toArray, List.set_cons_zero, List.set_cons_succ]
                            refine wpAnyH.takeT (i := 0) (t := 187) (v := (.slice (some ⟨O7, 0, none⟩) ml.length ml.length)) rfl rfl (by decide +kernel) (by decide +kernel) (by decide +kernel) (fun _ _ _ h => h.elim) (.inl ⟨rfl, fun w' hS => ?_⟩) hS0 ?_
                            · go_simp
                            try simp only [List.setIfInBounds_toArray, List.set_cons_zero, List.set_cons_succ]
                            refine wpAnyH.takeT (i := 1) (t := 188) (v := (.int .i64 (i : Nat))) rfl rfl (by decide +kernel) (by decide +kernel) (by decide +kernel) (fun _ _ _ h => h.elim) (.inl ⟨rfl, fun w' hS => ?_⟩) hS0 ?_
                            · go_simp
                            try simp only [List.setIfInBounds_toArray, List.set_cons_zero, List.set_cons_succ]
                            refine wpAnyH.takeT (i := 2) (t := 189) (v := (.pointer (some ⟨O7, i * 2, none⟩))) rfl rfl (by decide +kernel) (by decide +kernel) (by decide +kernel) (fun _ _ _ h => h.elim) (.inl ⟨rfl, fun w' hS => ?_⟩) hS0 ?_
                            · go_simp
                            try simp only [List.setIfInBounds_toArray, List.set_cons_zero, List.set_cons_succ]
                            refine wpAnyH.takeT (i := 3) (t := 190) (v := (.pointer (some ⟨O7, i * 2 + 1, none⟩))) rfl rfl (by decide +kernel) (by decide +kernel) (by decide +kernel) (fun _ _ _ h => h.elim) (.inl ⟨rfl, fun w' hS => ?_⟩) hS0 ?_
                            · go_simp
                            try simp only [List.setIfInBounds_toArray, List.set_cons_zero, List.set_cons_succ]
                            refine wpAnyH.takeT (i := 4) (t := 191) (v := (.slice Co lc.length cc)) rfl rfl (by decide +kernel) (by decide +kernel) (by decide +kernel) (fun _ _ _ h => h.elim) (.inl ⟨rfl, fun w' hS => ?_⟩) hS0 ?_
                            · have z := (hS.cell (p := ⟨O7, i * 2 + 1, none⟩) hg7d).trans hq0
                              go_simp
                            try simp only [List.setIfInBounds_toArray, List.set_cons_zero, List.set_cons_succ]
                            refine wpAnyH.takeT (i := 5) (t := 192) (v := (.int .i64 (lc.length : Nat))) rfl rfl (by decide +kernel) (by decide +kernel) (by decide +kernel) (fun _ _ _ h => h.elim) (.inl ⟨rfl, fun w' hS => ?_⟩) hS0 ?_
                            · go_simp
                            try simp only [List.setIfInBounds_toArray, List.set_cons_zero, List.set_cons_succ]
                            refine wpAnyH.takeT (i := 6) (t := 193) (v := (.slice (some ⟨g, o, none⟩) ml.length c3)) rfl rfl (by decide +kernel) (by decide +kernel) (by decide +kernel) (fun _ _ _ h => h.elim) (.inl ⟨rfl, fun w' hS => ?_⟩) hS0 ?_
                            · go_simp
                            try simp only [List.setIfInBounds_toArray, List.set_cons_zero, List.set_cons_succ]
                            refine wpAnyH.takeT (i := 7) (t := 194) (v := (.int .i64 (k : Nat))) rfl rfl (by decide +kernel) (by decide +kernel) (by decide +kernel) (fun _ _ _ h => h.elim) (.inl ⟨rfl, fun w' hS => ?_⟩) hS0 ?_
                            · go_simp
                            try simp only [List.setIfInBounds_toArray, List.set_cons_zero, List.set_cons_succ]
                            refine wpAnyH.takeT (i := 8) (t := 195) (v := (.pointer (some ⟨g, o + k * 2, none⟩))) rfl rfl (by decide +kernel) (by decide +kernel) (by decide +kernel) (fun _ _ _ h => h.elim) (.inl ⟨rfl, fun w' hS => ?_⟩) hS0 ?_
                            · go_simp
                            try simp only [List.setIfInBounds_toArray, List.set_cons_zero, List.set_cons_succ]
                            refine wpAnyH.takeT (i := 9) (t := 196) (v := (.pointer (some ⟨g, o + k * 2 + 1, none⟩))) rfl rfl (by decide +kernel) (by decide +kernel) (by decide +kernel) (fun _ _ _ h => h.elim) (.inl ⟨rfl, fun w' hS => ?_⟩) hS0 ?_
                            · go_simp
                            try simp only [List.setIfInBounds_toArray, List.set_cons_zero, List.set_cons_succ]
                            refine wpAnyH.takeT (i := 10) (t := 197) (v := (.slice Ao lo.length co)) rfl rfl (by decide +kernel) (by decide +kernel) (by decide +kernel) (fun _ _ _ h => h.elim) (.inl ⟨rfl, fun w' hS => ?_⟩) hS0 ?_
                            · have z := (hS.cell (p := ⟨g, o + k * 2 + 1, none⟩) hgd).trans hp0
                              go_simp
                            try simp only [List.setIfInBounds_toArray, List.set_cons_zero, List.set_cons_succ]
                            refine wpAnyH.takeT (i := 11) (t := 198) (v := (.int .i64 (lo.length : Nat))) rfl rfl (by decide +kernel) (by decide +kernel) (by decide +kernel) (fun _ _ _ h => h.elim) (.inl ⟨rfl, fun w' hS => ?_⟩) hS0 ?_
                            · go_simp
                            try simp only [List.setIfInBounds_toArray, List.set_cons_zero, List.set_cons_succ]
                            refine wpAnyH.takeT (i := 12) (t := 199) (v := (.bool false)) rfl rfl (by decide +kernel) (by decide +kernel) (by decide +kernel) (fun _ _ _ h => h.elim) (.inl ⟨rfl, fun w' hS => ?_⟩) hS0 ?_
                            · (go_simp; omega)
                            try simp only [List.setIfInBounds_toArray, List.set_cons_zero, List.set_cons_succ]
                            refine wpAnyH.takeT (i := 13) (t := 200) (v := (.bool false)) rfl rfl (by decide +kernel) (by decide +kernel) (by decide +kernel) (fun _ _ _ h => h.elim) (.inl ⟨rfl, fun w' hS => ?_⟩) hS0 ?_
                            · go_simp
                            try simp only [List.setIfInBounds_toArray, List.set_cons_zero, List.set_cons_succ]
                            refine wpAnyH.takeT (i := 14) (t := 201) (v := (.slice (some ⟨g, o, none⟩) ml.length c3)) rfl rfl (by decide +kernel) (by decide +kernel) (by decide +kernel) (fun _ _ _ h => h.elim) (.inl ⟨rfl, fun w' hS => ?_⟩) hS0 ?_
                            · go_simp
                            try simp only [List.setIfInBounds_toArray, List.set_cons_zero, List.set_cons_succ]
                            refine wpAnyH.takeT (i := 15) (t := 202) (v := (.int .i64 (k : Nat))) rfl rfl (by decide +kernel) (by decide +kernel) (by decide +kernel) (fun _ _ _ h => h.elim) (.inl ⟨rfl, fun w' hS => ?_⟩) hS0 ?_
                            · go_simp
                            try simp only [List.setIfInBounds_toArray, List.set_cons_zero, List.set_cons_succ]
                            refine wpAnyH.takeT (i := 16) (t := 203) (v := (.pointer (some ⟨g, o + k * 2, none⟩))) rfl rfl (by decide +kernel) (by decide +kernel) (by decide +kernel) (fun _ _ _ h => h.elim) (.inl ⟨rfl, fun w' hS => ?_⟩) hS0 ?_
                            · go_simp
                            try simp only [List.setIfInBounds_toArray, List.set_cons_zero, List.set_cons_succ]
                            refine wpAnyH.takeT (i := 17) (t := 204) (v := (.pointer (some ⟨g, o + k * 2 + 1, none⟩))) rfl rfl (by decide +kernel) (by decide +kernel) (by decide +kernel) (fun _ _ _ h => h.elim) (.inl ⟨rfl, fun w' hS => ?_⟩) hS0 ?_
                            · go_simp
                            try simp only [List.setIfInBounds_toArray, List.set_cons_zero, List.set_cons_succ]
                            refine wpAnyH.takeT (i := 18) (t := 205) (v := (.slice Ao lo.length co)) rfl rfl (by decide +kernel) (by decide +kernel) (by decide +kernel) (fun _ _ _ h => h.elim) (.inl ⟨rfl, fun w' hS => ?_⟩) hS0 ?_
                            · have z := (hS.cell (p := ⟨g, o + k * 2 + 1, none⟩) hgd).trans hp0
                              go_simp
                            try simp only [List.setIfInBounds_toArray, List.set_cons_zero, List.set_cons_succ]
                            refine wpAnyH.takeT (i := 19) (t := 206) (v := (.slice (some ⟨O7, 0, none⟩) ml.length ml.length)) rfl rfl (by decide +kernel) (by decide +kernel) (by decide +kernel) (fun _ _ _ h => h.elim) (.inl ⟨rfl, fun w' hS => ?_⟩) hS0 ?_
                            · go_simp
                            try simp only [List.setIfInBounds_toArray, List.set_cons_zero, List.set_cons_succ]
                            refine wpAnyH.takeT (i := 20) (t := 207) (v := (.int .i64 (i : Nat))) rfl rfl (by decide +kernel) (by decide +kernel) (by decide +kernel) (fun _ _ _ h => h.elim) (.inl ⟨rfl, fun w' hS => ?_⟩) hS0 ?_
                            · go_simp
                            try simp only [List.setIfInBounds_toArray, List.set_cons_zero, List.set_cons_succ]
                            refine wpAnyH.takeT (i := 21) (t := 208) (v := (.pointer (some ⟨O7, i * 2, none⟩))) rfl rfl (by decide +kernel) (by decide +kernel) (by decide +kernel) (fun _ _ _ h => h.elim) (.inl ⟨rfl, fun w' hS => ?_⟩) hS0 ?_
                            · go_simp
                            try simp only [List.setIfInBounds_toArray, List.set_cons_zero, List.set_cons_succ]
                            refine wpAnyH.takeT (i := 22) (t := 209) (v := (.pointer (some ⟨O7, i * 2 + 1, none⟩))) rfl rfl (by decide +kernel) (by decide +kernel) (by decide +kernel) (fun _ _ _ h => h.elim) (.inl ⟨rfl, fun w' hS => ?_⟩) hS0 ?_
                            · go_simp
                            try simp only [List.setIfInBounds_toArray, List.set_cons_zero, List.set_cons_succ]
                            refine wpAnyH.takeT (i := 23) (t := 210) (v := (.slice Co lc.length cc)) rfl rfl (by decide +kernel) (by decide +kernel) (by decide +kernel) (fun _ _ _ h => h.elim) (.inl ⟨rfl, fun w' hS => ?_⟩) hS0 ?_
                            · have z := (hS.cell (p := ⟨O7, i * 2 + 1, none⟩) hg7d).trans hq0
                              go_simp
                            try simp only [List.setIfInBounds_toArray, List.set_cons_zero, List.set_cons_succ]
                            refine wpAnyH.one (i := 24) (by decide +kernel) rfl rfl ?_
                            refine wp_goCall2 17 (enters_of Try.func17 (by kernel_rfl) rfl) (.tmp 205) (.tmp 210) #[37, 37] rfl 211 rfl ?_
                            refine (hcal.out X.drew hwx.drew).mono ?_
                            rintro e wZ ⟨rfl, bZ⟩
                            replace hS0 : Below X.heap.size X wZ := hS0.trans (bZ.mono hS0.size)
                            refine ⟨_, rfl, hS0, ?_⟩
                            try simp only [List.setIfInBounds_toArray, List.set_cons_zero, List.set_cons_succ]
                            refine wpAnyH.takeT (i := 25) (t := 212) (v := (.bool false)) rfl rfl (by decide +kernel) (by decide +kernel) (by decide +kernel) (fun _ _ _ h => h.elim) (.inl ⟨rfl, fun w' hS => ?_⟩) hS0 ?_
                            · go_simp
                            try simp only [List.setIfInBounds_toArray, List.set_cons_zero, List.set_cons_succ]
                            refine wpAnyH.takeT (i := 26) (t := 213) (v := (.bool false)) rfl rfl (by decide +kernel) (by decide +kernel) (by decide +kernel) (fun _ _ _ h => h.elim) (.inl ⟨rfl, fun w' hS => ?_⟩) hS0 ?_
                            · go_simp
                            refine wpAnyH_done (by decide +kernel) ?_ _
                            refine NoPanic.normal ?_
                            go_wp2_with fail
                            exact ⟨⟨k + 1, by omega, by go_num, hbd.trans (hS0.mono hbd.size)⟩, by simp [intOf]; omega⟩
                          · have hgt : decide ((bs : Int) < (lo.length : Int)) = true := by simp; omega
                            replace hmm := Lib.hid hmm
                            clear hwik hlo hsl
                            go_wp2_with fail
                            go_region
                            go_wp2_with fail
                            exact ⟨⟨k + 1, by omega, by go_num, hbr'.drew⟩, by simp [intOf]; omega⟩
                        · have hmd : (m0.toList == m7.toList) = false := by rw [str_eq]; simp [hmm]
                          replace hmm := Lib.hid hmm
                          clear hwik hlo hsl
                          go_wp2_with fail
                          go_region
                          go_wp2_with fail
                          exact ⟨⟨k + 1, by omega, by go_num, hbr'.drew⟩, by simp [intOf]; omega⟩
                      · obtain rfl : k = ml.length := by omega
                        go_wp2_with fail
                        exact ⟨⟨i + 1, by omega, by go_num, hbr'⟩, by simp [intOf]; omega⟩
                  · obtain rfl : i = ml.length := by omega
                    have hbf := bl_tr hb20 hbr'
                    go_wp2_with (go_at_call 12; refine (knows_any _).mono ?_; rintro e w11 ⟨rfl, hb11⟩)
                    go_ret
                    exact ⟨rfl, bl_tr hbf hb11⟩
end Go.Proofs.Ytbjjhnlifgbpmaa
