/- ViewSteps walked. -/
import Derived.Test.YtjokpjfmnjefdaaAd
import Derived.Laws.StructEq
namespace Go.Proofs.Ytjokpjfmnjefdaa
open Go.RowKit Go.Shelf
attribute [local go_sem] Oper.semAt_some

theorem wp_goCall2 {P : Program} {o : Oper} {a : Act} {w : World} {K : Act → World → Prop} {Q : Exit → Act → World → Prop} (f : FuncId) (hf : Enters P f) (x y : Operand) (ts : Array TypeId) (ho : o.op = .call { callee := .value (.func f), args := #[x, y], argTypes := ts }) (dt : Nat) (hd : o.dst = some dt)
    (h : Calls P f #[a.eval x, a.eval y] w fun e w' => ∃ v, e = .returned v ∧ K { a with tmps := a.tmps.setIfInBounds dt v } w') : o.wp P a w K Q := by
  unfold Oper.wp execOp
  simp only [ho, resolve, invoke, Sem.run_bind, Deferred.ofValue, Act.eval]
  simp [Result.andThen, hf _ _, Oper.upon_enter]
  refine h.mono ?_
  rintro e w' ⟨v, rfl, hk⟩
  simp only [hd, Act.put]
  exact hk
theorem mayR_pw (l : List Rw) : MayR l ↔ (l.Pairwise fun x y => x.off < y.off) ∧ ∀ x ∈ l, 0 ≤ x.off := by
  rw [mayR_iff]
  constructor
  · intro h
    have hlt : ∀ (d i : Nat) (hj : i + d + 1 < l.length), l[i].off < l[i + d + 1].off := by
      intro d
      induction d with
      | zero => intro i hj; exact (h (i + 1) hj).2 i rfl
      | succ d ih =>
        intro i hj
        have h1 := ih i (by omega)
        have h2 := (h (i + d + 1 + 1) (by omega)).2 (i + d + 1) rfl
        show l[i].off < l[i + d + 1 + 1].off
        omega
    refine ⟨List.pairwise_iff_getElem.2 fun i j hi hj hij => ?_, fun x hx => ?_⟩
    · have := hlt (j - i - 1) i (by omega)
      have e : i + (j - i - 1) + 1 = j := by omega
      simp only [e] at this
      exact this
    · obtain ⟨i, hi, rfl⟩ := List.getElem_of_mem hx
      exact (h i hi).1
  · rintro ⟨h1, h2⟩ j hj
    refine ⟨h2 _ (List.getElem_mem hj), fun k hk => ?_⟩
    subst hk
    exact (List.pairwise_iff_getElem.1 h1) k (k + 1) (by omega) hj (by omega)
theorem mem_foldS (rs : List Rw) : ∀ (l : List Pr) (p : Pr), p ∈ rs.foldl stepL l → p ∈ l ∨ ∃ r ∈ rs, p = rwP r := by
  induction rs with
  | nil => intro l p h; exact .inl h
  | cons r t ih =>
    intro l p h
    rw [List.foldl_cons] at h
    rcases ih _ _ h with h | ⟨r', hr', rfl⟩
    · have : p ∈ l ∨ p = rwP r := by
        unfold stepL at h
        split at h
        · exact .inl (List.mem_filter.1 h).1
        · rcases mem_insL.1 h with rfl | h
          · exact .inr rfl
          · exact .inl (List.mem_filter.1 h).1
      rcases this with h | rfl
      · exact .inl h
      · exact .inr ⟨r, by simp, rfl⟩
    · exact .inr ⟨r', by simp [hr'], rfl⟩
theorem mem_onL {rs : List Rw} {p : Pr} (h : p ∈ onL [] rs) : ∃ r ∈ rs, p = rwP r := by
  rcases mem_foldS rs _ p h with h | h
  · simp at h
  · exact h
/-- What the first k rows mean, and then the rest. -/
theorem steps_parts {rs : List Rw} (h : MayR rs) (k : Nat) : MayR (rs.take k) ∧ MayR (rs.drop k) ∧ TabP (onL [] (rs.take k)) ∧ ¬ Late (onL [] (rs.take k)) (rs.drop k) ∧ onL (onL [] (rs.take k)) (rs.drop k) = onL [] rs := by
  obtain ⟨h1, h2⟩ := (mayR_pw rs).1 h
  have m1 : MayR (rs.take k) := (mayR_pw _).2 ⟨h1.sublist (List.take_sublist _ _), fun x hx => h2 x (List.mem_of_mem_take hx)⟩
  have m2 : MayR (rs.drop k) := (mayR_pw _).2 ⟨h1.sublist (List.drop_sublist _ _), fun x hx => h2 x (List.mem_of_mem_drop hx)⟩
  refine ⟨m1, m2, ⟨(risP_iff _).2 (ris_onL _ _), fun p hp => ?_⟩, ?_, ?_⟩
  · obtain ⟨r, hr, rfl⟩ := mem_onL hp
    exact h2 r (List.mem_of_mem_take hr)
  · rintro ⟨r, e, p, hp, hle⟩
    obtain ⟨q, hq, rfl⟩ := mem_onL hp
    have hr : r ∈ rs.drop k := List.mem_of_mem_head? e
    have h3 := h1
    rw [← List.take_append_drop k rs] at h3
    have := (List.pairwise_append.1 h3).2.2 q hq r hr
    simp only [rwP] at hle
    omega
  · unfold onL
    rw [show (List.foldl stepL (List.foldl withL [] []) (rs.take k)).foldl withL [] = (rs.take k).foldl stepL [] from fold_table (ris_onL [] (rs.take k))]
    rw [← List.foldl_append, List.take_append_drop]
    rfl

set_option maxRecDepth 100000 in
set_option maxHeartbeats 2000000 in
theorem vsteps_any (A : Option Addr) (c : Nat) (rs : List Rw) (z : Int) (w : World) (hr : LAt w A 6 rwL rs) (hrl : rs.length ≤ 2199023255500) (hkr : ∀ r ∈ rs, r.key.size ≤ maxLen) (hz : okI z) :
    Calls Try.prog 7 #[.slice A rs.length c, .int .i64 z] w fun e w' => e = .returned (.bool true) ∧ Below w.heap.size w w' := by
  replace hkr := Lib.hid hkr
  go_enter Try.func7, Try.ntmps7
  go_wp2_with fail
  refine (rows_any A c rs w hr hrl).mono ?_
  rintro e w1 ⟨A1, c1, rfl, hc1, h1, hw1⟩
  replace hr := hr.below hw1
  go_wp2_with fail
  by_cases hm : MayR rs
  · refine (latest_yes A1 c1 rs w1 h1 hrl hkr.out hm).mono ?_
    rintro e w2 ⟨A2, c2, rfl, hP2, hw2⟩
    have hol := len_onL [] rs
    simp only [List.length_nil, Nat.zero_add] at hol
    by_cases hn : rs.length = 0
    · obtain rfl : rs = [] := List.eq_nil_of_length_eq_zero hn
      have hon : onL [] [] = [] := rfl
      rw [hon] at hP2 ⊢
      clear hon hol hn hm hkr
      go_wp2_with fail
      refine (knows_any _).mono ?_
      rintro e w3 ⟨rfl, hw3⟩
      go_wp2_with fail
      go_ret
      exact ⟨rfl, bl_tr hw1 (bl_tr hw2 hw3)⟩
    · have hn0 : ((rs.length : Int) == 0) = false := by simpa using hn
      generalize hD : onL [] rs = D at *
      replace hD := Lib.hid hD
      go_wp2_with fail
      refine (lmay_any A c rs w2 (hr.below hw2) (by omega)).mono ?_
      rintro e w3 ⟨b, rfl, hb, hw3⟩
      obtain rfl : b = true := hb.2 hm
      clear hb
      go_wp2_with fail
      refine (knows_any _).mono ?_
      rintro e w4 ⟨rfl, hw4⟩
      unfold okI at hz
      have hnI : (1 : Int) ≤ (rs.length : Int) := by omega
      have ht1 : -(rs.length : Int) < z.tmod rs.length := by have := Int.lt_tmod_of_pos z (by omega : (0 : Int) < rs.length); omega
      have ht2 : z.tmod rs.length < (rs.length : Int) := Int.tmod_lt_of_pos z (by omega)
      go_upto_region 6 with fail
      obtain ⟨k, hk, hkn⟩ : ∃ k : Nat, (z.tmod rs.length + rs.length) % rs.length = (k : Int) ∧ k < rs.length := by
        have h0 := Int.emod_nonneg (z.tmod rs.length + rs.length) (by omega : (rs.length : Int) ≠ 0)
        have h2 := Int.emod_lt_of_pos (z.tmod rs.length + rs.length) (by omega : (0 : Int) < rs.length)
        exact ⟨((z.tmod rs.length + rs.length) % rs.length).toNat, by omega, by omega⟩
      rw [hk]
      clear hk
      obtain ⟨m1, m2, tk, nl, eq⟩ := steps_parts hm k
      rw [hD.out] at eq
      have hw := bl_tr hw1 (bl_tr hw2 (bl_tr hw3 hw4))
      replace h1 := h1.below (bl_tr hw2 (bl_tr hw3 hw4))
      have hP4 := hP2.row.below (bl_tr hw3 hw4)
      have hz1 : hz = hz := rfl
      have hkI0 : (0 : Int) ≤ (k : Int) := by omega
      have hkI1 : (k : Int) ≤ (rs.length : Int) := by omega
      have hkI2 : (k : Int) ≤ (c1 : Int) := by omega
      have ltk : (rs.take k).length = k := by simp; omega
      have ldk : (rs.drop k).length = rs.length - k := by simp
      have hL := latest_yes A1 c1 (rs.take k)
      rw [ltk] at hL
      have hA := fun A3 c3 A4 c4 => adv_any A3 A4 c3 c4 (onL [] (rs.take k)) (rs.drop k)
      simp only [ldk] at hA
      have hlo := len_onL [] (rs.take k)
      rw [ltk] at hlo
      simp only [List.length_nil, Nat.zero_add] at hlo
      have h1t := h1.take k
      have h1d : LAt w4 (if c1 = k then A1 else Option.map (fun a : Addr => a.add (k * 6)) A1) 6 rwL (rs.drop k) := by
        obtain ⟨b, o, hAe, _, _⟩ := h1 k hkn
        rw [hAe] at h1 ⊢
        rw [if_neg (by omega), Option.map_some, Addr.add_mid]
        exact h1.drop k
      have hkt : ∀ r ∈ rs.take k, r.key.size ≤ maxLen := fun r hr => hkr.out r (List.mem_of_mem_take hr)
      have hkd : ∀ r ∈ rs.drop k, r.key.size ≤ maxLen := fun r hr => hkr.out r (List.mem_of_mem_drop hr)
      have hkl : ∀ p ∈ onL [] (rs.take k), p.key.size ≤ maxLen := fun p hp => by
        obtain ⟨r, hr, rfl⟩ := mem_onL hp
        exact hkt r hr
      unfold AdvPost at hA
      rw [eq] at hA
      clear hz1 eq
      generalize rs.take k = rt at *
      generalize rs.drop k = rd at *
      generalize hDt : onL [] rt = Dt at *
      replace hL := Lib.hid hL
      replace hA := Lib.hid hA
      replace hkt := Lib.hid hkt
      replace hkd := Lib.hid hkd
      replace hkl := Lib.hid hkl
      replace hDt := Lib.hid hDt
      replace ltk := Lib.hid ltk
      replace ldk := Lib.hid ldk
      replace h1d := Lib.hid h1d
      clear ht1 ht2 hD hkr hP2 h1 hr hn0 hz
      refine wpAnyH.region rfl (fun w' => Below w4.heap.size w4 w') ?_
      refine wpAnyH.takeT (i := 0) (t := 43) (v := .slice A1 rs.length c1) rfl rfl (by decide +kernel) (by decide +kernel) (by decide +kernel) (fun _ _ _ h => h.elim) (.inl ⟨rfl, fun w' hS => ?_⟩) (bl_drew (Below.refl _ _)) ?_
      · go_simp
      try simp only [List.setIfInBounds_toArray, List.set_cons_zero, List.set_cons_succ]
      refine wpAnyH.takeT (i := 1) (t := 44) (v := .int .i64 k) rfl rfl (by decide +kernel) (by decide +kernel) (by decide +kernel) (fun _ _ _ h => h.elim) (.inl ⟨rfl, fun w' hS => ?_⟩) (bl_drew (Below.refl _ _)) ?_
      · go_simp
      try simp only [List.setIfInBounds_toArray, List.set_cons_zero, List.set_cons_succ]
      refine wpAnyH.takeT (i := 2) (t := 45) (v := .slice A1 k c1) rfl rfl (by decide +kernel) (by decide +kernel) (by decide +kernel) (fun _ _ _ h => h.elim) (.inl ⟨rfl, fun w' hS => ?_⟩) (bl_drew (Below.refl _ _)) ?_
      · go_simp
      try simp only [List.setIfInBounds_toArray, List.set_cons_zero, List.set_cons_succ]
      refine wpAnyH.takeT (i := 4) (t := 47) (v := .slice A1 rs.length c1) rfl rfl (by decide +kernel) (by decide +kernel) (by decide +kernel) (fun _ _ _ h => h.elim) (.inl ⟨rfl, fun w' hS => ?_⟩) (bl_drew (Below.refl _ _)) ?_
      · go_simp
      try simp only [List.setIfInBounds_toArray, List.set_cons_zero, List.set_cons_succ]
      refine wpAnyH.takeT (i := 5) (t := 48) (v := .int .i64 k) rfl rfl (by decide +kernel) (by decide +kernel) (by decide +kernel) (fun _ _ _ h => h.elim) (.inl ⟨rfl, fun w' hS => ?_⟩) (bl_drew (Below.refl _ _)) ?_
      · go_simp
      try simp only [List.setIfInBounds_toArray, List.set_cons_zero, List.set_cons_succ]
      refine wpAnyH.takeT (i := 6) (t := 49) (v := .slice (if c1 = k then A1 else Option.map (fun a : Addr => a.add (k * 6)) A1) (rs.length - k) (c1 - k)) rfl rfl (by decide +kernel) (by decide +kernel) (by decide +kernel) (fun _ _ _ h => h.elim) (.inl ⟨rfl, fun w' hS => ?_⟩) (bl_drew (Below.refl _ _)) ?_
      · go_simp
      try simp only [List.setIfInBounds_toArray, List.set_cons_zero, List.set_cons_succ]
      refine wpAnyH.one (i := 3) (by decide +kernel) rfl rfl ?_
      refine wp_goCall1 14 (enters_of Try.func14 (by kernel_rfl) rfl) (.tmp 45) #[23] rfl 46 rfl ?_
      refine (hL.out w4.drew (h1t.below (bl_drew (Below.refl _ _))) (by omega) hkt.out m1).mono ?_
      rintro e w5 ⟨A5, c5, rfl, hP5, hw5⟩
      have hS5 : Below w4.heap.size w4 w5 := bl_tr (bl_drew (Below.refl _ _)) hw5
      refine ⟨_, rfl, hS5, ?_⟩
      try simp only [List.setIfInBounds_toArray, List.set_cons_zero, List.set_cons_succ]
      refine wpAnyH.one (i := 7) (by decide +kernel) rfl rfl ?_
      refine wp_goCall2 23 (enters_of Try.func23 (by kernel_rfl) rfl) (.tmp 46) (.tmp 49) #[26, 23] rfl 50 rfl ?_
      refine (hA.out A5 c5 _ _ w5 hP5.row (h1d.out.below hS5) (by omega) hkl.out hkd.out tk m2).mono ?_
      intro e w6 h6
      obtain ⟨_, A6, c6, rfl, hP6, hw6⟩ := h6.resolve_left (fun h => nl h.1)
      have hS6 := bl_tr hS5 hw6
      refine ⟨_, rfl, hS6, ?_⟩
      try simp only [List.setIfInBounds_toArray, List.set_cons_zero, List.set_cons_succ]
      refine wpAnyH.takeT (i := 8) (t := 42) (v := .tuple #[.slice A6 D.length c6, .int .i64 0]) rfl rfl (by decide +kernel) (by decide +kernel) (by decide +kernel) (fun _ _ _ h => h.elim) (.inl ⟨rfl, fun w' hS => ?_⟩) hS6 ?_
      · go_simp
      try simp only [List.setIfInBounds_toArray, List.set_cons_zero, List.set_cons_succ]
      refine wpAnyH.takeT (i := 9) (t := 51) (v := .slice A6 D.length c6) rfl rfl (by decide +kernel) (by decide +kernel) (by decide +kernel) (fun _ _ _ h => h.elim) (.inl ⟨rfl, fun w' hS => ?_⟩) hS6 ?_
      · go_simp
      try simp only [List.setIfInBounds_toArray, List.set_cons_zero, List.set_cons_succ]
      refine wpAnyH.takeT (i := 10) (t := 52) (v := .int .i64 0) rfl rfl (by decide +kernel) (by decide +kernel) (by decide +kernel) (fun _ _ _ h => h.elim) (.inl ⟨rfl, fun w' hS => ?_⟩) hS6 ?_
      · go_simp
      try simp only [List.setIfInBounds_toArray, List.set_cons_zero, List.set_cons_succ]
      refine wpAnyH.takeT (i := 11) (t := 7) (v := .slice A6 D.length c6) rfl rfl (by decide +kernel) (by decide +kernel) (by decide +kernel) (fun _ _ _ h => h.elim) (.inl ⟨rfl, fun w' hS => ?_⟩) hS6 ?_
      · go_simp
      try simp only [List.setIfInBounds_toArray, List.set_cons_zero, List.set_cons_succ]
      refine wpAnyH.takeT (i := 12) (t := 8) (v := .int .i64 0) rfl rfl (by decide +kernel) (by decide +kernel) (by decide +kernel) (fun _ _ _ h => h.elim) (.inl ⟨rfl, fun w' hS => ?_⟩) hS6 ?_
      · go_simp
      try simp only [List.setIfInBounds_toArray, List.set_cons_zero, List.set_cons_succ]
      refine wpAnyH_done (by decide +kernel) ?_ _
      refine NoPanic.normal ?_
      have hP4b := hP4.below hS6
      replace hw := bl_tr hw hS6
      have hP6r := hP6.row
      clear hL hA hP5 hw5 hS5 hS6 hw6 nl m1 m2 tk h1t h1d hkl hkt hkd hP4 hP6
      go_wp2_with fail
      refine (num_any _ _).mono ?_
      rintro e w7 ⟨rfl, rfl⟩
      go_wp2_with fail
      go_loopw [9] (fun u wr => ∃ i : Nat, i ≤ D.length ∧ u = .int .i64 i ∧ Below w6.heap.size w6 wr) (fun u _ => D.length - (intOf u).toNat)
      case atStart => exact ⟨0, Nat.zero_le _, rfl, Below.refl _ _⟩
      case round =>
        obtain ⟨i, hi, rfl, hb⟩ := hrel
        by_cases hlt : i < D.length
        · obtain ⟨b, o, rfl, _, ca⟩ := (hP4b.below hb) i hlt
          obtain ⟨b', o', rfl, _, cb⟩ := (hP6r.below hb) i hlt
          generalize D[i] = x at ca cb
          have a0 : wr.cell? ⟨b, o + i * 3, none⟩ = some (.string x.key) := ca 0 _ rfl
          have a1 : wr.cell? ⟨b, o + i * 3 + 1, none⟩ = some (.string x.val) := ca 1 _ rfl
          have a2 : wr.cell? ⟨b, o + i * 3 + 2, none⟩ = some (.int .i64 x.off) := ca 2 _ rfl
          have b0 : wr.cell? ⟨b', o' + i * 3, none⟩ = some (.string x.key) := cb 0 _ rfl
          have b1 : wr.cell? ⟨b', o' + i * 3 + 1, none⟩ = some (.string x.val) := cb 1 _ rfl
          have b2 : wr.cell? ⟨b', o' + i * 3 + 2, none⟩ = some (.int .i64 x.off) := cb 2 _ rfl
          have hltI : (i : Int) < (D.length : Int) := by omega
          clear ca cb hP4b hP6r
          go_wp2_with fail
          go_quiet (fail)
          go_wp2_with fail
          go_roundw
          case rel => exact ⟨i + 1, by omega, by go_num, bl_drewN hb _⟩
          case measure => simp [intOf]; omega
        · obtain rfl : i = D.length := by omega
          go_wp2_with fail
          go_ret
          exact ⟨rfl, bl_tr hw hb⟩
  · refine (latest_no A1 c1 rs w1 h1 hrl hm).mono ?_
    rintro e w2 ⟨rfl, hw2⟩
    have hn : rs.length ≠ 0 := fun e => hm (by rw [List.eq_nil_of_length_eq_zero e]; exact ⟨fun j h => by simp at h, fun x h => by simp at h⟩)
    have hn0 : ((rs.length : Int) == 0) = false := by simpa using hn
    go_wp2_with fail
    refine (lmay_any A c rs w2 (hr.below hw2) (by omega)).mono ?_
    rintro e w3 ⟨b, rfl, hb, hw3⟩
    obtain rfl : b = false := by cases b with | false => rfl | true => exact absurd (hb.1 rfl) hm
    clear hb
    go_wp2_with fail
    refine (knows_any _).mono ?_
    rintro e w4 ⟨rfl, hw4⟩
    go_wp2_with fail
    go_ret
    exact ⟨rfl, bl_tr hw1 (bl_tr hw2 (bl_tr hw3 hw4))⟩
end Go.Proofs.Ytjokpjfmnjefdaa
