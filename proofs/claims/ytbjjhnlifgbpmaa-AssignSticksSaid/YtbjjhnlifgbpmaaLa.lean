/- AssignCovers (5). -/
import Derived.Test.YtbjjhnlifgbpmaaCv
import Derived.Test.YtbjjhnlifgbpmaaCp
import Derived.Test.YtbjjhnlifgbpmaaKw
import Derived.Test.YtbjjhnlifgbpmaaSn
namespace Go.Proofs.Ytbjjhnlifgbpmaa
open Go.RowKit Go.Shelf
attribute [local go_sem] Oper.semAt_some

theorem sortS_perm (l : List ByteArray) : (sortS l).Perm l := by
  have h : ((sortS l).map kb).Perm (l.map kb) := by rw [sortS_kb]; exact List.mergeSort_perm _ _
  have h2 := h.map (fun s : List UInt8 => (⟨s.toArray⟩ : ByteArray))
  simp only [List.map_map] at h2
  have e : ∀ m : List ByteArray, m.map ((fun s : List UInt8 => (⟨s.toArray⟩ : ByteArray)) ∘ kb) = m := fun m => by
    conv => rhs; rw [← List.map_id m]
    exact List.map_congr_left fun s _ => by simp [kb]
  rwa [e, e] at h2
theorem ok_parts {S : List ByteArray} {parts : Int} (h : okN S parts = true) : ∃ p : Nat, parts = (p : Int) ∧ p ≤ 32 ∧ S.length ≤ 1000 := by
  simp only [okN, Bool.and_eq_true, decide_eq_true_eq] at h
  exact ⟨parts.toNat, by omega, by omega, by omega⟩
theorem nl_len {os rs : List Ou} (h : os.map nl = rs.map nl) : os.length = rs.length := by simpa using congrArg List.length h
theorem nl_all {os rs : List Ou} (h : os.map nl = rs.map nl) {p : ByteArray → List Int → Prop} (hp : ∀ o ∈ rs, p o.m o.r.l) : ∀ o ∈ os, p o.m o.r.l := fun o ho => by
  have h1 : nl o ∈ rs.map nl := by rw [← h]; exact List.mem_map_of_mem ho
  obtain ⟨x, hx, e⟩ := List.mem_map.1 h1
  have := hp x hx
  simp only [nl, Prod.mk.injEq] at e
  rwa [e.1, e.2] at this
/-- append([]string{}, members...). -/
theorem wpList_copyS {ops : Array Oper} {rest : List Oper} {o : Oper} {a : Act} {Q : Exit → Act → World → Prop} (hgd : o.guard = none) (s x : Operand) (ho : o.op = .call { callee := .builtin .append, args := #[s, x], argTypes := #[22, 22] })
    (W : World) (hs : a.eval s = .slice (some ⟨W.heap.size, 0, none⟩) 0 0) (A1 : Option Addr) (c1 : Nat) (ml : List ByteArray) (hx : a.eval x = .slice A1 ml.length c1) (hm : LAt W A1 1 encS ml) (hml : ml.length * 16 ≤ 140737488351232)
    (h : ∀ A2 c2 w2, LAt w2 A2 1 encS ml → Below W.heap.size W w2 → wpList Try.prog ops Q rest (a.put o.dst (.slice A2 ml.length c2)) w2) : wpList Try.prog ops Q (o :: rest) a (W.alloc (.cells #[] 9)) := by
  obtain ⟨k0, hk0, hkz, hk1, hk2⟩ := info_parts infoS
  refine wpList_append_srcT hgd s x 22 ho W.heap.size 9 k0 _ 1 16 Try.underlying22 hk0 hkz hk1 hk2 rfl (by omega) (.slice (some ⟨W.heap.size, 0, none⟩) 0 0) 0 [] hs (ownsRow_empty W 9 1 W.heap.size (Nat.le_refl _)) A1 ml.length c1 (ml.flatMap encS) hx ((hm.below (bl_alloc (Below.refl _ _) _)).src encS_len (by omega)) (flat_one encS_one ml) (by simp only [maxLen]; omega) (by omega) (by simp) ?_
  intro A2 c2 w2 hown2 hg2
  rw [Nat.zero_add] at hown2 ⊢
  rw [List.nil_append] at hown2
  exact h A2 c2 w2 (LAt.of_own encS_len hown2 rfl) (bl_gr (bl_alloc (Below.refl _ _) _) hg2 (Nat.le_refl _))

set_option maxRecDepth 100000 in
set_option maxHeartbeats 8000000 in
theorem acovers_any (A0 A1 : Option Addr) (c0 c1 : Nat) (old : List Ou) (ml : List ByteArray) (parts : Int) (w : World) (ho : ShAt w A0 old) (hol : old.length ≤ 3518437208783) (hok : ∀ o ∈ old, o.m.size ≤ 140737488351232 ∧ o.r.l.length * 8 ≤ 140737488351232)
    (hm : LAt w A1 1 encS ml) (hml : ml.length * 16 ≤ 140737488351232) (hms : ∀ s ∈ ml, s.size ≤ 140737488351232) :
    Calls Try.prog 5 #[.slice A0 old.length c0, .slice A1 ml.length c1, .int .i64 parts] w fun e w' => e = .returned (.bool true) ∧ Below w.heap.size w w' := by
  obtain ⟨S, hS⟩ : ∃ S, sortS ml = S := ⟨_, rfl⟩
  have hSl : S.length = ml.length := by rw [← hS]; exact sortS_len ml
  have hks : ∀ s ∈ S, s.size ≤ 140737488351232 := fun s hs => hms s ((hS ▸ sortS_perm ml).mem_iff.1 hs)
  have hokl : ∀ i (h : i < old.length), old[i].r.l.length * 8 ≤ 140737488351232 := fun i h => (hok _ (List.getElem_mem h)).2
  replace hm := Lib.hid hm
  replace ho := Lib.hid ho
  replace hokl := Lib.hid hokl
  replace hok := Lib.hid hok
  replace hms := Lib.hid hms
  replace hks := Lib.hid hks
  replace hS := Lib.hid hS
  cases hN : okN S parts with
  | false =>
    replace hN := Lib.hid hN
    replace hSl := Lib.hid hSl
    go_enter Try.func5, Try.ntmps5
    go_wp2_with (refine wpList_copyS rfl _ _ rfl w rfl A1 c1 ml rfl hm.out hml ?_; intro A2 c2 w2 hm2 hb2)
    refine (range_bad A2 c2 ml parts w2 hm2 hml S hS.out hks.out hN.out).mono ?_
    rintro e w3 ⟨rfl, hb3⟩
    replace hb3 := bl_tr hb2 hb3
    clear hm2 hb2
    go_wp2_with fail
    refine (own_any A0 c0 old w3 (ho.out.below hb3) hol hokl.out).mono ?_
    rintro e w4 ⟨A4, c4, os4, rfl, hs4, hn4, hb4⟩
    replace hb4 := bl_tr hb3 hb4
    have hm4 := hm.out.below hb4
    replace hs4 := Lib.hid hs4
    clear hb3
    go_wp2_with (refine wpList_copyS rfl _ _ rfl w4 rfl A1 c1 ml rfl hm4 hml ?_; intro A5 c5 w5 hm5 hb5)
    refine (sticky_bad _ A5 c5 ml parts w5 hm5 hml S hS.out hks.out hN.out).mono ?_
    rintro e w6 ⟨rfl, hb6⟩
    replace hb6 := bl_tr (bl_tr hb4 hb5) hb6
    clear hb4 hb5 hm5 hm4
    go_wp2_with (first | (go_at_call 11; refine (num_any _ _).mono ?_; rintro e wX ⟨rfl, rfl⟩) | (go_at_call 12; refine (knows_any _).mono ?_; rintro e w7 ⟨rfl, hb7⟩))
    go_ret
    exact ⟨rfl, bl_tr hb6 hb7⟩
  | true =>
    obtain ⟨pn, rfl, hp32, hS1000⟩ := ok_parts hN
    replace hN := Lib.hid hN
    by_cases hnil : ml = []
    · subst hnil
      have hS0 : S = [] := List.eq_nil_of_length_eq_zero (by simpa using hSl)
      subst hS0
      have hrg := fun A c w hm => range_any A c [] pn w hm hml [] hS.out hks.out hN.out
      simp only [List.length_nil] at hrg
      go_enter Try.func5, Try.ntmps5
      go_wp2_with (refine wpList_copyS rfl _ _ rfl w rfl A1 c1 [] rfl hm.out hml ?_; intro A2 c2 w2 hm2 hb2)
      refine (hrg A2 c2 w2 hm2).mono ?_
      rintro e w3 ⟨A3, c3, os3, rfl, -, -, -, hb3⟩
      replace hb3 := bl_tr hb2 hb3
      clear hm2 hb2
      go_wp2_with fail
      refine (own_any A0 c0 old w3 (ho.out.below hb3) hol hokl.out).mono ?_
      rintro e w4 ⟨A4, c4, os4, rfl, hs4, hn4, hb4⟩
      replace hb4 := bl_tr hb3 hb4
      have hm4 := hm.out.below hb4
      replace hs4 := Lib.hid hs4
      clear hb3
      go_wp2_with (refine wpList_copyS rfl _ _ rfl w4 rfl A1 c1 [] rfl hm4 hml ?_; intro A5 c5 w5 hm5 hb5)
      refine (sticky_nil _ A5 c5 [] pn w5 hm5 hml hS.out hN.out).mono ?_
      rintro e w6 ⟨rfl, hb6⟩
      replace hb6 := bl_tr (bl_tr hb4 hb5) hb6
      clear hb4 hb5 hm5 hm4
      go_wp2_with (first | (go_at_call 11; refine (num_any _ _).mono ?_; rintro e wX ⟨rfl, rfl⟩) | (go_at_call 12; refine (knows_any _).mono ?_; rintro e w7 ⟨rfl, hb7⟩))
      go_ret
      exact ⟨rfl, bl_tr hb6 hb7⟩
    · have hml0 : 0 < ml.length := List.length_pos_iff.2 hnil
      have hSne : S ≠ [] := by rintro rfl; simp at hSl; omega
      have hrg := fun A c w hm => range_any A c ml pn w hm hml S hS.out hks.out hN.out
      rw [hSl] at hrg hS1000
      have hz1 : ((ml.length : Int) == 0) = false := by rw [beq_eq_false_iff_ne]; omega
      replace hrg := Lib.hid hrg
      replace hSl := Lib.hid hSl
      go_enter Try.func5, Try.ntmps5
      go_wp2_with (refine wpList_copyS rfl _ _ rfl w rfl A1 c1 ml rfl hm.out hml ?_; intro A2 c2 w2 hm2 hb2)
      refine (hrg.out A2 c2 w2 hm2).mono ?_
      rintro e w3 ⟨A3, c3, os3, rfl, hs3, hm3, hj3, hb3⟩
      have hl3 : os3.length = ml.length := by rw [← hSl.out, ← hm3]; simp
      replace hm3 := Lib.hid hm3
      replace hj3 := Lib.hid hj3
      replace hb3 := bl_tr hb2 hb3
      clear hm2 hb2
      go_wp2_with fail
      refine (own_any A0 c0 old w3 (ho.out.below hb3) hol hokl.out).mono ?_
      rintro e w4 ⟨A4, c4, os4, rfl, hs4, hn4, hb4⟩
      replace hs3 := hs3.below hb4
      replace hb4 := bl_tr hb3 hb4
      have hm4 := hm.out.below hb4
      replace hs4 := Lib.hid hs4
      replace hn4 := Lib.hid hn4
      replace hs3 := Lib.hid hs3
      clear hb3
      go_wp2_with (refine wpList_copyS rfl _ _ rfl w4 rfl A1 c1 ml rfl hm4 hml ?_; intro A5 c5 w5 hm5 hb5)
      have hst := sticky_ok A4 A5 c4 c5 os4 ml pn w5 (hs4.out.below hb5).1 (hs4.out.below hb5).2 hm5 hml (by rw [nl_len hn4.out]; exact hol) (nl_all hn4.out (p := fun m l => m.size ≤ 140737488351232 ∧ l.length * 8 ≤ 140737488351232) hok.out) S hS.out hks.out hN.out hSne
      rw [nl_len hn4.out, hSl.out] at hst
      generalize fpsOf (fmL os4 (bk old.length)) S = fs at hst
      refine hst.mono ?_
      rintro e w6 ⟨O, os6, rfl, hM6, hm6, hj6, hb6⟩
      clear hst
      have hl6 : os6.length = ml.length := by rw [← hSl.out, ← hm6]; simp
      have hs6 := hM6.sh
      replace hs3 := hs3.out.below (bl_tr hb5 hb6)
      replace hb6 := bl_tr (bl_tr hb4 hb5) hb6
      clear hb4 hb5 hm5 hm4 hM6 hm6
      have hcv3 := cov_range (parts := pn) hml0 hl3 hj3.out
      have hcv6 := cov_own (parts := pn) hml0 fs hl6 hj6
      have hc3 := fun w hs => covers_any A3 c3 os3 pn (pn / ml.length) w hs (by omega) hp32 (Nat.div_le_self _ _) hcv3.1 hcv3.2
      have hc6 := fun w hs => covers_any (some ⟨O, 0, none⟩) ml.length os6 pn (pn / ml.length) w hs (by omega) hp32 (Nat.div_le_self _ _) hcv6.1 hcv6.2
      rw [hl3] at hc3
      rw [hl6] at hc6
      replace hc3 := Lib.hid (hc3 w6 hs3)
      replace hc6 := Lib.hid (fun w' hb => hc6 w' (hs6.below hb))
      clear hs3 hs6 hcv3 hcv6 hj6
      go_wp2_with (first | (go_at_call 11; refine (num_any _ _).mono ?_; rintro e wX ⟨rfl, rfl⟩) | (go_at_call 12; refine (knows_any _).mono ?_; rintro e w9 ⟨rfl, hb9⟩) | (go_at_call 16; have hx := hb7; refine (hc6.out w7 hb7).mono ?_; rintro e w8 ⟨rfl, hb8⟩) | (go_at_call 16; refine hc3.out.mono ?_; rintro e w7 ⟨rfl, hb7⟩))
      go_ret
      exact ⟨rfl, bl_tr (bl_tr (bl_tr hb6 hb7) hb8) hb9⟩
end Go.Proofs.Ytbjjhnlifgbpmaa
