/- AssignSticks (4). -/
import Derived.Test.YtbjjhnlifgbpmaaRk
import Derived.Test.YtbjjhnlifgbpmaaRl
import Derived.Test.YtbjjhnlifgbpmaaLc
namespace Go.Proofs.Ytbjjhnlifgbpmaa
open Go.RowKit Go.Shelf
attribute [local go_sem] Oper.semAt_some

/-- Shares that are the caller's own, or none. -/
def OwnSh (w : World) (B : Nat) (A : Option Addr) (outs : List Ou) : Prop := outs = [] ∨ ∃ O, A = some ⟨O, 0, none⟩ ∧ Mem w B [(O, outs.flatMap ouL)] (outs.map (·.r))
/-- What comes of both Stickies. -/
theorem both_sticky (ml : List ByteArray) (parts : Int) (hml : ml.length * 16 ≤ 140737488351232) (hms : ∀ s ∈ ml, s.size ≤ 140737488351232) (old : List Ou) (hol : old.length ≤ 3518437208783) (hok : ∀ o ∈ old, o.m.size ≤ 140737488351232 ∧ o.r.l.length * 8 ≤ 140737488351232) :
    ∃ (X : List (ByteArray × List Int)) (k : Int),
      (∀ A0 c0 os Am cm (w : World), ShAt w A0 os → os.map nl = old.map nl → LAt w Am 1 encS ml → Calls Try.prog 14 #[.slice A0 old.length c0, .slice Am ml.length cm, .int .i64 parts] w fun e w' => ∃ A' c' outs, e = .returned (.tuple #[.slice A' X.length c', .int .i64 k]) ∧ ShAt w' A' outs ∧ OwnSh w' w.heap.size A' outs ∧ outs.map nl = X ∧ Below w.heap.size w w') ∧
      (∀ A0 c0 Am cm (w : World), ShAt w A0 old → LAt w Am 1 encS ml → Calls Try.prog 15 #[.slice A0 old.length c0, .slice Am ml.length cm, .int .i64 parts] w fun e w' => ∃ A' c' outs, e = .returned (.tuple #[.slice A' X.length c', .int .i64 k]) ∧ ShAt w' A' outs ∧ outs.map nl = X ∧ Below w.heap.size w w') ∧
      X.length ≤ 1000 ∧ ∀ p ∈ X, p.2.length ≤ 33 := by
  obtain ⟨S, hS⟩ : ∃ S, sortS ml = S := ⟨_, rfl⟩
  have hks : ∀ s ∈ S, s.size ≤ 140737488351232 := fun s hs => hms s ((hS ▸ sortS_perm ml).mem_iff.1 hs)
  have hSl : S.length = ml.length := by rw [← hS]; exact sortS_len ml
  cases hN : okN S parts with
  | false =>
    refine ⟨[], 1, fun A0 c0 os Am cm w hs hn hm => ?_, fun A0 c0 Am cm w hs hm => ?_, by simp, by simp⟩
    · refine (sticky_bad _ Am cm ml parts w hm hml S hS hks hN).mono ?_
      rintro e w' ⟨rfl, hb⟩
      exact ⟨none, 0, [], rfl, ⟨LAt.nil, by simp⟩, .inl rfl, rfl, hb⟩
    · refine (rsticky_bad _ Am cm ml parts w hm hml S hS hks hN).mono ?_
      rintro e w' ⟨rfl, hb⟩
      exact ⟨none, 0, [], rfl, ⟨LAt.nil, by simp⟩, rfl, hb⟩
  | true =>
    obtain ⟨pn, rfl, hp32, hS1000⟩ := ok_parts hN
    by_cases hnil : S = []
    · subst hnil
      have hl0 : ml.length = 0 := by simpa using hSl.symm
      refine ⟨[], 0, fun A0 c0 os Am cm w hs hn hm => ?_, fun A0 c0 Am cm w hs hm => ?_, by simp, by simp⟩
      · refine (sticky_nil _ Am cm ml pn w hm hml hS hN).mono ?_
        rintro e w' ⟨rfl, hb⟩
        exact ⟨none, 0, [], rfl, ⟨LAt.nil, by simp⟩, .inl rfl, rfl, hb⟩
      · refine (rsticky_nil _ Am cm ml pn w hm hl0 hS hN).mono ?_
        rintro e w' ⟨rfl, hb⟩
        exact ⟨none, 0, [], rfl, ⟨LAt.nil, by simp⟩, rfl, hb⟩
    · refine ⟨(List.range S.length).map fun j => (S.getD j default, ofL (own4 pn S.length (fpsOf (fmL old (bk old.length)) S)) j), 0, fun A0 c0 os Am cm w hs hn hm => ?_, fun A0 c0 Am cm w hs hm => ?_, by simpa using hS1000, ?_⟩
      · have h := sticky_ok A0 Am c0 cm os ml pn w hs.1 hs.2 hm hml (by rw [nl_len hn]; exact hol) (nl_all hn (p := fun m l => m.size ≤ 140737488351232 ∧ l.length * 8 ≤ 140737488351232) hok) S hS hks hN hnil
        rw [fps_nl hn S] at h
        rw [nl_len hn] at h
        refine h.mono ?_
        rintro e w' ⟨O, outs, rfl, hM, h2, h3, hb⟩
        exact ⟨some ⟨O, 0, none⟩, S.length, outs, by simp, hM.sh, .inr ⟨O, rfl, hM⟩, nl_eq h2 h3, hb⟩
      · refine (rsticky_ok A0 Am c0 cm old ml pn w hs hol (fun i h => (hok _ (List.getElem_mem h)).2) hm hml S hS hks hN hnil).mono ?_
        rintro e w' ⟨A', c', outs, rfl, h1, h2, h3, hb⟩
        exact ⟨A', c', outs, by simp, h1, nl_eq h2 h3, hb⟩
      · intro p hp
        obtain ⟨j, _, rfl⟩ := List.mem_map.1 hp
        rw [ofL_len]
        exact Nat.le_trans (List.countP_le_length ..) (by rw [own4_len]; omega)

/-- The caller's own shares, whatever is written into their lists. -/
structure JAt (w : World) (B O : Nat) (outs : List Ou) (rs : List Rw3) : Prop where
  mem : Mem w B [(O, outs.flatMap ouL)] rs
  len : rs.length = outs.length
  v : ∀ i (h : i < outs.length) (h' : i < rs.length), rs[i].v = outs[i].r.v
theorem JAt.put {w : World} {B O : Nat} {outs : List Ou} {rs : List Rw3} (h : JAt w B O outs rs) {i : Nat} (hi : i < outs.length) {g k c : Nat} {l : List Int} (hr : rs[i]'(by rw [h.len]; exact hi) = ⟨some ⟨g, 0, none⟩, c, l⟩) :
    JAt (w.setCell ⟨g, k, none⟩ (.int .i64 (-1))) B O outs (rs.set i ⟨some ⟨g, 0, none⟩, c, l.set k (-1)⟩) := by
  have hi' : i < rs.length := by rw [h.len]; exact hi
  have hg : rs[i]? = some ⟨some ⟨g, 0, none⟩, c, l⟩ := by rw [List.getElem?_eq_getElem hi', hr]
  have hst := (h.mem.row _ _ hg).stored k (.int .i64 (-1))
  have hset : (l.flatMap encI).set k (.int .i64 (-1)) = (l.set k (-1)).flatMap encI := by rw [encI_map, encI_map, List.map_set]
  rw [hset] at hst
  refine ⟨h.mem.upd hg hst.2 (by simpa [Rw3.v] using hst.1) (.inl rfl), by simpa using h.len, fun j h1 h2 => ?_⟩
  have hj : j < rs.length := by simpa using h2
  by_cases e : i = j
  · subst e
    rw [List.getElem_set_self, ← h.v i h1 hi', hr]
    simp [Rw3.v]
  · rw [List.getElem_set_ne e]; exact h.v j h1 hj

set_option maxRecDepth 100000 in
set_option maxHeartbeats 8000000 in
theorem asticks_any (A0 A1 : Option Addr) (c0 c1 : Nat) (old : List Ou) (ml : List ByteArray) (parts : Int) (w : World) (ho : ShAt w A0 old) (hol : old.length ≤ 3518437208783) (hok : ∀ o ∈ old, o.m.size ≤ 140737488351232 ∧ o.r.l.length * 8 ≤ 140737488351232)
    (hm : LAt w A1 1 encS ml) (hml : ml.length * 16 ≤ 140737488351232) (hms : ∀ s ∈ ml, s.size ≤ 140737488351232) :
    Calls Try.prog 4 #[.slice A0 old.length c0, .slice A1 ml.length c1, .int .i64 parts] w fun e w' => e = .returned (.bool true) ∧ Below w.heap.size w w' := by
  obtain ⟨X, kk, hP, hQ, hXl, hXs⟩ := both_sticky ml parts hml hms old hol hok
  have hokl : ∀ i (h : i < old.length), old[i].r.l.length * 8 ≤ 140737488351232 := fun i h => (hok _ (List.getElem_mem h)).2
  replace hm := Lib.hid hm
  replace ho := Lib.hid ho
  replace hP := Lib.hid hP
  replace hQ := Lib.hid hQ
  replace hXs := Lib.hid hXs
  replace hms := Lib.hid hms
  replace hok := Lib.hid hok
  replace hokl := Lib.hid hokl
  go_enter Try.func4, Try.ntmps4
  go_wp2_with fail
  refine (own_any A0 c0 old w ho.out hol hokl.out).mono ?_
  rintro e w2 ⟨A2, c2, os2, rfl, hs2, hn2, hb2⟩
  have hm2 := hm.out.below hb2
  replace hn2 := Lib.hid hn2
  go_wp2_with (refine wpList_copyS rfl _ _ rfl w2 rfl A1 c1 ml rfl hm2 hml ?_; intro A3 c3 w3 hm3 hb3)
  refine (hP.out A2 c2 os2 A3 c3 w3 (hs2.below hb3) hn2.out hm3).mono ?_
  rintro e w4 ⟨A4, c4, outs, rfl, hs4, hown4, hn4, hb4⟩
  have hw34 : w2.heap.size ≤ w3.heap.size := hb3.size
  have hx3 := hs2.below hb3
  have hb24 := hb3.trans (hb4.mono hw34)
  have hbw4 := bl_tr hb2 hb24
  replace hn4 := Lib.hid hn4
  clear hm3 hm2 hs2
  go_wp2_with fail
  refine (hQ.out A0 c0 A1 c1 w4 (ho.out.below hbw4) (hm.out.below hbw4)).mono ?_
  rintro e w5 ⟨A5, c5, os5, rfl, hs5, hn5, hb5⟩
  have hs45 := hs4.below hb5
  have hown5 : OwnSh w5 w3.heap.size A4 outs := by
    rcases hown4 with h | ⟨O, e, h⟩
    · exact .inl h
    · exact .inr ⟨O, e, h.below hb5⟩
  have hbw5 := bl_tr hbw4 hb5
  replace hn5 := Lib.hid hn5
  have hb35 := bl_tr hb4 hb5
  have hbw3 := bl_tr hb2 hb3
  clear hown4 hs4
  have hlo : outs.length = X.length := by rw [← hn4.out]; simp
  have hl5 : os5.length = X.length := by rw [← hn5.out]; simp
  have hl2 : os2.length = old.length := nl_len hn2.out
  have hsm := same_any A4 A5 c4 c5 outs os5 w5 hs45 hs5 (by omega) (by omega) (fun i hi => Nat.le_trans (nl_bound hn4.out hXs.out i hi) (by omega)) (fun i hi => Nat.le_trans (nl_bound hn5.out hXs.out i hi) (by omega))
  rw [decide_eq_true (hn4.out.trans hn5.out.symm), hlo, hl5] at hsm
  have hsx : ∀ W, Below w3.heap.size w3 W → Calls Try.prog 10 #[.slice A2 old.length c2, .slice A0 old.length c0] W fun e w' => e = .returned (.bool true) ∧ Below W.heap.size W w' := fun W hb => by
    have h := same_any A2 A0 c2 c0 os2 old W (hx3.below hb) ((ho.out.below hbw3).below hb) (by omega) (by omega) (fun i hi => by have := nl_all hn2.out (p := fun _ l => l.length * 8 ≤ 140737488351232) (fun o ho => (hok.out o ho).2) _ (List.getElem_mem hi); omega) (fun i hi => by have := hokl.out i hi; omega)
    rw [decide_eq_true hn2.out, hl2] at h
    exact h
  have hkk : (kk == kk) = true := by simp
  replace hsm := Lib.hid hsm
  replace hsx := Lib.hid hsx
  go_wp2_with (first | (go_at_call 11; refine (num_any _ _).mono ?_; rintro e wX ⟨rfl, rfl⟩) | (go_at_call 10; have hq := hb6; refine (hsx.out w6 (bl_tr hb35 hb6)).mono ?_; rintro e w7 ⟨rfl, hb7⟩) | (go_at_call 10; refine hsm.out.mono ?_; rintro e w6 ⟨rfl, hb6⟩))
  have hb57 := bl_tr hb6 hb7
  have hb37 := bl_tr hb35 hb57
  have hJ : outs = [] ∨ ∃ O rs, A4 = some ⟨O, 0, none⟩ ∧ JAt w7 w3.heap.size O outs rs := by
    rcases hown5 with h | ⟨O, e, h⟩
    · exact .inl h
    · exact .inr ⟨O, outs.map (·.r), e, h.below hb57, by simp, fun i h1 h2 => by simp⟩
  have ho1000 : outs.length ≤ 1000 := by rw [hlo]; exact hXl
  rw [← hlo]
  replace hlo := Lib.hid hlo
  clear hsm hown5 hs45 hs5 hb57 hb6 hb7 hb35 hb5 hb4 hb24 hbw4 hbw5
  go_loopw [13] (fun u wr => ∃ i : Nat, i ≤ outs.length ∧ u = .int .i64 i ∧ (outs = [] ∨ ∃ O rs, A4 = some ⟨O, 0, none⟩ ∧ JAt wr w3.heap.size O outs rs) ∧ Below w3.heap.size w3 wr) (fun u _ => outs.length - (intOf u).toNat)
  case atStart => exact ⟨0, Nat.zero_le _, rfl, hJ, hb37⟩
  case round =>
    clear hJ hb37
    obtain ⟨i, hi, rfl, hJ, hbr⟩ := hrel
    by_cases hlt : i < outs.length
    · obtain ⟨O, rs, rfl, hJ2⟩ := hJ.resolve_left (by rintro rfl; simp at hlt)
      clear hJ
      have hi0 : (0 : Int) ≤ (i : Int) := by omega
      have hiI : (i : Int) < (outs.length : Int) := by omega
      have hl33 := nl_bound hn4.out hXs.out i hlt
      have hlo' := hlo.out
      replace hlo' := Lib.hid hlo'
      go_wp2_with fail
      go_loopw [14] (fun u wi => ∃ (k : Nat) (rs : List Rw3), k ≤ outs[i].r.l.length ∧ u = .int .i64 k ∧ JAt wi w3.heap.size O outs rs ∧ Below w3.heap.size w3 wi) (fun u _ => outs[i].r.l.length - (intOf u).toNat)
      case atStart => exact ⟨0, rs, Nat.zero_le _, rfl, hJ2, hbr⟩
      case round =>
        clear hJ2 hbr rs
        obtain ⟨k, rs, hk, rfl, hJ, hbr⟩ := hrel
        have hir : i < rs.length := by rw [hJ.len]; exact hlt
        have qO := (hJ.mem.blk 0 _ _ rfl).get ((flat_get ouL_len outs i hlt 1 (by omega)).trans rfl)
        have hv := hJ.v i hlt hir
        have hput := fun g c l k hr => hJ.put (i := i) hlt (g := g) (c := c) (l := l) (k := k) hr
        have hrow := hJ.mem.row _ _ (List.getElem?_eq_getElem hir)
        have hk0 : (0 : Int) ≤ (k : Int) := by omega
        rw [← hv] at qO
        have hlen : rs[i].l.length = outs[i].r.l.length := by
          have := hv
          simp only [Rw3.v, Value.slice.injEq] at this
          exact this.2.1
        rw [← hlen] at hk ⊢
        have hl33' : rs[i].l.length ≤ 33 := by rw [hlen]; exact hl33
        generalize rs[i] = r at *
        obtain ⟨A, c, l⟩ := r
        simp only [Rw3.v] at qO hrow
        simp only at hk hl33' ⊢
        replace hlen := Lib.hid hlen
        replace hv := Lib.hid hv
        by_cases hkl : k < l.length
        · have hkI : (k : Int) < (l.length : Int) := by omega
          obtain ⟨g, hg⟩ : ∃ g, A = some ⟨g, 0, none⟩ := by
            rcases hrow.2 with ⟨e, h0⟩ | ⟨g, cap, cur, e, _⟩
            · omega
            · simp only [Value.slice.injEq] at e; exact ⟨g, e.1⟩
          subst hg
          have qg : wr.cell? ⟨g, k, none⟩ = some (.int .i64 l[k]) := by rw [hrow.cellAt k (by omega), encI_at, List.getElem?_eq_getElem hkl]; rfl
          have ug := hrow.frozenAt k
          have hge := ownsRow_base hrow (g := g) rfl
          have hp2 := hput g c l k rfl
          generalize l[k] = x at qg
          replace hp2 := Lib.hid hp2
          clear hput
          go_wp2_with fail
          refine ⟨⟨k + 1, _, ?_, by go_num, hp2.out, bl_set'' hbr hge _⟩, by simp [intOf]; omega⟩
          have := hlen.out
          omega
        · obtain rfl : k = l.length := by omega
          clear hput
          go_wp2_with fail
          exact ⟨⟨i + 1, by omega, by go_num, .inr ⟨O, rs, rfl, hJ⟩, hbr⟩, by simp [intOf]; omega⟩
    · obtain rfl : outs.length = i := by omega
      have hx := hsx.out _ hbr
      replace hx := Lib.hid hx
      go_wp2_with (first | (go_at_call 10; refine hx.out.mono ?_; rintro e w8 ⟨rfl, hb8⟩) | (go_at_call 12; refine (knows_any _).mono ?_; rintro e w9 ⟨rfl, hb9⟩))
      go_ret
      exact ⟨rfl, bl_tr (bl_tr (bl_tr hbw3 hbr) hb8) hb9⟩
end Go.Proofs.Ytbjjhnlifgbpmaa
