/- Sticky's first closure (29): a member is told, and what it had of what is to be dealt. -/
import Derived.Test.YtbjjhnlifgbpmaaLo
import Derived.Test.YtbjjhnlifgbpmaaOy
namespace Go.Proofs.Ytbjjhnlifgbpmaa
open Go.RowKit Go.Shelf Go.Maps
attribute [local go_sem] Oper.semAt_some

theorem Mem.dropR {w : World} {B : Nat} {fx : List (Nat × List Value)} {rs : List Rw3} {r : Rw3} (h : Mem w B fx (rs ++ [r])) : Mem w B fx rs := by
  have up : ∀ (k : Nat) (s : Rw3), rs[k]? = some s → (rs ++ [r])[k]? = some s := fun k s hk => by rw [List.getElem?_append_left (List.getElem?_eq_some_iff.1 hk).1]; exact hk
  exact ⟨h.blk, h.ge, h.ne, fun k s hk => h.row k s (up k s hk), fun j k s t g hj hk => h.dis j k s t g (up j s hj) (up k t hk), fun j k s b vs hj hk => h.sep j k s b vs (up j s hj) hk, h.bs⟩
theorem bl_drw {B : Nat} {a w : World} (h : Below B a w) : Below B a w.drew := ⟨h.os, h.tape, h.output, h.size, h.block⟩
theorem rs_hadR {free dealt : Rw3} {hads : List Rw3} {outs : List Ou} {i : Nat} (hi : i < hads.length) (sr : Rw3) : (rsOf free dealt hads outs ++ [sr])[2 + i]? = some hads[i] := by
  rw [List.getElem?_append_left (by simp [rsOf]; omega)]; exact rs_had hi
theorem rs_set_hadR {free dealt : Rw3} {hads : List Rw3} {outs : List Ou} {i : Nat} (hi : i < hads.length) (r sr : Rw3) : (rsOf free dealt hads outs ++ [sr]).set (2 + i) r = rsOf free dealt (hads.set i r) outs ++ [sr] := by
  rw [List.set_append, if_pos (by simp [rsOf]; omega), rs_set_had hi]
theorem rs_lastR (free dealt : Rw3) (hads : List Rw3) (outs : List Ou) (sr : Rw3) : (rsOf free dealt hads outs ++ [sr])[(rsOf free dealt hads outs).length]? = some sr := by
  rw [List.getElem?_append_right (Nat.le_refl _)]; simp
/-- Sticky's memory, and the row that is gone through. -/
def StR (w : World) (B : Nat) (E : Env) (base rest : Nat) (fv : Value) (free dealt : Rw3) (hads : List Rw3) (outs : List Ou) (sr : Rw3) : Prop :=
  Mem w B (E.fx base rest fv dealt.v hads outs) (rsOf free dealt hads outs ++ [sr])

set_option maxRecDepth 100000 in
set_option maxHeartbeats 2000000 in
theorem step1_any (w : World) (B : Nat) (E : Env) (base rest : Nat) (f dl : List Int) (hl : List (List Int)) (ms : List ByteArray) (os : List (List Int)) (h : StP w B E base rest f dl hl ms os) (ls : List ByteArray) (nn : Nat) (fm : List (ByteArray × Rw3)) (hLo : LowS w B E ls nn fm) (hn : ls.length = E.n)
    (i : Nat) (hi : i < E.n) (hh : hl.getD i [] = []) (hD : dl.Pairwise (· < ·)) (hdl : dl.length ≤ 32) (hfl : (hadOf fm (ls.getD i default)).l.length * 8 ≤ 140737488351232) :
    Calls Try.prog 29 #[.int .i64 (i : Nat), ptr E.bl, ptr E.bo, ptr E.bm, ptr E.bd, ptr E.bh] w fun e w' => e = .returned (.tuple #[]) ∧
      StP w' B E base rest f (dl.filter fun x => !(hadOf fm (ls.getD i default)).l.contains x) (hl.set i (dl.filter fun x => (hadOf fm (ls.getD i default)).l.contains x)) (ms.set i (ls.getD i default)) os ∧ Below B w w' := by
  obtain ⟨free, dealt, hads, outs, ⟨hm, hhl, hol, hnl⟩, rfl, rfl, rfl, rfl, rfl⟩ := h
  have hih : i < hads.length := by omega
  have hio : i < outs.length := by omega
  have hil : i < ls.length := by omega
  have hi0 : (0 : Int) ≤ (i : Int) := by omega
  have qbo := (hm.blk 5 _ _ rfl).cell
  have qbl := hLo.bl.cell
  have qO : w.cell? ⟨E.O, i * 2, none⟩ = some (.string outs[i].m) := by
    have := (hm.blk 11 _ _ rfl).get (flat_get ouL_len outs i hio 0 (by omega))
    simpa using this
  have uO := (hm.blk 11 _ _ rfl).unf
  obtain ⟨g, o, hA, hlt, hc⟩ := hLo.names i hil
  have qN := hc 0 _ rfl
  simp only [Nat.mul_one, Nat.add_zero] at qN
  rw [getD_get _ _ hil] at hfl ⊢
  generalize hs : ls[i] = s at *
  replace hs := Lib.hid hs
  rw [hn, hA] at qbl
  go_enter Try.func29, Try.ntmps29
  go_wp2_with fail
  go_region
  have e1 := flat_set ouL_len (⟨s, outs[i].r⟩ : Ou) (.string s) outs i hio 0 (by omega) (by simp [ouL])
  have hm1 := (hm.set (k := 11) (b := E.O) rfl (i * 2 + 0) (.string s)).drew
  have hOge := hm.ge 11 _ _ rfl
  have hb1 : Below B w ((w.setCell ⟨E.O, i * 2, none⟩ (.string s)).drew) := bl_drw (bl_set'' (Below.refl _ _) hOge _)
  have hL1 := hLo.below hb1
  simp only [Env.fx, List.set_cons_zero, List.set_cons_succ] at hm1
  rw [e1, Nat.add_zero] at hm1
  have hos : (outs.set i ⟨s, outs[i].r⟩).map (·.r.l) = outs.map (·.r.l) := by
    rw [List.map_set]
    have := getD_self (outs.map fun o => o.r.l) i [] (by simpa using hio)
    rw [map_getD (fun o : Ou => o.r.l) outs i hio, getD_get _ _ hio] at this
    exact this
  have hms : (outs.set i ⟨s, outs[i].r⟩).map Ou.m = (outs.map Ou.m).set i s := by rw [List.map_set]
  have hrs : rsOf free dealt hads (outs.set i ⟨s, outs[i].r⟩) = rsOf free dealt hads outs := by
    unfold rsOf
    rw [List.map_set]
    have := getD_self (outs.map fun o => o.r) i noRow (by simpa using hio)
    rw [map_getD (fun o : Ou => o.r) outs i hio, getD_get _ _ hio] at this
    rw [this]
  generalize hO2 : outs.set i ⟨s, outs[i].r⟩ = outs2 at hm1 hos hms hrs
  rw [← hrs] at hm1
  have hol2 : outs2.length = E.n := by rw [← hO2]; simpa using hol
  clear hm qbo qbl qO uO hO2 hrs e1 hLo hlt hc
  generalize (w.setCell ⟨E.O, i * 2, none⟩ (.string s)).drew = W1 at *
  obtain ⟨fv, hfv⟩ : ∃ fv, free.v = fv := ⟨_, rfl⟩
  rw [hfv] at hm1
  have hm2 : Mem W1 B (E.fx base rest fv dealt.v hads outs2) (rsOf free dealt hads outs2) := hm1
  clear hm1
  have hk : s.size ≤ maxLen := hL1.kl s (hs.out ▸ List.getElem_mem _)
  replace hos := Lib.hid hos
  replace hms := Lib.hid hms
  obtain ⟨R, hR⟩ : ∃ R, hadOf fm s = R := ⟨_, rfl⟩
  have hlook : ∀ w', SM Try.prog 9 w' E.mb nn Rw3.v fm → (Instr.lookup 50 (.map (some E.mb)) (.string s) false).run Try.prog w' = .ok R.v w' := fun w' h => by rw [← hR]; exact h.look Try.underlying9 Try.underlying50 (z := noRow) zero37 hk
  go_wp2_with fail
  have hgB : g < B := by obtain ⟨b, o', e, hb⟩ := hL1.ltn (by rintro rfl; simp at hil); rw [hA] at e; cases e; exact hb
  refine wpAnyH.region rfl (fun w' => LowS w' B E ls nn fm) ?_
  have hM2 := hm2.drew
  have hL2 := hL1.below (bl_drw (Below.refl _ _))
  have hb2 := bl_drw hb1
  clear hm2 hL1 hb1
  generalize W1.drew = X at *
  have hqN : ∀ w', LowS w' B E ls nn fm → w'.cell? ⟨g, o + i, none⟩ = some (.string s) := fun w' hw => by
    obtain ⟨g', o', e, _, hc⟩ := hw.names i hil
    rw [hA] at e; cases e
    have := hc 0 _ rfl
    simp only [Nat.mul_one, Nat.add_zero] at this
    rw [this, hs.out]
  have hqb : ∀ w', LowS w' B E ls nn fm → ∀ j, w'.cell? ⟨E.bl, j, none⟩ = [.slice (some ⟨g, o, none⟩) E.n E.cl][j]? := fun w' hw => by have := hw.bl.cell; rw [hn, hA] at this; exact this
  try simp only [List.setIfInBounds_toArray, List.set_cons_zero, List.set_cons_succ]
  refine wpAnyH.takeT (i := 0) (t := 17) (v := (.map (some E.mb))) rfl rfl (by decide +kernel) (by decide +kernel) (by decide +kernel) (fun _ _ _ h => h.elim) (.inl ⟨rfl, fun w' hS => ?_⟩) hL2 ?_
  · have c0 := hS.bm.cell
    go_simp
  try simp only [List.setIfInBounds_toArray, List.set_cons_zero, List.set_cons_succ]
  refine wpAnyH.takeT (i := 1) (t := 18) (v := (.slice (some ⟨g, o, none⟩) E.n E.cl)) rfl rfl (by decide +kernel) (by decide +kernel) (by decide +kernel) (fun _ _ _ h => h.elim) (.inl ⟨rfl, fun w' hS => ?_⟩) hL2 ?_
  · have c0 := hqb _ hS
    go_simp
  try simp only [List.setIfInBounds_toArray, List.set_cons_zero, List.set_cons_succ]
  refine wpAnyH.takeT (i := 2) (t := 19) (v := (.int .i64 (i : Nat))) rfl rfl (by decide +kernel) (by decide +kernel) (by decide +kernel) (fun _ _ _ h => h.elim) (.inl ⟨rfl, fun w' hS => ?_⟩) hL2 ?_
  · go_simp
  try simp only [List.setIfInBounds_toArray, List.set_cons_zero, List.set_cons_succ]
  refine wpAnyH.takeT (i := 3) (t := 20) (v := (.pointer (some ⟨g, o + i, none⟩))) rfl rfl (by decide +kernel) (by decide +kernel) (by decide +kernel) (fun _ _ _ h => h.elim) (.inl ⟨rfl, fun w' hS => ?_⟩) hL2 ?_
  · go_simp
  try simp only [List.setIfInBounds_toArray, List.set_cons_zero, List.set_cons_succ]
  refine wpAnyH.takeT (i := 4) (t := 21) (v := (.string s)) rfl rfl (by decide +kernel) (by decide +kernel) (by decide +kernel) (fun _ _ _ h => h.elim) (.inl ⟨rfl, fun w' hS => ?_⟩) hL2 ?_
  · have c0 := hqN _ hS
    go_simp
  try simp only [List.setIfInBounds_toArray, List.set_cons_zero, List.set_cons_succ]
  refine wpAnyH.takeT (i := 5) (t := 22) (v := R.v) rfl rfl (by decide +kernel) (by decide +kernel) (by decide +kernel) (fun _ _ _ h => h.elim) (.inl ⟨rfl, fun w' hS => ?_⟩) hL2 ?_
  · have c0 := hlook _ hS.map
    go_simp
  try simp only [List.setIfInBounds_toArray, List.set_cons_zero, List.set_cons_succ]
  refine wpAnyH.takeT (i := 9) (t := 26) (v := (.int .i64 0)) rfl rfl (by decide +kernel) (by decide +kernel) (by decide +kernel) (fun _ _ _ h => h.elim) (.inl ⟨rfl, fun w' hS => ?_⟩) hL2 ?_
  · go_simp
  try simp only [List.setIfInBounds_toArray, List.set_cons_zero, List.set_cons_succ]
  refine wpAnyH.one (i := 6) (by decide +kernel) rfl rfl ?_
  refine wp_goCall1 31 (enters_of Try.func31 (by kernel_rfl) rfl) (.tmp 22) #[37] rfl 23 rfl ?_
  refine (valuesI_any R.v R.A R.l.length R.c rfl X).mono ?_
  rintro e w' ⟨rfl, rfl⟩
  have bA : Below X.heap.size X (X.alloc (.cells #[R.v] 37)) := bl_alloc (Below.refl _ _) _
  have hBX := hM2.bs
  refine ⟨_, rfl, hL2.below (bA.mono hBX), ?_⟩
  try simp only [List.setIfInBounds_toArray, List.set_cons_zero, List.set_cons_succ]
  refine wpAnyH.one (i := 7) (by decide +kernel) rfl rfl ?_
  refine wp_goCall1 30 (enters_of Try.func30 (by kernel_rfl) rfl) (.tmp 23) #[63] rfl 24 rfl ?_
  have hsrt := had_sorted fm s X (hadOf_at hL2 s) hfl
  rw [hR] at hsrt
  refine hsrt.mono ?_
  rintro e w3 ⟨A3, c3, rfl, hrow3, b3⟩
  refine ⟨_, rfl, hL2.below (b3.mono hBX), ?_⟩
  try simp only [List.setIfInBounds_toArray, List.set_cons_zero, List.set_cons_succ]
  refine wpAnyH.takeT (i := 8) (t := 25) (v := (.int .i64 (R.l.length : Nat))) rfl rfl (by decide +kernel) (by decide +kernel) (by decide +kernel) (fun _ _ _ h => h.elim) (.inl ⟨rfl, fun w' hS => ?_⟩) (hL2.below (b3.mono hBX)) ?_
  · go_simp
  try simp only [List.setIfInBounds_toArray, List.set_cons_zero, List.set_cons_succ]
  refine wpAnyH_done (by decide +kernel) ?_ _
  refine NoPanic.normal ?_
  have hS3 : R.l.length = (sortZ R.l).length := (sortZ_len _).symm
  obtain ⟨S, hSe⟩ : ∃ S, sortZ R.l = S := ⟨_, rfl⟩
  have hSs : S.Pairwise (· ≤ ·) := hSe ▸ sortZ_sorted _
  rw [hSe] at hrow3 hS3
  rw [hS3] at hrow3
  obtain ⟨D, hDe⟩ : ∃ D, dealt.l = D := ⟨_, rfl⟩
  rw [hDe] at hD hdl
  have hSl : S.length ≤ 17592186043904 := by rw [hR] at hfl; omega
  have hM3 := hM2.addR (r := ⟨A3, c3, S⟩) b3 (ownsRow_le hrow3 hBX) (fun g hg => ownsRow_base hrow3 (by rw [← hg]; exact v_own ⟨A3, c3, S⟩))
  obtain ⟨sr, hsr⟩ : ∃ sr : Rw3, sr = ⟨A3, c3, S⟩ := ⟨_, rfl⟩
  rw [← hsr] at hM3
  have hb3 : Below B w w3 := hb2.trans (b3.mono hBX)
  have hL3 := hL2.below (b3.mono hBX)
  have hhd : hads[i].l = [] := by rw [map_getD Rw3.l hads i hih, getD_get _ _ hih] at hh; exact hh
  rw [hS3]
  replace hlook := Lib.hid hlook
  replace hqN := Lib.hid hqN
  replace hqb := Lib.hid hqb
  replace hSe := Lib.hid hSe
  replace hDe := Lib.hid hDe
  replace hsr := Lib.hid hsr
  replace hhd := Lib.hid hhd
  replace hS3 := Lib.hid hS3
  replace hR := Lib.hid hR
  replace hfv := Lib.hid hfv
  replace hn := Lib.hid hn
  replace hA := Lib.hid hA
  clear hM2 hL2 hrow3 b3 bA hsrt hb2 qN hh
  go_wp2_with fail
  go_loopw [26] (fun u wr => ∃ (k : Nat) (r : Rw3), k ≤ S.length ∧ u = .int .i64 k ∧ r.l = inK D S k ∧ LowS wr B E ls nn fm ∧ Below B w wr ∧ Mem wr B (E.fx base rest fv (Rw3.v ⟨dealt.A, dealt.c, outK D S k⟩) (hads.set i r) outs2) (rsOf free ⟨dealt.A, dealt.c, outK D S k⟩ (hads.set i r) outs2 ++ [sr])) (fun u _ => S.length - (intOf u).toNat)
  case atStart =>
    refine ⟨0, hads[i], Nat.zero_le _, rfl, by rw [inK_zero]; exact hhd.out, hL3, hb3, ?_⟩
    rw [outK_zero, List.set_getElem_self]
    have := hDe.out
    obtain ⟨dA, dc, dl⟩ := dealt
    dsimp only at this
    subst this
    exact hM3
  case round =>
    obtain ⟨k, r, hk, rfl, hrl, hLr, hbr, hMr⟩ := hrel
    clear hM3 hL3 hb3
    by_cases hkS : k < S.length
    · obtain ⟨p, hpe⟩ : ∃ p, S[k] = p := ⟨_, rfl⟩
      have hrs := hMr.row _ _ (rs_lastR _ _ _ _ _)
      rw [hsr.out] at hrs
      obtain ⟨gs, osr, hAs, hlts, hcs⟩ := LAt.of_own encI_len (show wr.ownsRow B 3 1 (.slice A3 S.length c3) _ _ from hrs) rfl k hkS
      have qs := hcs 0 _ rfl
      simp only [Nat.mul_one, Nat.add_zero, hpe] at qs
      subst hAs
      have qbd := (hMr.blk 3 _ _ rfl).cell
      have hk0 : (0 : Int) ≤ (k : Int) := by omega
      have hol8 : (outK D S k).length ≤ 32 := Nat.le_trans (List.length_filter_le ..) hdl
      have hDk : DeckAt wr B E.Dd dealt.A dealt.c (outK D S k) := ⟨hMr.blk 9 _ _ rfl, hMr.row 1 _ rfl, fun g' o' e => by
        intro e2; subst e2; exact hMr.sep 1 9 _ _ _ rfl rfl (by simp [Rw3.b, e])⟩
      have htk := Lib.hid (take_any E.Dd B dealt.A dealt.c (outK D S k) p wr hDk (by omega))
      replace hpe := Lib.hid hpe
      have hr0 : r.l.length ≤ 32 := by rw [hrl]; exact Nat.le_trans (List.length_filter_le ..) hdl
      replace hrl := Lib.hid hrl
      clear hrs hcs hDk
      go_wp2_with fail
      refine htk.out.mono ?_
      rintro e w4 ⟨rfl, ⟨hD4, hR4, _⟩, hfr4⟩
      have hM4 := hMr.turn (kD := 9) (kr := 1) (r' := ⟨dealt.A, dealt.c, (outK D S k).erase p⟩) hfr4 rfl rfl (fun b hb => by rcases hb with e | ⟨a, e1, e2⟩; exact .inl e; exact .inr (by simp [Rw3.b, e1, e2])) hD4 hR4 rfl
      have hb4 : Below B w w4 := hbr.trans (hfr4.below (Below.refl _ _) (fun b hb => by rcases hb with e | ⟨a, e1, e2⟩; exact e ▸ hMr.ge 9 _ _ rfl; exact (own_b (hMr.row 1 _ rfl) (by simp [Rw3.b, e1, e2])).1) hMr.bs)
      have hbr4 : Below B wr w4 := hfr4.below (Below.refl _ _) (fun b hb => by rcases hb with e | ⟨a, e1, e2⟩; exact e ▸ hMr.ge 9 _ _ rfl; exact (own_b (hMr.row 1 _ rfl) (by simp [Rw3.b, e1, e2])).1) hMr.bs
      have hM4' : Mem w4 B (E.fx base rest fv (Rw3.v ⟨dealt.A, dealt.c, (outK D S k).erase p⟩) (hads.set i r) outs2) (rsOf free ⟨dealt.A, dealt.c, (outK D S k).erase p⟩ (hads.set i r) outs2 ++ [sr]) := hM4
      clear hM4 hMr hD4 hR4 hfr4 htk qs qbd
      by_cases hp : p ∈ outK D S k
      · have hdp : decide (p ∈ outK D S k) = true := by simpa using hp
        have HY := Lib.hid (show r.l ++ [p] = inK D S (k + 1) from by rw [hrl.out, ← hpe.out]; exact inK_yes hD hSs hkS (hpe.out ▸ hp))
        have HE := Lib.hid (show (outK D S k).erase p = outK D S (k + 1) from by rw [← hpe.out]; exact outK_yes hD hkS)
        rw [hdp]
        obtain ⟨Ah, ch, lh⟩ := r
        dsimp only at hr0 HY
        have hro := Lib.hid ((rs_hadR (free := free) (dealt := ⟨dealt.A, dealt.c, (outK D S k).erase p⟩) (hads := hads.set i ⟨Ah, ch, lh⟩) (outs := outs2) (i := i) (by simpa using hih) sr).trans (by rw [List.getElem_set_self]))
        obtain ⟨nh, hnh⟩ : ∃ nh, lh.length = nh := ⟨_, rfl⟩
        rw [hnh] at hr0
        go_wp2_with fail
        refine anyBut.region rfl 10 (fun w' => w'.cell? ⟨E.bh, 0, none⟩ = some (.slice (some ⟨E.H, 0, none⟩) E.n E.n) ∧ w'.cell? ⟨E.H, i, none⟩ = some (.slice Ah nh ch)) ?_
        obtain ⟨Y, hY⟩ : ∃ Y, w4.drew = Y := ⟨_, rfl⟩
        have hMY := hY ▸ hM4'.drew
        have hRY := hMY.row _ _ hro.out
        dsimp only [Rw3.v] at hRY
        rw [hnh] at hRY
        have hBY := hMY.bs
        have hbY : Below B w Y := hY ▸ bl_drw hb4
        have hbrY : Below B wr Y := hY ▸ bl_drw hbr4
        have lbh : E.bh < Y.heap.size := hMY.lt (k := 4) rfl
        have lH : E.H < Y.heap.size := hMY.lt (k := 10) rfl
        have hS0 : Y.cell? ⟨E.bh, 0, none⟩ = some (.slice (some ⟨E.H, 0, none⟩) E.n E.n) ∧ Y.cell? ⟨E.H, i, none⟩ = some (.slice Ah nh ch) := ⟨(hMY.blk 4 _ _ rfl).cell 0, by
          have := (hMY.blk 10 _ _ rfl).get (flat_get rwL_len (hads.set i ⟨Ah, ch, lh⟩) i (by simpa using hih) 0 (by omega))
          simpa [rwL, Rw3.v, hnh] using this⟩
        have hSa : ∀ w', Below Y.heap.size Y w' → w'.cell? ⟨E.bh, 0, none⟩ = some (.slice (some ⟨E.H, 0, none⟩) E.n E.n) ∧ w'.cell? ⟨E.H, i, none⟩ = some (.slice Ah nh ch) := fun w' hb => ⟨(hb.cell (p := ⟨E.bh, 0, none⟩) lbh).trans hS0.1, (hb.cell (p := ⟨E.H, _, none⟩) lH).trans hS0.2⟩
        have hsep1 : (Ah.map (·.block)) ≠ some E.bh := hMY.sep _ 4 _ _ _ hro.out rfl
        have hsep2 : (Ah.map (·.block)) ≠ some E.H := hMY.sep _ 10 _ _ _ hro.out rfl
        have hSg : ∀ w' w'', Below Y.heap.size Y w' → w'.grownBy w'' (Ah.map (·.block)) → w''.cell? ⟨E.bh, 0, none⟩ = some (.slice (some ⟨E.H, 0, none⟩) E.n E.n) ∧ w''.cell? ⟨E.H, i, none⟩ = some (.slice Ah nh ch) := fun w' w'' hb hg =>
          ⟨(World.cell?_of_block (w := w') (a := ⟨E.bh, 0, none⟩) (hg.block _ (Nat.lt_of_lt_of_le lbh hb.size) (fun e => hsep1 e.symm))).trans (hSa w' hb).1, (World.cell?_of_block (w := w') (a := ⟨E.H, _, none⟩) (hg.block _ (Nat.lt_of_lt_of_le lH hb.size) (fun e => hsep2 e.symm))).trans (hSa w' hb).2⟩
        rw [hY]
        clear hY hM4' hb4 hbr4
        try simp only [List.setIfInBounds_toArray, List.set_cons_zero, List.set_cons_succ]
        refine anyBut.takeW (i := 0) (t := 33) (v := (.slice (some ⟨E.H, 0, none⟩) E.n E.n)) (by kernel_rfl) rfl rfl (by decide +kernel) (by decide +kernel) (by decide +kernel) (fun _ _ _ h => h.elim) (.inl ⟨rfl, fun w' hS => ?_⟩) hS0 ?_
        · have z0 := hS.1
          go_simp
        try simp only [List.setIfInBounds_toArray, List.set_cons_zero, List.set_cons_succ]
        refine anyBut.takeW (i := 1) (t := 34) (v := (.int .i64 (i : Nat))) (by kernel_rfl) rfl rfl (by decide +kernel) (by decide +kernel) (by decide +kernel) (fun _ _ _ h => h.elim) (.inl ⟨rfl, fun w' hS => ?_⟩) hS0 ?_
        · go_simp
        try simp only [List.setIfInBounds_toArray, List.set_cons_zero, List.set_cons_succ]
        refine anyBut.takeW (i := 2) (t := 35) (v := (.slice (some ⟨E.H, 0, none⟩) E.n E.n)) (by kernel_rfl) rfl rfl (by decide +kernel) (by decide +kernel) (by decide +kernel) (fun _ _ _ h => h.elim) (.inl ⟨rfl, fun w' hS => ?_⟩) hS0 ?_
        · have z0 := hS.1
          go_simp
        try simp only [List.setIfInBounds_toArray, List.set_cons_zero, List.set_cons_succ]
        refine anyBut.takeW (i := 3) (t := 36) (v := (.int .i64 (i : Nat))) (by kernel_rfl) rfl rfl (by decide +kernel) (by decide +kernel) (by decide +kernel) (fun _ _ _ h => h.elim) (.inl ⟨rfl, fun w' hS => ?_⟩) hS0 ?_
        · go_simp
        try simp only [List.setIfInBounds_toArray, List.set_cons_zero, List.set_cons_succ]
        refine anyBut.takeW (i := 4) (t := 37) (v := (.pointer (some ⟨E.H, i, none⟩))) (by kernel_rfl) rfl rfl (by decide +kernel) (by decide +kernel) (by decide +kernel) (fun _ _ _ h => h.elim) (.inl ⟨rfl, fun w' hS => ?_⟩) hS0 ?_
        · go_simp
        try simp only [List.setIfInBounds_toArray, List.set_cons_zero, List.set_cons_succ]
        refine anyBut.takeW (i := 5) (t := 38) (v := (.slice Ah nh ch)) (by kernel_rfl) rfl rfl (by decide +kernel) (by decide +kernel) (by decide +kernel) (fun _ _ _ h => h.elim) (.inl ⟨rfl, fun w' hS => ?_⟩) hS0 ?_
        · have z0 := hS.2
          go_simp
        try simp only [List.setIfInBounds_toArray, List.set_cons_zero, List.set_cons_succ]
        refine anyBut.takeW (i := 6) (t := 39) (v := (.int .i64 p)) (by kernel_rfl) rfl rfl (by decide +kernel) (by decide +kernel) (by decide +kernel) (fun _ _ _ h => h.elim) (.inl ⟨rfl, fun w' hS => ?_⟩) hS0 ?_
        · go_simp
        try simp only [List.setIfInBounds_toArray, List.set_cons_zero, List.set_cons_succ]
        refine anyBut.one (i := 7) (by decide +kernel) rfl rfl ?_
        refine wp_oneI (.tmp 39) rfl p rfl 40 rfl ?_
        refine ⟨.inr (hSa _ (bl_alloc (Below.refl _ _) _)), ?_⟩
        try simp only [List.setIfInBounds_toArray, List.set_cons_zero, List.set_cons_succ]
        refine anyBut.one (i := 8) (by decide +kernel) rfl rfl ?_
        refine wp_appI (.tmp 38) (.tmp 40) rfl B Ah nh ch lh p Y.heap.size rfl (hRY.alloc _) rfl ((Blk.new' (w := Y) #[.int .i64 p] 3 rfl).get rfl) (by omega) (by simp; exact Nat.le_succ_of_le hBY) 41 rfl ?_
        intro A5 c5 w5 hown5 hg5 hat5
        have hS5 := hSg _ _ (bl_alloc (Below.refl _ _) (.cells #[.int .i64 p] 3)) hg5
        refine ⟨.inr hS5, ?_⟩
        try simp only [List.setIfInBounds_toArray, List.set_cons_zero, List.set_cons_succ]
        refine anyBut.oneT (i := 9) (t := 42) (v := (.pointer (some ⟨E.H, i, none⟩))) (by decide +kernel) rfl rfl (.inl ⟨rfl, fun w' hS => ?_⟩) hS5 ?_
        · go_simp
        try simp only [List.setIfInBounds_toArray, List.set_cons_zero, List.set_cons_succ]
        have hM5 := (hMY.alloc (.cells #[.int .i64 p] 3)).upd (r' := ⟨A5, c5, lh ++ [p]⟩) hro.out hg5 (by simpa [hnh, Rw3.v] using hown5) hat5
        refine anyBut.one (i := 10) (by decide +kernel) rfl rfl ?_
        refine wp_store_one 37 (.tmp 42) (.tmp 41) rfl (b := E.H) (k := i) rfl rfl rfl rfl (by kernel_rfl) ?_ ?_ ?_
        · rw [hS5.2]; rfl
        · exact (hM5.blk 10 _ _ rfl).unf _
        refine ⟨.inl rfl, anyBut.done (by decide +kernel) ?_ _⟩
        refine NoPanic.normal ?_
        have hfin := hM5.set (k := 10) (b := E.H) rfl (i * 1 + 0) (.slice A5 (nh + 1) c5)
        have hbf : Below B w (w5.setCell ⟨E.H, i, none⟩ (.slice A5 (nh + 1) c5)) := bl_set'' (Below.grown (Below.alloc hbY hBY _) hg5 (by simp; omega) (fun g hg => (own_b (hMY.row _ _ hro.out) hg).1)) (hMY.ge 10 _ _ rfl) _
        have e1 := flat_set rwL_len (⟨A5, c5, lh ++ [p]⟩ : Rw3) (.slice A5 (nh + 1) c5) (hads.set i ⟨Ah, ch, lh⟩) i (by simpa using hih) 0 (by omega) (by simp [rwL, Rw3.v, hnh])
        have e3 := rs_set_hadR (free := free) (dealt := ⟨dealt.A, dealt.c, (outK D S k).erase p⟩) (hads := hads.set i ⟨Ah, ch, lh⟩) (outs := outs2) (i := i) (by simpa using hih) ⟨A5, c5, lh ++ [p]⟩ sr
        rw [e3] at hfin
        simp only [Env.fx, List.set_cons_zero, List.set_cons_succ] at hfin
        rw [e1, List.set_set] at hfin
        rw [Nat.mul_one, Nat.add_zero] at hfin
        have hL5 := hLr.below (bl_set'' (Below.grown (Below.alloc hbrY hBY _) hg5 (by simp; omega) (fun g hg => (own_b (hMY.row _ _ hro.out) hg).1)) (hMY.ge 10 _ _ rfl) (j := i) (.slice A5 (nh + 1) c5))
        go_wp2_with fail
        go_roundw
        case rel => exact ⟨k + 1, ⟨A5, c5, lh ++ [p]⟩, by omega, by go_num, HY.out, hL5, hbf, by rw [← HE.out]; exact hfin⟩
        case measure => simp [intOf]; omega
      · have hdp : decide (p ∈ outK D S k) = false := by simpa using hp
        have hp2 : S[k] ∉ outK D S k := hpe.out.symm ▸ hp
        have HY := Lib.hid (show r.l = inK D S (k + 1) from by rw [hrl.out, inK_no hkS hp2])
        have HE := Lib.hid (show (outK D S k).erase p = outK D S (k + 1) from by rw [List.erase_of_not_mem hp, outK_no hkS hp2])
        have hL4 := hLr.below hbr4
        rw [hdp]
        clear hp2
        go_wp2_with fail
        go_roundw
        case rel => exact ⟨k + 1, r, by omega, by go_num, HY.out, hL4, hb4, by rw [← HE.out]; exact hM4'⟩
        case measure => simp [intOf]; omega
    · obtain rfl : k = S.length := by omega
      go_wp2
      go_end0
      have hS1 : inK D S S.length = D.filter fun x => R.l.contains x := by rw [← hSe.out]; exact inK_all D R.l
      have hS2 : outK D S S.length = D.filter fun x => !R.l.contains x := by rw [← hSe.out]; exact outK_all D R.l
      refine ⟨rfl, ⟨free, ⟨dealt.A, dealt.c, outK D S S.length⟩, hads.set i r, outs2, ⟨?_, by simpa using hhl, hol2, hnl⟩, rfl, ?_, ?_, hms.out, hos.out⟩, hbr⟩
      · rw [hfv.out]; exact hMr.dropR
      · dsimp only; rw [hS2, hDe.out, hR.out]
      · rw [List.map_set, hrl, hS1, hDe.out, hR.out]
end Go.Proofs.Ytbjjhnlifgbpmaa
