/- The document's disk: Crash (35), walked. -/
import Derived.Test.YteaenhmiomoocaaRc
namespace Go.Proofs.Yteaenhmiomoocaa
open Go.RowKit Go.Shelf
attribute [local go_sem] Oper.semAt_some

set_option maxRecDepth 100000 in
set_option maxHeartbeats 4000000 in
theorem rcrash_any {F : Nat → Prop} (w : World) (n0 rb g c : Nat) (bs : List Bk) (d : Dsk) (N : Nat) (A : Option Addr) (ca : Nat) (cs : List Int) (h : RfAt F w n0 rb g c bs d) (hrb : rb < n0) (hO : d.Ok N) (hN : N < 549755813888) (hs : d.vs.Pairwise fun p q => p.1 < q.1)
    (hA : NumsAt w A cs) (hcl : cs.length ≤ 17592186044416) (hcb : cs ≠ [] → ∀ b o, A = some ⟨b, o, none⟩ → b ≠ rb ∧ b ≠ g ∧ ∀ x ∈ bs, x.vv.ownBlock ≠ some b) :
    Calls Try.prog 35 #[.pointer (some ⟨rb, 0, none⟩), .slice A cs.length ca] w fun e w' => e = .returned (.tuple #[]) ∧ ∃ bs', RfAt F w' n0 rb g c bs' (crashD d cs) ∧ FrB w w' rb g bs bs' := by
  have hle := hO.len
  have hlb := h.len
  have hb1 : bs.length ≤ 4096 := by omega
  replace hlb := Lib.hid hlb
  replace hs := Lib.hid hs
  replace hcb := Lib.hid hcb
  go_enter Try.func35, Try.ntmps35
  go_wp2_with fail
  go_loopw [4, 5] (fun v u wr => ∃ (i k m : Nat) (bs' : List Bk), i ≤ bs.length ∧ Hid (m = k) ∧ v = .int .i64 m ∧ u = .int .i64 i ∧ bs'.length = bs.length ∧ Hid (CrIdx d i k) ∧ k ≤ i ∧ RfAt F wr n0 rb g c bs' (crS d cs k) ∧ FrB w wr rb g bs bs') (fun _ u _ => bs.length - (intOf u).toNat)
  case atStart => exact ⟨0, 0, 0, bs, Nat.zero_le _, Lib.hid (by omega), rfl, rfl, rfl, Lib.hid (crIdx_zero hO), Nat.le_refl _, by rw [crS_zero]; exact h, FrB.of_below (Below.refl _ _) _ _ _⟩
  case round =>
    obtain ⟨i, k, m, bs', hi, hm, rfl, rfl, hbl, hidx, hki, hr, hF⟩ := hrel
    have hi0 : (0 : Int) ≤ (i : Int) := by omega
    have hk0 : (0 : Int) ≤ (m : Int) := by omega
    have hmk : m ≤ k := by have := hm.out; omega
    have q := hr.box.cell
    have l := hr.box.lt
    have hgl := hr.gl.2.lt
    rw [hbl] at q
    replace hbl := Lib.hid hbl
    by_cases hlt : i < bs.length
    · have hj : i < bs'.length := by rw [hbl.out]; exact hlt
      obtain ⟨t0, t1, t2⟩ := hr.cells hj
      obtain ⟨AV, cV, hve⟩ := hr.vlen hj
      have y3 := ownsRow_unf hr.row
      rw [hve, crS_vs cs hidx.out] at t2
      cases hv : lookI d.vs (i : Int) with
      | none =>
        have hz : vsOf d i = [] := by unfold vsOf; rw [hv]; rfl
        rw [hz] at t2
        simp only [List.length_nil] at t2
        have hsk := Lib.hid (crIdx_skip hidx.out hv)
        clear hz hv hve
        go_wp2_with fail
        go_roundw
        case rel => exact ⟨i + 1, k, m, bs', by omega, hm, rfl, by go_num, hbl.out, hsk, by omega, hr, hF⟩
        case measure => simp [intOf]; omega
      | some lv =>
        have hvs : vsOf d i = lv := by unfold vsOf; rw [hv]; rfl
        obtain ⟨_, hin, hne, hlN, hl256⟩ := hO.vs i lv hv
        have hpos : lv.length ≠ 0 := by simpa using hne
        obtain ⟨hd1, hd2, hturn⟩ := crS_turn cs hidx.out hs.out hv (by omega)
        have hnx := Lib.hid (crIdx_next hidx.out hs.out hv)
        obtain ⟨hq, hrow, hvr⟩ := hr.ver i hj
        rw [crS_vs cs hidx.out, hvs, hve] at hrow
        rw [crS_vs cs hidx.out, hvs] at hvr
        rw [hvs] at t2
        obtain ⟨A2, c', e, htl⟩ := ownsRow_tells hrow
        injection e with e1 e2 e3
        subst e1 e3
        obtain ⟨gq, rfl, _, hgq, hcq⟩ := htl hpos
        have hlen0 := Lib.hid (crS_len d cs (k + 1) k)
        replace hd1 := Lib.hid hd1
        replace hd2 := Lib.hid hd2
        have hbI := hr.bad i hj
        have htI := hr.txt i hj
        obtain ⟨AT, nT, cT, hsl⟩ := hr.sl _ (List.getElem_mem hj)
        have HX := Lib.hid hr
        replace hve := Lib.hid hve
        generalize hbk : bs'[i] = bk at *
        obtain ⟨bT, bB, bV⟩ := bk
        dsimp only at t0 t1 hbI htI hsl
        subst hsl
        have hlp : decide ((0 : Int) = (lv.length : Int)) = false := by simp; omega
        have hlp2 : ((lv.length : Int) == 0) = false := by rw [beq_eq_false_iff_ne]; omega
        have hlvN : lv.length < 549755813888 := by omega
        have hofs := Lib.hid (crS_of d cs (k + 1))
        have hofs' := Lib.hid (crS_of d cs k)
        -- the choice
        have hcs : (∃ (b o : Nat), A = some ⟨b, o, none⟩ ∧ k < cs.length ∧ b < wr.heap.size ∧ wr.cell? ⟨b, o + k, none⟩ = some (.int .i64 (cs[k]?.getD 0)) ∧ okI (cs[k]?.getD 0)) ∨ (cs.length ≤ k ∧ cs[k]?.getD 0 = 0) := by
          rcases Nat.lt_or_ge k cs.length with hk | hk
          · obtain ⟨b, o, hb, hbl, hc, hok⟩ := hA k hk
            left
            have hcb' := hcb.out (by rintro rfl; simp at hk) b o hb
            have hh := hF.block b hbl hcb'.1 hcb'.2.1 hcb'.2.2
            refine ⟨b, o, hb, hk, Nat.lt_of_lt_of_le hbl hF.size, ?_, ?_⟩
            · rw [List.getElem?_eq_getElem hk]
              exact (World.cell?_of_block (w := w) (a := ⟨b, o + k, none⟩) hh).trans hc
            · rw [List.getElem?_eq_getElem hk]; exact hok
          · right
            exact ⟨hk, by rw [List.getElem?_eq_none hk]; rfl⟩
        generalize hcc : cs[k]?.getD 0 = ch at *
        replace hbk := Lib.hid hbk
        replace hbI := Lib.hid hbI
        replace htI := Lib.hid htI
        clear hcc hr hvs hne
        have fin : ∀ (x : Bk) (Z : World), Z.ownsRow n0 67 3 (.slice (some ⟨g, 0, none⟩) bs'.length c) bs'.length (bkC (bs'.set i x)) → (∀ b, b ≠ g → Z.heap[b]? = wr.heap[b]?) → (Z.os = wr.os ∧ Z.tape = wr.tape ∧ Z.output = wr.output) → wr.heap.size ≤ Z.heap.size → x.vv = .slice none 0 0 → x.bad = (lookI (crS d cs (k + 1)).bad (i : Int)).getD false → (x.bad = false → BufT F wr x.tv ((crS d cs (k + 1)).ts[i]?.getD [])) → (∃ A n c, x.tv = .slice A n c) → RfAt F Z n0 rb g c (bs'.set i x) (crS d cs (k + 1)) ∧ FrB w Z rb g bs (bs'.set i x) := by
          intro x Z hrow hk ho hs hv hb ht hsl
          refine ⟨HX.out.put hrb hj x hrow (fun b _ hb => hk b hb) hlen0.out ?_ ?_ hd1.out hb ht (.inl ⟨hv, hd2.out⟩) hsl, hF.trans (FrB.put hj x hk ho hs (.inl hv))⟩
          · rw [hofs.out.1, hofs'.out.1]
          · rw [hofs.out.2, hofs'.out.2]
        replace fin := Lib.hid fin
        have f1 : ∀ v, (wr.setCell ⟨g, i * 3 + 2, none⟩ v).ownsRow n0 67 3 (.slice (some ⟨g, 0, none⟩) bs'.length c) bs'.length (bkC (bs'.set i ⟨.slice AT nT cT, bB, v⟩)) := fun v => by
          have := ownsRow_set HX.out.row (i * 3 + 2) v
          rw [(bkC_set bs' i hj v).2, hbk.out] at this
          exact this
        have f3 : ∀ v b v', (((wr.setCell ⟨g, i * 3, none⟩ v).setCell ⟨g, i * 3 + 1, none⟩ (.bool b)).setCell ⟨g, i * 3 + 2, none⟩ v').ownsRow n0 67 3 (.slice (some ⟨g, 0, none⟩) bs'.length c) bs'.length (bkC (bs'.set i ⟨v, b, v'⟩)) := fun v b v' => by
          have := ownsRow_set (ownsRow_set (ownsRow_set HX.out.row (i * 3) v) (i * 3 + 1) (.bool b)) (i * 3 + 2) v'
          rwa [bkC_set3 bs' i hj] at this
        replace f1 := Lib.hid f1
        replace f3 := Lib.hid f3
        have k3 : ∀ v b v' (q : Nat), q ≠ g → (((wr.setCell ⟨g, i * 3, none⟩ v).setCell ⟨g, i * 3 + 1, none⟩ b).setCell ⟨g, i * 3 + 2, none⟩ v').heap[q]? = wr.heap[q]? := fun v b v' q hq =>
            ((Below.heap_setCell _ _ _ _ hq).trans (Below.heap_setCell _ _ _ _ hq)).trans (Below.heap_setCell _ _ _ _ hq)
        replace k3 := Lib.hid k3
        -- the header that a choice takes
        have hpick : 0 < ch → ch ≤ lv.length → ∃ e : Nat, ch = (e : Int) + 1 ∧ e < lv.length ∧ ∃ v, wr.cell? ⟨gq, e, none⟩ = some v ∧ BufT F wr v (lv[(ch - 1).toNat]?.getD []) := by
          intro h1 h2
          obtain ⟨e, rfl⟩ : ∃ e : Nat, ch = (e : Int) + 1 := ⟨(ch - 1).toNat, by omega⟩
          have he : e < lv.length := by omega
          obtain ⟨v, hv1, hv2⟩ := hvr e lv[e] (List.getElem?_eq_getElem he)
          refine ⟨e, rfl, he, v, hcq e v hv1, ?_⟩
          rw [show ((e : Int) + 1 - 1).toNat = e from by omega, List.getElem?_eq_getElem he]
          exact hv2
        replace hpick := Lib.hid hpick
        replace hturn := Lib.hid hturn
        clear hvr hcq
        rcases hcs with ⟨b, o, rfl, hkl, hbz, hcc, hok⟩ | ⟨hkl, hch0⟩
        · obtain rfl : m = k := by have := hm.out; omega
          rcases hturn.out with ⟨c0, hbq, htq⟩ | ⟨c0, c1, hbq, htq⟩ | ⟨c0, hbq⟩
          · subst c0
            replace hbq := Lib.hid hbq
            replace htq := Lib.hid htq
            clear hpick hturn hrow e2 htl
            go_wp2_with fail
            go_roundw
            case rel =>
              have hz := fin.out ⟨.slice AT nT cT, bB, .slice none 0 0⟩ _ (f1.out _) (fun q hq => Below.heap_setCell _ _ _ _ hq) ⟨rfl, rfl, rfl⟩ (by simp [World.setCell]) rfl (by rw [hbq.out]; exact hbI.out) (fun h => by rw [htq.out]; exact htI.out h) ⟨_, _, _, rfl⟩
              exact ⟨i + 1, m + 1, m + 1, _, by omega, Lib.hid (by have := hm.out; omega), by go_num, by go_num, by rw [List.length_set]; exact hbl.out, hnx, by omega, hz.1, hz.2⟩
            case measure => simp [intOf]; omega
          · obtain ⟨e, rfl, he, hv1, hv2, hv3⟩ := hpick.out c0 c1
            replace hbq := Lib.hid hbq
            replace htq := Lib.hid htq
            replace hv3 := Lib.hid hv3
            clear hpick hturn hrow e2 htl
            obtain ⟨bt, ct, rfl, hty, hrg⟩ := hv3.out
            clear hty hrg
            generalize (lv[((e : Int) + 1 - 1).toNat]?.getD []) = tx at *
            have g1 : ((e : Int) + 1 == 0) = false := by rw [beq_eq_false_iff_ne]; omega
            have g2 : decide ((0 : Int) < (e : Int) + 1) = true := by rw [decide_eq_true_iff]; omega
            have g3 : decide ((e : Int) + 1 ≤ (lv.length : Int)) = true := by rw [decide_eq_true_iff]; omega
            have g4 : decide ((lv.length : Int) < (e : Int) + 1) = false := by rw [decide_eq_false_iff_not]; omega
            have g5 : (e : Int) + 1 - 1 = (e : Int) := by omega
            have g6 : (0 : Int) ≤ (e : Int) := by omega
            have g7 : (e : Int) < 549755813888 := by omega
            go_wp2_with fail
            go_roundw
            case rel =>
              have hz := fin.out ⟨_, false, .slice none 0 0⟩ _ (f3.out _ _ _) (k3.out _ _ _) ⟨rfl, rfl, rfl⟩ (by simp [World.setCell]) rfl (by rw [hbq.out]; rfl) (fun _ => by rw [htq.out]; exact hv3.out) ⟨_, _, _, rfl⟩
              exact ⟨i + 1, m + 1, m + 1, _, by omega, Lib.hid (by have := hm.out; omega), by go_num, by go_num, by rw [List.length_set]; exact hbl.out, hnx, by omega, hz.1, hz.2⟩
            case measure => simp [intOf]; omega
          · replace hbq := Lib.hid hbq
            clear hpick hturn hrow e2 htl
            have g1 : (ch == 0) = false := by rw [beq_eq_false_iff_ne]; omega
            rcases Int.lt_or_lt_of_ne (show ch ≠ 0 by omega) with hn | hn
            · have g2 : decide ((0 : Int) < ch) = false := by rw [decide_eq_false_iff_not]; omega
              go_wp2_with fail
              go_roundw
              case rel =>
                have hz := fin.out ⟨.slice none 0 0, true, .slice none 0 0⟩ _ (f3.out _ _ _) (k3.out _ _ _) ⟨rfl, rfl, rfl⟩ (by simp [World.setCell]) rfl (by rw [hbq.out]; rfl) (fun h => by cases h) ⟨_, _, _, rfl⟩
                exact ⟨i + 1, m + 1, m + 1, _, by omega, Lib.hid (by have := hm.out; omega), by go_num, by go_num, by rw [List.length_set]; exact hbl.out, hnx, by omega, hz.1, hz.2⟩
              case measure => simp [intOf]; omega
            · have g2 : decide ((0 : Int) < ch) = true := by rw [decide_eq_true_iff]; omega
              have g3 : decide (ch ≤ (lv.length : Int)) = false := by rw [decide_eq_false_iff_not]; omega
              have g4 : decide ((lv.length : Int) < ch) = true := by rw [decide_eq_true_iff]; omega
              go_wp2_with fail
              go_roundw
              case rel =>
                have hz := fin.out ⟨.slice none 0 0, true, .slice none 0 0⟩ _ (f3.out _ _ _) (k3.out _ _ _) ⟨rfl, rfl, rfl⟩ (by simp [World.setCell]) rfl (by rw [hbq.out]; rfl) (fun h => by cases h) ⟨_, _, _, rfl⟩
                exact ⟨i + 1, m + 1, m + 1, _, by omega, Lib.hid (by have := hm.out; omega), by go_num, by go_num, by rw [List.length_set]; exact hbl.out, hnx, by omega, hz.1, hz.2⟩
              case measure => simp [intOf]; omega
        · subst hch0
          obtain rfl : m = k := hm.out
          rcases hturn.out with ⟨_, hbq, htq⟩ | ⟨c0, _⟩ | ⟨c0, _⟩
          · replace hbq := Lib.hid hbq
            replace htq := Lib.hid htq
            clear hpick hturn hrow e2 htl
            go_wp2_with fail
            go_roundw
            case rel =>
              have hz := fin.out ⟨.slice AT nT cT, bB, .slice none 0 0⟩ _ (f1.out _) (fun q hq => Below.heap_setCell _ _ _ _ hq) ⟨rfl, rfl, rfl⟩ (by simp [World.setCell]) rfl (by rw [hbq.out]; exact hbI.out) (fun h => by rw [htq.out]; exact htI.out h) ⟨_, _, _, rfl⟩
              exact ⟨i + 1, m + 1, m + 1, _, by omega, Lib.hid (by have := hm.out; omega), by go_num, by go_num, by rw [List.length_set]; exact hbl.out, hnx, by omega, hz.1, hz.2⟩
            case measure => simp [intOf]; omega
          · omega
          · exfalso; omega
    · obtain rfl : i = bs.length := by omega
      have hke : k = d.vs.length := crIdx_end hO (by rw [← hlb.out]; exact hidx.out)
      subst hke
      have hca := Lib.hid (crS_all d cs)
      have u := hr.box.unf
      replace hr := Lib.hid hr
      go_wp2_with fail
      go_end0
      have hb2 := (hr.out.box.set_same 1 (.bool false)).set_same 2 (.int .i64 (-1))
      have ht := hr.out.turn hrb false (-1) (by simpa using hb2) (gr_set (gr_set (World.grownBy.refl _ _) _ _) _ _) ((hr.out.boxT.setCell _ _).setCell _ _)
      rw [hca.out] at ht
      exact ⟨rfl, bs', ht, hF.trans (FrB.of_box (gr_set (gr_set (World.grownBy.refl _ _) _ _) _ _) _ _)⟩
end Go.Proofs.Yteaenhmiomoocaa
