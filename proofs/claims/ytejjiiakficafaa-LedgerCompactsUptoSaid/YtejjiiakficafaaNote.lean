/- producer.Table.Note: a batch is there. -/
import Derived.Test.YtejjiiakficafaaDecide
namespace Go.Proofs.Ytejjiiakficafaa
open Go.RowKit Go.Shelf

theorem gr_newx {a w w1 : World} {row : Option Nat} {g : Nat} (h : a.grownBy w row) (k : w.grownBy w1 (some g)) (hg : a.heap.size ≤ g) : a.grownBy w1 row :=
  ⟨k.os.trans h.os, k.tape.trans h.tape, k.output.trans h.output, Nat.le_trans h.size k.size, fun i hi hne => (k.block i (Nat.lt_of_lt_of_le hi h.size) (by rintro e; cases e; omega)).trans (h.block i hi hne)⟩

def noteSt (sk : Option St) (k ep s : Int) (n : Nat) (off : Int) : St :=
  let z := if (sk.isSome && decide ((sk.getD st0).epoch = ep)) = true then sk.getD st0 else ⟨ep, 0, []⟩
  if k = 1 then ⟨z.epoch, z.next + n, z.ds ++ [⟨s, n, off⟩]⟩ else z
def noteF (m : List (Int × St)) (k p ep s : Int) (t : Bool) (rs : List Rec) (off : Int) : Int × List (Int × St) :=
  if off < 0 ∨ 281474976710656 < off then (1, m) else
  if (decideF (lookI m p) k p ep s t rs).2.2 ≠ 0 ∨ (decideF (lookI m p) k p ep s t rs).2.1 = true ∨ p < 0 then ((decideF (lookI m p) k p ep s t rs).2.2, m) else
  (0, putI m p (noteSt (lookI m p) k ep s rs.length off))

theorem decideF_check {sk : Option St} {k p ep s : Int} {t : Bool} {rs : List Rec} (h : (decideF sk k p ep s t rs).2.2 = 0) (hp : 0 ≤ p) : checkE k p ep s t rs = 0 := by
  by_cases hc : checkE k p ep s t rs = 0
  · exact hc
  · unfold decideF at h
    rw [if_pos (Or.inl hc)] at h
    exact h

theorem putI_del {α : Type} (m : List (Int × α)) (k : Int) (v : α) : putI (delI m k) k v = putI m k v := by
  unfold putI delI; rw [List.filter_filter]; simp

set_option maxRecDepth 100000 in
set_option maxHeartbeats 2000000 in
theorem note_any (tb mb nn : Nat) (m : List (Int × St)) (k p ep s : Int) (t : Bool) (A : Option Addr) (c : Nat) (rs : List Rec) (off : Int) (w : World)
    (hT : Blk w tb [.map (some mb)]) (hM : IM Try.prog 3 w mb nn stV m) (hR : RecsAt w A rs) (hs : -9223372036854775808 ≤ s ∧ s ≤ 9223372036854775807) (hnn : nn < maxLen)
    (hds : ∀ st, lookI m p = some st → st.ds.length ≤ 4611686018427387904 ∧ 0 ≤ st.next ∧ st.next ≤ 2147483648) :
    Calls Try.prog 52 #[.pointer (some ⟨tb, 0, none⟩), .agg #[.int .i64 k, .int .i64 p, .int .i64 ep, .int .i64 s, .bool t, .slice A rs.length c], .int .i64 off] w fun e w' =>
      e = .returned (.int .i64 (noteF m k p ep s t rs off).1) ∧ IM Try.prog 3 w' mb (nn + 1) stV (noteF m k p ep s t rs off).2 ∧ w.grownBy w' (some mb) := by
  by_cases ho1 : off < 0
  · go_enter Try.func52, Try.ntmps52
    go_wp2_with (go_at_call 44; refine (none_tab tb mb _ ?_).mono ?_; (repeat' (first | assumption | apply Blk.alloc)); rintro e w' ⟨rfl, rfl⟩)
    go_ret
    exact ⟨ret_int (by simp [noteF, ho1]), by simpa [noteF, ho1] using (hM.alloc _).mono (by omega), gr_alloc (World.grownBy.refl _ _) _⟩
  by_cases ho2 : 281474976710656 < off
  · go_enter Try.func52, Try.ntmps52
    go_wp2_with (go_at_call 44; refine (none_tab tb mb _ ?_).mono ?_; (repeat' (first | assumption | apply Blk.alloc)); rintro e w' ⟨rfl, rfl⟩)
    go_ret
    exact ⟨ret_int (by simp [noteF, ho2]), by simpa [noteF, ho2] using (hM.alloc _).mono (by omega), gr_alloc (World.grownBy.refl _ _) _⟩
  have HF := Lib.hid (show noteF m k p ep s t rs off = if (decideF (lookI m p) k p ep s t rs).2.2 ≠ 0 ∨ (decideF (lookI m p) k p ep s t rs).2.1 = true ∨ p < 0 then ((decideF (lookI m p) k p ep s t rs).2.2, m) else
    (0, putI m p (noteSt (lookI m p) k ep s rs.length off)) from by unfold noteF; rw [if_neg (by omega)])
  have HCK := Lib.hid (@decideF_check (lookI m p) k p ep s t rs)
  obtain ⟨D, hD⟩ : ∃ D, decideF (lookI m p) k p ep s t rs = D := ⟨_, rfl⟩
  have HDD := Lib.hid hD
  go_enter Try.func52, Try.ntmps52
  go_wp2_with (go_at_call 44; refine (none_tab tb mb _ ?_).mono ?_; (repeat' (first | assumption | apply Blk.alloc)); rintro e w' ⟨rfl, rfl⟩)
  refine (decide_any tb mb nn m k p ep s t A c rs _ (hT.alloc _) (hM.alloc _) (hR.below (bl_alloc (Below.refl _ _) _)) hs (fun st h => (hds st h).1)).mono ?_
  rw [hD] at HF HCK ⊢
  clear hD
  rintro e w1 ⟨rfl, hb1⟩
  have hB0 : Blk w1 w.heap.size [.int .i64 k, .int .i64 p, .int .i64 ep, .int .i64 s, .bool t, .slice A rs.length c] := Blk.below (Blk.new' _ _ rfl) hb1 (by simp)
  have hT1 : Blk w1 tb [.map (some mb)] := Blk.below (hT.alloc _) hb1 (by have := hT.lt; simp; omega)
  have hM1 : IM Try.prog 3 w1 mb nn stV m := IM.below (hM.alloc _) hb1 (by have := hM.lt; simp; omega)
  have hg1 : w.grownBy w1 (some mb) := gr_tr (gr_alloc (World.grownBy.refl _ _) _) hb1
  have hmb : mb < w.heap.size := hM.lt
  have hrl := hR.1
  clear hb1 hT hM hR
  have q0 := hB0.cell
  have qT := hT1.cell
  have lT := hT1.lt
  have lM := hM1.lt
  obtain ⟨r, dup, e⟩ := D
  by_cases he : e = 0
  · cases dup
    · by_cases hp : p < 0
      · subst he
        go_wp2_with fail
        go_ret
        exact ⟨ret_int (by rw [HF.out]; simp [hp]), by rw [HF.out]; simpa [hp] using hM1.mono (by omega), hg1⟩
      · subst he
        have hp0 : 0 ≤ p := by omega
        have hpn : ¬ p < 0 := hp
        have hck := HCK.out rfl hp0
        have hpr : -9223372036854775808 ≤ p ∧ p ≤ 9223372036854775807 := ⟨by omega, checkE_p hck⟩
        clear hck HCK
        go_wp2_with fail
        have hlk : ∀ W : World, IM Try.prog 3 W mb nn stV m → (Instr.lookup 86 (.map (some mb)) (.int .i64 p) true).run Try.prog W = .ok (.tuple #[stV ((lookI m p).getD st0), .bool (lookI m p).isSome]) W :=
          fun W hW => hW.look_ok Try.underlying3 Try.underlying86 zero76 hpr
        obtain ⟨sp, hsp⟩ : ∃ sp, (lookI m p).getD st0 = sp := ⟨_, rfl⟩
        obtain ⟨kn, hkn⟩ : ∃ kn, (lookI m p).isSome = kn := ⟨_, rfl⟩
        rw [hsp, hkn] at hlk
        obtain ⟨cs, hcs⟩ : ∃ cs, (stCells sp).toArray = cs := ⟨_, rfl⟩
        have hv1 : cs.size = 18 := by rw [← hcs]; rfl
        have hv2 : cs.all (·.oneCell') = true := by rw [← hcs]; simp [stCells, Value.oneCell']
        simp only [stV, hcs] at hlk
        have HCS := Lib.hid hcs
        clear hcs
        have HNS := Lib.hid (show noteSt (lookI m p) k ep s rs.length off = (if k = 1 then
            ⟨(if (kn && decide (sp.epoch = ep)) = true then sp else ⟨ep, 0, []⟩ : St).epoch, (if (kn && decide (sp.epoch = ep)) = true then sp else ⟨ep, 0, []⟩ : St).next + rs.length, (if (kn && decide (sp.epoch = ep)) = true then sp else ⟨ep, 0, []⟩ : St).ds ++ [⟨s, rs.length, off⟩]⟩
            else (if (kn && decide (sp.epoch = ep)) = true then sp else ⟨ep, 0, []⟩)) from by simp only [noteSt, hsp, hkn])
        have HL := Lib.hid (show sp.ds.length ≤ 4611686018427387904 ∧ 0 ≤ sp.next ∧ sp.next ≤ 2147483648 from by
          cases h : lookI m p with
          | none => rw [h] at hsp; rw [← hsp]; simp [st0]
          | some z => rw [h] at hsp; rw [← hsp]; exact hds z h)
        clear hsp hkn hds
        go_upto_region 6 with (fail)
        go_cut [10, 11] from 12 to 49 (fun s10 s11 wx => s10 = .pointer (some ⟨w1.heap.size, 0, none⟩) ∧ s11 = .bool kn ∧ Blk wx w1.heap.size (stCells sp) ∧ Below w1.heap.size w1 wx)
        case first =>
          have hst : Sem.run Try.prog (storeCells ⟨w1.heap.size, 0, none⟩ cs.toList 0) (w1.alloc (.cells #[.int .i64 0, .int .i64 0, .int .i64 0, .int .i64 0, .int .i64 0, .int .i64 0, .int .i64 0, .int .i64 0, .int .i64 0, .int .i64 0, .int .i64 0, .int .i64 0, .int .i64 0, .int .i64 0, .int .i64 0, .int .i64 0, .int .i64 0, .int .i64 0] 95)).drew = .ok () (w1.alloc (.cells cs 95)).drew :=
            run_storeCells_new (P := Try.prog) w1.drew 95 #[.int .i64 0, .int .i64 0, .int .i64 0, .int .i64 0, .int .i64 0, .int .i64 0, .int .i64 0, .int .i64 0, .int .i64 0, .int .i64 0, .int .i64 0, .int .i64 0, .int .i64 0, .int .i64 0, .int .i64 0, .int .i64 0, .int .i64 0, .int .i64 0] cs (by rw [hv1]; exact size76) (by rw [hv1]; rfl) hv2
          clear hv2
          have t0 := hT1.get (j := 0) rfl
          have t1 := hB0.get (j := 1) rfl
          have l0 := hB0.lt
          clear q0 qT hB0 hT1 hg1 HNS HL HF HDD hs
          go_region_held3 (fun w' => w'.cell? ⟨tb, 0, none⟩ = some (.map (some mb)) ∧ w'.cell? ⟨w.heap.size, 1, none⟩ = some (.int .i64 p) ∧ IM Try.prog 3 w' mb nn stV m)
            ((go_split_ands; refine ⟨?_, ?_, ?_⟩ <;> first | ((repeat' (first | assumption | with_reducible apply IM.alloc | with_reducible apply IM.drew | with_reducible apply IM.setCell)); done) | (go_keep; done))) (fail)
          all_goals
            go_wp2_with fail
            go_meet
            exact ⟨rfl, rfl, (blk_eq (Blk.new w1 cs 95) (by rw [← HCS.out])).drew, bl_drew (bl_alloc (Below.refl _ _) _)⟩
        case rest =>
          obtain ⟨rfl, rfl, hS, hb2⟩ := hcut
          have hl0 := hB0.lt
          have hntb := hM1.ne_cell (hT1.get (j := 0) rfl)
          have hnb0 := hM1.ne_cell (hB0.get (j := 0) rfl)
          dsimp only at hntb hnb0
          replace hB0 := hB0.below hb2 hB0.lt
          replace hT1 := hT1.below hb2 hT1.lt
          have hMx : IM Try.prog 3 wc mb nn stV m := hM1.below hb2 hM1.lt
          have hgW := gr_tr hg1 hb2
          have hsz1 : w.heap.size ≤ w1.heap.size := hg1.size
          clear hb2 hM1 q0 qT hlk HCS hv1 hv2 hg1
          have s0 : wc.cell? ⟨w1.heap.size, 0, none⟩ = some (.int .i64 sp.epoch) := hS.get rfl
          have q0 := hB0.cell
          cases kn
          · replace HNS := Lib.hid (show noteSt (lookI m p) k ep s rs.length off = (if k = 1 then (⟨ep, 0 + rs.length, [] ++ [⟨s, rs.length, off⟩]⟩ : St) else ⟨ep, 0, []⟩) from by rw [HNS.out]; rfl)
            have HLEN := Lib.hid (show (⟨ep, 0, []⟩ : St).ds.length ≤ 4611686018427387904 from by simp)
            by_cases hk : k = 1
            · have HN := Lib.hid (show noteSt (lookI m p) k ep s rs.length off = ⟨((⟨ep, 0, []⟩ : St)).epoch, ((⟨ep, 0, []⟩ : St)).next + rs.length, ((⟨ep, 0, []⟩ : St)).ds ++ [⟨s, rs.length, off⟩]⟩ from by rw [HNS.out, if_pos hk])
              have hk1 : (k == 1) = true := by simpa using hk
              clear hk
              go_wp2_with (refine wpList_store_blk rfl 95 _ _ rfl w1.heap.size (stCells sp) (stCells ⟨ep, 0, []⟩) rfl rfl hS rfl size76 (by simp [stCells, Value.oneCell']) ?_; intro w2 hS2 hg2 hz2; replace hB0 := hB0.grown hg2 (by simp; omega); replace hT1 := hT1.grown hg2 (by simp; omega); replace hMx := hMx.grown hg2 (by simp; omega); replace hgW := gr_newx hgW hg2 (by omega); clear hS hg2 hz2 q0; have hS := hS2; clear hS2; have s1 : w2.cell? ⟨w1.heap.size, 1, none⟩ = some (.int .i64 (⟨ep, 0, []⟩ : St).next) := hS.get rfl; have q0 := hB0.cell; have qT := hT1.cell; have lT := hT1.lt; have uS := hS.unf; have lS := hS.lt; have l0 := hB0.lt; clear s0)
              refine (put_any ⟨((⟨ep, 0, []⟩ : St)).epoch, ((⟨ep, 0, []⟩ : St)).next + rs.length, ((⟨ep, 0, []⟩ : St)).ds⟩ ⟨s, rs.length, off⟩ w1.heap.size _ ?_ HLEN.out).mono ?_
              · exact blk_eq (hS.set_same 1 _) (by simp [stCells])
              rintro e w3 ⟨rfl, hS3, hg3⟩
              have hM3 : IM Try.prog 3 w3 mb nn stV m := (hMx.setCell _ _).grown hg3 (by simp; omega)
              have hB3 := (hB0.set_ne (by simp; omega) _).grown hg3 (by simp; omega)
              have hT3 := (hT1.set_ne (by simp; omega) _).grown hg3 (by simp; omega)
              have hg4 : w.grownBy w3 (some mb) := gr_newx (gr_setNew hgW (by dsimp only; omega) _) hg3 (by omega)
              clear hS hB0 hT1 hMx hgW hg3 s1 q0 qT uS
              have t0 := (hT3.drew).get (j := 0) rfl
              have t1 := (hB3.drew).get (j := 1) rfl
              have u0 := (hT3.drew).lt
              try go_wp2_with fail
              go_still_tail 7, (by kernel_rfl)
              refine wpStill_load_blk rfl 95 _ rfl w1.heap.size (stCells (⟨((⟨ep, 0, []⟩ : St)).epoch, ((⟨ep, 0, []⟩ : St)).next + (rs.length : Int), ((⟨ep, 0, []⟩ : St)).ds ++ [(⟨s, (rs.length : Int), off⟩ : Dn)]⟩ : St)) rfl (hS3.drew) _ Try.underlying95 rfl size76 ?_
              repeat still_step
              try refine wpStill_nil ?_
              change wpList _ _ _ _ _ (w3.drew)
              go_wp2_with (refine wpList_mapUpdate_im rfl _ _ _ 86 rfl Try.underlying3 Try.underlying86 mb nn rfl (hM3.drew) (by omega) p rfl hpr (⟨((⟨ep, 0, []⟩ : St)).epoch, ((⟨ep, 0, []⟩ : St)).next + (rs.length : Int), ((⟨ep, 0, []⟩ : St)).ds ++ [(⟨s, (rs.length : Int), off⟩ : Dn)]⟩ : St) rfl ?_; intro w5 hM5 hg5)
              go_ret
              refine ⟨ret_int (by rw [HF.out, if_neg (by simp; omega)]), ?_, gr_trg (gr_drew hg4) hg5⟩
              rw [HF.out, if_neg (by simp; omega), HN.out]
              exact hM5
            · have HN := Lib.hid (show noteSt (lookI m p) k ep s rs.length off = (⟨ep, 0, []⟩ : St) from by rw [HNS.out, if_neg hk])
              have hk1 : (k == 1) = false := by simpa using hk
              clear hk
              go_wp2_with (refine wpList_store_blk rfl 95 _ _ rfl w1.heap.size (stCells sp) (stCells ⟨ep, 0, []⟩) rfl rfl hS rfl size76 (by simp [stCells, Value.oneCell']) ?_; intro w2 hS2 hg2 hz2; replace hB0 := hB0.grown hg2 (by simp; omega); replace hT1 := hT1.grown hg2 (by simp; omega); replace hMx := hMx.grown hg2 (by simp; omega); replace hgW := gr_newx hgW hg2 (by omega); clear hS hg2 hz2 q0; have hS := hS2; clear hS2; have s1 : w2.cell? ⟨w1.heap.size, 1, none⟩ = some (.int .i64 (⟨ep, 0, []⟩ : St).next) := hS.get rfl; have q0 := hB0.cell; have qT := hT1.cell; have lT := hT1.lt; have uS := hS.unf; have lS := hS.lt; have l0 := hB0.lt; clear s0)
              have t0 := (hT1.drew).get (j := 0) rfl
              have t1 := (hB0.drew).get (j := 1) rfl
              have u0 := (hT1.drew).lt
              try go_wp2_with fail
              go_still_tail 7, (by kernel_rfl)
              refine wpStill_load_blk rfl 95 _ rfl w1.heap.size (stCells (⟨ep, 0, []⟩ : St)) rfl (hS.drew) _ Try.underlying95 rfl size76 ?_
              repeat still_step
              try refine wpStill_nil ?_
              change wpList _ _ _ _ _ (w2.drew)
              go_wp2_with (refine wpList_mapUpdate_im rfl _ _ _ 86 rfl Try.underlying3 Try.underlying86 mb nn rfl (hMx.drew) (by omega) p rfl hpr (⟨ep, 0, []⟩ : St) rfl ?_; intro w5 hM5 hg5)
              go_ret
              refine ⟨ret_int (by rw [HF.out, if_neg (by simp; omega)]), ?_, gr_trg (gr_drew hgW) hg5⟩
              rw [HF.out, if_neg (by simp; omega), HN.out]
              exact hM5
          · by_cases hee : sp.epoch = ep
            · have HEE := Lib.hid hee
              have h1 : (sp.epoch != ep) = false := by simp [hee]
              clear hee
              replace HNS := Lib.hid (show noteSt (lookI m p) k ep s rs.length off = (if k = 1 then (⟨sp.epoch, sp.next + rs.length, sp.ds ++ [⟨s, rs.length, off⟩]⟩ : St) else sp) from by rw [HNS.out]; simp [HEE.out])
              have HLEN := Lib.hid HL.out.1
              have hx1 := HL.out.2.1
              have hx2 := HL.out.2.2
              by_cases hk : k = 1
              · have HN := Lib.hid (show noteSt (lookI m p) k ep s rs.length off = ⟨(sp).epoch, (sp).next + rs.length, (sp).ds ++ [⟨s, rs.length, off⟩]⟩ from by rw [HNS.out, if_pos hk])
                have hk1 : (k == 1) = true := by simpa using hk
                clear hk
                have s1 : wc.cell? ⟨w1.heap.size, 1, none⟩ = some (.int .i64 (sp).next) := hS.get rfl
                have q0 := hB0.cell
                have qT := hT1.cell
                have lT := hT1.lt
                have uS := hS.unf
                have lS := hS.lt
                have l0 := hB0.lt
                go_wp2_with fail
                refine (put_any ⟨(sp).epoch, (sp).next + rs.length, (sp).ds⟩ ⟨s, rs.length, off⟩ w1.heap.size _ ?_ HLEN.out).mono ?_
                · exact blk_eq (hS.set_same 1 _) (by simp [stCells])
                rintro e w3 ⟨rfl, hS3, hg3⟩
                have hM3 : IM Try.prog 3 w3 mb nn stV m := (hMx.setCell _ _).grown hg3 (by simp; omega)
                have hB3 := (hB0.set_ne (by simp; omega) _).grown hg3 (by simp; omega)
                have hT3 := (hT1.set_ne (by simp; omega) _).grown hg3 (by simp; omega)
                have hg4 : w.grownBy w3 (some mb) := gr_newx (gr_setNew hgW (by dsimp only; omega) _) hg3 (by omega)
                clear hS hB0 hT1 hMx hgW hg3 s1 q0 qT uS
                have t0 := (hT3.drew).get (j := 0) rfl
                have t1 := (hB3.drew).get (j := 1) rfl
                have u0 := (hT3.drew).lt
                try go_wp2_with fail
                go_still_tail 7, (by kernel_rfl)
                refine wpStill_load_blk rfl 95 _ rfl w1.heap.size (stCells (⟨(sp).epoch, (sp).next + (rs.length : Int), (sp).ds ++ [(⟨s, (rs.length : Int), off⟩ : Dn)]⟩ : St)) rfl (hS3.drew) _ Try.underlying95 rfl size76 ?_
                repeat still_step
                try refine wpStill_nil ?_
                change wpList _ _ _ _ _ (w3.drew)
                go_wp2_with (refine wpList_mapUpdate_im rfl _ _ _ 86 rfl Try.underlying3 Try.underlying86 mb nn rfl (hM3.drew) (by omega) p rfl hpr (⟨(sp).epoch, (sp).next + (rs.length : Int), (sp).ds ++ [(⟨s, (rs.length : Int), off⟩ : Dn)]⟩ : St) rfl ?_; intro w5 hM5 hg5)
                go_ret
                refine ⟨ret_int (by rw [HF.out, if_neg (by simp; omega)]), ?_, gr_trg (gr_drew hg4) hg5⟩
                rw [HF.out, if_neg (by simp; omega), HN.out]
                exact hM5
              · have HN := Lib.hid (show noteSt (lookI m p) k ep s rs.length off = sp from by rw [HNS.out, if_neg hk])
                have hk1 : (k == 1) = false := by simpa using hk
                clear hk
                have s1 : wc.cell? ⟨w1.heap.size, 1, none⟩ = some (.int .i64 (sp).next) := hS.get rfl
                have q0 := hB0.cell
                have qT := hT1.cell
                have lT := hT1.lt
                have uS := hS.unf
                have lS := hS.lt
                have l0 := hB0.lt
                go_wp2_with fail
                have t0 := (hT1.drew).get (j := 0) rfl
                have t1 := (hB0.drew).get (j := 1) rfl
                have u0 := (hT1.drew).lt
                try go_wp2_with fail
                go_still_tail 7, (by kernel_rfl)
                refine wpStill_load_blk rfl 95 _ rfl w1.heap.size (stCells sp) rfl (hS.drew) _ Try.underlying95 rfl size76 ?_
                repeat still_step
                try refine wpStill_nil ?_
                change wpList _ _ _ _ _ (wc.drew)
                go_wp2_with (refine wpList_mapUpdate_im rfl _ _ _ 86 rfl Try.underlying3 Try.underlying86 mb nn rfl (hMx.drew) (by omega) p rfl hpr sp rfl ?_; intro w5 hM5 hg5)
                go_ret
                refine ⟨ret_int (by rw [HF.out, if_neg (by simp; omega)]), ?_, gr_trg (gr_drew hgW) hg5⟩
                rw [HF.out, if_neg (by simp; omega), HN.out]
                exact hM5
            · have h1 : (sp.epoch != ep) = true := by simpa using hee
              replace HNS := Lib.hid (show noteSt (lookI m p) k ep s rs.length off = (if k = 1 then (⟨ep, 0 + rs.length, [] ++ [⟨s, rs.length, off⟩]⟩ : St) else ⟨ep, 0, []⟩) from by rw [HNS.out]; simp [hee])
              have HLEN := Lib.hid (show (⟨ep, 0, []⟩ : St).ds.length ≤ 4611686018427387904 from by simp)
              clear hee
              by_cases hk : k = 1
              · have HN := Lib.hid (show noteSt (lookI m p) k ep s rs.length off = ⟨((⟨ep, 0, []⟩ : St)).epoch, ((⟨ep, 0, []⟩ : St)).next + rs.length, ((⟨ep, 0, []⟩ : St)).ds ++ [⟨s, rs.length, off⟩]⟩ from by rw [HNS.out, if_pos hk])
                have hk1 : (k == 1) = true := by simpa using hk
                clear hk
                go_wp2_with fail
                have tt0 := hT1.drew.get (j := 0) rfl
                have tt1 := hB0.drew.get (j := 1) rfl
                go_still_tail 6, (by kernel_rfl)
                change wpList _ _ _ _ _ wc.drew
                go_wp2_with (first
                  | (refine wpList_delete_im rfl _ _ 86 rfl Try.underlying3 Try.underlying86 mb nn rfl hMx.drew p rfl hpr ?_; intro wd hMd hgd; have hB0 := hB0.drew.grown hgd (by simp; omega); have hT1 := hT1.drew.grown hgd (by simp; omega); have hS := hS.drew.grown hgd (by simp; omega); have hMx := hMd; have hgW := gr_trg (gr_drew hgW) hgd; have q0 := hB0.cell)
                  | (refine wpList_store_blk rfl 95 _ _ rfl w1.heap.size (stCells sp) (stCells ⟨ep, 0, []⟩) rfl rfl hS rfl size76 (by simp [stCells, Value.oneCell']) ?_; intro w2 hS2 hg2 hz2; replace hB0 := hB0.grown hg2 (by simp; omega); replace hT1 := hT1.grown hg2 (by simp; omega); replace hMx := hMx.grown hg2 (by simp; omega); replace hgW := gr_newx hgW hg2 (by omega); clear hS hg2 hz2 q0; have hS := hS2; clear hS2; have s1 : w2.cell? ⟨w1.heap.size, 1, none⟩ = some (.int .i64 (⟨ep, 0, []⟩ : St).next) := hS.get rfl; have q0 := hB0.cell; have qT := hT1.cell; have lT := hT1.lt; have uS := hS.unf; have lS := hS.lt; have l0 := hB0.lt))
                refine (put_any ⟨((⟨ep, 0, []⟩ : St)).epoch, ((⟨ep, 0, []⟩ : St)).next + rs.length, ((⟨ep, 0, []⟩ : St)).ds⟩ ⟨s, rs.length, off⟩ w1.heap.size _ ?_ HLEN.out).mono ?_
                · exact blk_eq (hS.set_same 1 _) (by simp [stCells])
                rintro e w3 ⟨rfl, hS3, hg3⟩
                have hM3 : IM Try.prog 3 w3 mb nn stV (delI m p) := (hMx.setCell _ _).grown hg3 (by simp; omega)
                have hB3 := (hB0.set_ne (by simp; omega) _).grown hg3 (by simp; omega)
                have hT3 := (hT1.set_ne (by simp; omega) _).grown hg3 (by simp; omega)
                have hg4 : w.grownBy w3 (some mb) := gr_newx (gr_setNew hgW (by dsimp only; omega) _) hg3 (by omega)
                clear hS hB0 hT1 hMx hgW hg3 s1 q0 qT uS
                have t0 := (hT3.drew).get (j := 0) rfl
                have t1 := (hB3.drew).get (j := 1) rfl
                have u0 := (hT3.drew).lt
                try go_wp2_with fail
                go_still_tail 7, (by kernel_rfl)
                refine wpStill_load_blk rfl 95 _ rfl w1.heap.size (stCells (⟨((⟨ep, 0, []⟩ : St)).epoch, ((⟨ep, 0, []⟩ : St)).next + (rs.length : Int), ((⟨ep, 0, []⟩ : St)).ds ++ [(⟨s, (rs.length : Int), off⟩ : Dn)]⟩ : St)) rfl (hS3.drew) _ Try.underlying95 rfl size76 ?_
                repeat still_step
                try refine wpStill_nil ?_
                change wpList _ _ _ _ _ (w3.drew)
                go_wp2_with (refine wpList_mapUpdate_im rfl _ _ _ 86 rfl Try.underlying3 Try.underlying86 mb nn rfl (hM3.drew) (by omega) p rfl hpr (⟨((⟨ep, 0, []⟩ : St)).epoch, ((⟨ep, 0, []⟩ : St)).next + (rs.length : Int), ((⟨ep, 0, []⟩ : St)).ds ++ [(⟨s, (rs.length : Int), off⟩ : Dn)]⟩ : St) rfl ?_; intro w5 hM5 hg5)
                go_ret
                refine ⟨ret_int (by rw [HF.out, if_neg (by simp; omega)]), ?_, gr_trg (gr_drew hg4) hg5⟩
                rw [HF.out, if_neg (by simp; omega), HN.out]
                exact putI_del m p _ ▸ hM5
              · have HN := Lib.hid (show noteSt (lookI m p) k ep s rs.length off = (⟨ep, 0, []⟩ : St) from by rw [HNS.out, if_neg hk])
                have hk1 : (k == 1) = false := by simpa using hk
                clear hk
                go_wp2_with fail
                have tt0 := hT1.drew.get (j := 0) rfl
                have tt1 := hB0.drew.get (j := 1) rfl
                go_still_tail 6, (by kernel_rfl)
                change wpList _ _ _ _ _ wc.drew
                go_wp2_with (first
                  | (refine wpList_delete_im rfl _ _ 86 rfl Try.underlying3 Try.underlying86 mb nn rfl hMx.drew p rfl hpr ?_; intro wd hMd hgd; have hB0 := hB0.drew.grown hgd (by simp; omega); have hT1 := hT1.drew.grown hgd (by simp; omega); have hS := hS.drew.grown hgd (by simp; omega); have hMx := hMd; have hgW := gr_trg (gr_drew hgW) hgd; have q0 := hB0.cell)
                  | (refine wpList_store_blk rfl 95 _ _ rfl w1.heap.size (stCells sp) (stCells ⟨ep, 0, []⟩) rfl rfl hS rfl size76 (by simp [stCells, Value.oneCell']) ?_; intro w2 hS2 hg2 hz2; replace hB0 := hB0.grown hg2 (by simp; omega); replace hT1 := hT1.grown hg2 (by simp; omega); replace hMx := hMx.grown hg2 (by simp; omega); replace hgW := gr_newx hgW hg2 (by omega); clear hS hg2 hz2 q0; have hS := hS2; clear hS2; have s1 : w2.cell? ⟨w1.heap.size, 1, none⟩ = some (.int .i64 (⟨ep, 0, []⟩ : St).next) := hS.get rfl; have q0 := hB0.cell; have qT := hT1.cell; have lT := hT1.lt; have uS := hS.unf; have lS := hS.lt; have l0 := hB0.lt))
                have t0 := (hT1.drew).get (j := 0) rfl
                have t1 := (hB0.drew).get (j := 1) rfl
                have u0 := (hT1.drew).lt
                try go_wp2_with fail
                go_still_tail 7, (by kernel_rfl)
                refine wpStill_load_blk rfl 95 _ rfl w1.heap.size (stCells (⟨ep, 0, []⟩ : St)) rfl (hS.drew) _ Try.underlying95 rfl size76 ?_
                repeat still_step
                try refine wpStill_nil ?_
                change wpList _ _ _ _ _ (w2.drew)
                go_wp2_with (refine wpList_mapUpdate_im rfl _ _ _ 86 rfl Try.underlying3 Try.underlying86 mb nn rfl (hMx.drew) (by omega) p rfl hpr (⟨ep, 0, []⟩ : St) rfl ?_; intro w5 hM5 hg5)
                go_ret
                refine ⟨ret_int (by rw [HF.out, if_neg (by simp; omega)]), ?_, gr_trg (gr_drew hgW) hg5⟩
                rw [HF.out, if_neg (by simp; omega), HN.out]
                exact putI_del m p _ ▸ hM5
    · subst he
      go_wp2_with fail
      go_ret
      exact ⟨ret_int (by rw [HF.out]; simp), by rw [HF.out]; simpa using hM1.mono (by omega), hg1⟩
  · go_wp2_with fail
    all_goals go_ret
    exact ⟨ret_int (by rw [HF.out]; simp [he]), by rw [HF.out]; simpa [he] using hM1.mono (by omega), hg1⟩
end Go.Proofs.Ytejjiiakficafaa
