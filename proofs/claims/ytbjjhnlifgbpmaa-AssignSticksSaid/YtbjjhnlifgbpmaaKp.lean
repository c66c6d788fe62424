/- Sticky's keep (25): a member keeps one that it had. -/
import Derived.Test.YtbjjhnlifgbpmaaEn
namespace Go.Proofs.Ytbjjhnlifgbpmaa
open Go.RowKit Go.Shelf
attribute [local go_sem] Oper.semAt_some

set_option maxRecDepth 100000 in
set_option maxHeartbeats 2000000 in
theorem keep_any (w : World) (B : Nat) (E : Env) (base rest : Int) (free dealt : Rw3) (hads : List Rw3) (outs : List Ou) (h : StS w B E base rest free.v free dealt hads outs) (i k : Nat) (p : Int) (hi : i < E.n) (hp : (hads.getD i default).l[k]? = some p)
    (hf : free.l.length ≤ 32) (ho : (outs.getD i default).r.l.length ≤ 1000) :
    Calls Try.prog 25 #[.int .i64 (i : Nat), .int .i64 (k : Nat), ptr E.bh, ptr E.bf, ptr E.bo] w fun e w' => e = .returned (.tuple #[]) ∧ ∃ r', r'.l = (outs.getD i default).r.l ++ [p] ∧
      StS w' B E base rest (Rw3.v ⟨free.A, free.c, free.l.erase p⟩) ⟨free.A, free.c, free.l.erase p⟩ dealt hads (outs.set i ⟨(outs.getD i default).m, r'⟩) ∧ Below B w w' := by
  obtain ⟨hm, hhl, hol, hnl⟩ := h
  have hih : i < hads.length := by omega
  have hio : i < outs.length := by omega
  rw [getD_get _ _ hih] at hp
  rw [getD_get _ _ hio] at ho ⊢
  have qbh := (hm.blk 4 _ _ rfl).cell
  have qbf := (hm.blk 2 _ _ rfl).cell
  have qbo := (hm.blk 5 _ _ rfl).cell
  have qH : w.cell? ⟨E.H, i, none⟩ = some hads[i].v := by
    have := (hm.blk 10 _ _ rfl).get (flat_get rwL_len hads i hih 0 (by omega))
    simpa using this
  have hrow := hm.row _ _ (rs_had hih)
  obtain ⟨hk, hpk⟩ := List.getElem?_eq_some_iff.1 hp
  obtain ⟨g, o, hA, hlt, hc⟩ := LAt.of_own encI_len (show w.ownsRow B 3 1 (.slice hads[i].A hads[i].l.length hads[i].c) _ _ from hrow) rfl k hk
  have qp := hc 0 _ rfl
  simp only [hpk, Nat.mul_one, Nat.add_zero] at qp
  simp only [Rw3.v, hA] at qH
  have hi0 : (0 : Int) ≤ (i : Int) := by omega
  have hk0 : (0 : Int) ≤ (k : Int) := by omega
  go_enter Try.func25, Try.ntmps25
  go_wp2_with fail
  have hDk : DeckAt w B E.Df free.A free.c free.l := ⟨hm.blk 8 _ _ rfl, hm.row _ _ (rs_free _ _ _ _), fun g' o' e => by
    intro e2; subst e2; exact hm.sep 0 8 _ _ _ (rs_free _ _ _ _) rfl (by simp [Rw3.b, e])⟩
  refine (take_any E.Df B free.A free.c free.l p w hDk (by omega)).mono ?_
  rintro e w2 ⟨rfl, ⟨hD2, hR2, _⟩, hfr⟩
  have hm2 := hm.turn (kD := 8) (kr := 0) (r' := ⟨free.A, free.c, free.l.erase p⟩) hfr rfl (rs_free _ _ _ _) (fun b hb => by rcases hb with e | ⟨a, e1, e2⟩; exact .inl e; exact .inr (by simp [Rw3.b, e1, e2])) hD2 hR2 rfl
  have hb2 : Below B w w2 := hfr.below (Below.refl _ _) (fun b hb => by rcases hb with e | ⟨a, e1, e2⟩; exact e ▸ hm.ge 8 _ _ rfl; exact (own_b (hm.row 0 _ (rs_free _ _ _ _)) (by simp [Rw3.b, e1, e2])).1) hm.bs
  clear hm hDk hD2 hR2 qbh qbf qbo qH qp hc hrow hfr
  rw [rs_set_free] at hm2
  have qbo := (hm2.blk 5 _ _ rfl).cell
  have qO : w2.cell? ⟨E.O, i * 2 + 1, none⟩ = some outs[i].r.v := (hm2.blk 11 _ _ rfl).get ((flat_get ouL_len outs i hio 1 (by omega)).trans rfl)
  have hro := Lib.hid (rs_out (free := ⟨free.A, free.c, free.l.erase p⟩) (dealt := dealt) (hads := hads) hio)
  generalize hou : outs[i] = ou at *
  obtain ⟨m0, Ao, co, lo⟩ := ou
  replace hou := Lib.hid hou
  dsimp only [Rw3.v] at qO ho
  have hRo := hm2.row _ _ hro.out
  obtain ⟨no, hno⟩ : ∃ no, lo.length = no := ⟨_, rfl⟩
  rw [hno] at qO ho
  dsimp only [Rw3.v] at hRo
  rw [hno] at hRo
  go_wp2_with fail
  refine anyBut.region rfl 12 (fun w' => w'.cell? ⟨E.bo, 0, none⟩ = some (.slice (some ⟨E.O, 0, none⟩) E.n E.n) ∧ w'.cell? ⟨E.O, i * 2 + 1, none⟩ = some (.slice Ao no co)) ?_
  obtain ⟨X, hX⟩ : ∃ X, w2.drew = X := ⟨_, rfl⟩
  have hMX := hX ▸ hm2.drew
  have hRX := hMX.row _ _ hro.out
  dsimp only [Rw3.v] at hRX
  rw [hno] at hRX
  have hBX := hMX.bs
  have hbX : Below B w X := hX ▸ Below.drew hb2
  have lbo : E.bo < X.heap.size := hMX.lt (k := 5) rfl
  have lO : E.O < X.heap.size := hMX.lt (k := 11) rfl
  have hS0 : X.cell? ⟨E.bo, 0, none⟩ = some (.slice (some ⟨E.O, 0, none⟩) E.n E.n) ∧ X.cell? ⟨E.O, i * 2 + 1, none⟩ = some (.slice Ao no co) := ⟨by rw [← hX]; exact qbo 0, by rw [← hX]; exact qO⟩
  have hSa : ∀ w', Below X.heap.size X w' → w'.cell? ⟨E.bo, 0, none⟩ = some (.slice (some ⟨E.O, 0, none⟩) E.n E.n) ∧ w'.cell? ⟨E.O, i * 2 + 1, none⟩ = some (.slice Ao no co) := fun w' hb => ⟨(hb.cell (p := ⟨E.bo, 0, none⟩) lbo).trans hS0.1, (hb.cell (p := ⟨E.O, _, none⟩) lO).trans hS0.2⟩
  have hsep1 : (Ao.map (·.block)) ≠ some E.bo := hMX.sep _ 5 _ _ _ hro.out rfl
  have hsep2 : (Ao.map (·.block)) ≠ some E.O := hMX.sep _ 11 _ _ _ hro.out rfl
  have hSg : ∀ w' w'', Below X.heap.size X w' → w'.grownBy w'' (Ao.map (·.block)) → w''.cell? ⟨E.bo, 0, none⟩ = some (.slice (some ⟨E.O, 0, none⟩) E.n E.n) ∧ w''.cell? ⟨E.O, i * 2 + 1, none⟩ = some (.slice Ao no co) := fun w' w'' hb hg =>
    ⟨(World.cell?_of_block (w := w') (a := ⟨E.bo, 0, none⟩) (hg.block _ (Nat.lt_of_lt_of_le lbo hb.size) (fun e => hsep1 e.symm))).trans (hSa w' hb).1, (World.cell?_of_block (w := w') (a := ⟨E.O, _, none⟩) (hg.block _ (Nat.lt_of_lt_of_le lO hb.size) (fun e => hsep2 e.symm))).trans (hSa w' hb).2⟩
  rw [hX]
  clear hX hm2 qbo qO hRo hb2
  try simp only [List.setIfInBounds_toArray, List.set_cons_zero, List.set_cons_succ]
  refine anyBut.takeW (i := 0) (t := 18) (v := (.slice (some ⟨E.O, 0, none⟩) E.n E.n)) (by kernel_rfl) rfl rfl (by decide +kernel) (by decide +kernel) (by decide +kernel) (fun _ _ _ h => h.elim) (.inl ⟨rfl, fun w' hS => ?_⟩) hS0 ?_
  · have z0 := hS.1
    go_simp
  try simp only [List.setIfInBounds_toArray, List.set_cons_zero, List.set_cons_succ]
  refine anyBut.takeW (i := 1) (t := 19) (v := (.int .i64 (i : Nat))) (by kernel_rfl) rfl rfl (by decide +kernel) (by decide +kernel) (by decide +kernel) (fun _ _ _ h => h.elim) (.inl ⟨rfl, fun w' hS => ?_⟩) hS0 ?_
  · go_simp
  try simp only [List.setIfInBounds_toArray, List.set_cons_zero, List.set_cons_succ]
  refine anyBut.takeW (i := 2) (t := 20) (v := (.slice (some ⟨E.O, 0, none⟩) E.n E.n)) (by kernel_rfl) rfl rfl (by decide +kernel) (by decide +kernel) (by decide +kernel) (fun _ _ _ h => h.elim) (.inl ⟨rfl, fun w' hS => ?_⟩) hS0 ?_
  · have z0 := hS.1
    go_simp
  try simp only [List.setIfInBounds_toArray, List.set_cons_zero, List.set_cons_succ]
  refine anyBut.takeW (i := 3) (t := 21) (v := (.int .i64 (i : Nat))) (by kernel_rfl) rfl rfl (by decide +kernel) (by decide +kernel) (by decide +kernel) (fun _ _ _ h => h.elim) (.inl ⟨rfl, fun w' hS => ?_⟩) hS0 ?_
  · go_simp
  try simp only [List.setIfInBounds_toArray, List.set_cons_zero, List.set_cons_succ]
  refine anyBut.takeW (i := 4) (t := 22) (v := (.pointer (some ⟨E.O, i * 2, none⟩))) (by kernel_rfl) rfl rfl (by decide +kernel) (by decide +kernel) (by decide +kernel) (fun _ _ _ h => h.elim) (.inl ⟨rfl, fun w' hS => ?_⟩) hS0 ?_
  · go_simp
  try simp only [List.setIfInBounds_toArray, List.set_cons_zero, List.set_cons_succ]
  refine anyBut.takeW (i := 5) (t := 23) (v := (.pointer (some ⟨E.O, i * 2 + 1, none⟩))) (by kernel_rfl) rfl rfl (by decide +kernel) (by decide +kernel) (by decide +kernel) (fun _ _ _ h => h.elim) (.inl ⟨rfl, fun w' hS => ?_⟩) hS0 ?_
  · go_simp
  try simp only [List.setIfInBounds_toArray, List.set_cons_zero, List.set_cons_succ]
  refine anyBut.takeW (i := 6) (t := 24) (v := (.slice Ao no co)) (by kernel_rfl) rfl rfl (by decide +kernel) (by decide +kernel) (by decide +kernel) (fun _ _ _ h => h.elim) (.inl ⟨rfl, fun w' hS => ?_⟩) hS0 ?_
  · have z0 := hS.2
    go_simp
  try simp only [List.setIfInBounds_toArray, List.set_cons_zero, List.set_cons_succ]
  refine anyBut.takeW (i := 7) (t := 25) (v := (.int .i64 p)) (by kernel_rfl) rfl rfl (by decide +kernel) (by decide +kernel) (by decide +kernel) (fun _ _ _ h => h.elim) (.inl ⟨rfl, fun w' hS => ?_⟩) hS0 ?_
  · go_simp
  try simp only [List.setIfInBounds_toArray, List.set_cons_zero, List.set_cons_succ]
  refine anyBut.one (i := 8) (by decide +kernel) rfl rfl ?_
  refine wp_oneI (.tmp 25) rfl p rfl 26 rfl ?_
  refine ⟨.inr (hSa _ (bl_alloc (Below.refl _ _) _)), ?_⟩
  try simp only [List.setIfInBounds_toArray, List.set_cons_zero, List.set_cons_succ]
  refine anyBut.one (i := 9) (by decide +kernel) rfl rfl ?_
  refine wp_appI (.tmp 24) (.tmp 26) rfl B Ao no co lo p X.heap.size rfl (hRX.alloc _) rfl ((Blk.new' (w := X) #[.int .i64 p] 3 rfl).get rfl) (by omega) (by simp; exact Nat.le_succ_of_le hBX) 27 rfl ?_
  intro A3 c3 w4 hown4 hg4 hat4
  refine ⟨.inr (hSg _ _ (bl_alloc (Below.refl _ _) _) hg4), ?_⟩
  try simp only [List.setIfInBounds_toArray, List.set_cons_zero, List.set_cons_succ]
  have hS4 := hSg _ _ (bl_alloc (Below.refl _ _) (.cells #[.int .i64 p] 3)) hg4
  try simp only [List.setIfInBounds_toArray, List.set_cons_zero, List.set_cons_succ]
  refine anyBut.oneT (i := 10) (t := 28) (v := (.pointer (some ⟨E.O, i * 2, none⟩))) (by decide +kernel) rfl rfl (.inl ⟨rfl, fun w' hS => ?_⟩) hS4 ?_
  · go_simp
  try simp only [List.setIfInBounds_toArray, List.set_cons_zero, List.set_cons_succ]
  refine anyBut.oneT (i := 11) (t := 29) (v := (.pointer (some ⟨E.O, i * 2 + 1, none⟩))) (by decide +kernel) rfl rfl (.inl ⟨rfl, fun w' hS => ?_⟩) hS4 ?_
  · go_simp
  have hM4 := (hMX.alloc (.cells #[.int .i64 p] 3)).upd (r' := ⟨A3, c3, lo ++ [p]⟩) hro.out hg4 (by simpa [hno, Rw3.v] using hown4) hat4
  refine anyBut.one (i := 12) (by decide +kernel) rfl rfl ?_
  refine wp_store_one 37 (.tmp 29) (.tmp 27) rfl (b := E.O) (k := i * 2 + 1) rfl rfl rfl rfl (by kernel_rfl) ?_ ?_ ?_
  · rw [hS4.2]; rfl
  · exact (hM4.blk 11 _ _ rfl).unf _
  refine ⟨.inl rfl, anyBut.done (by decide +kernel) ?_ _⟩
  refine NoPanic.normal ?_
  have hfin := hM4.set (k := 11) (b := E.O) rfl (i * 2 + 1) (.slice A3 (no + 1) c3)
  have hb4 : Below B w (w4.setCell ⟨E.O, i * 2 + 1, none⟩ (.slice A3 (no + 1) c3)) := bl_set'' (Below.grown (Below.alloc hbX hBX _) hg4 (by simp; omega) (fun g hg => (own_b (hMX.row _ _ hro.out) hg).1)) (hMX.ge 11 _ _ rfl) _
  go_wp2_with fail
  go_end0
  refine ⟨rfl, ⟨A3, c3, lo ++ [p]⟩, by simp [hou.out], ⟨?_, hhl, by simpa using hol, hnl⟩, hb4⟩
  have e1 := flat_set ouL_len (⟨m0, ⟨A3, c3, lo ++ [p]⟩⟩ : Ou) (.slice A3 (no + 1) c3) outs i hio 1 (by omega) (by rw [hou.out]; simp [ouL, Rw3.v, hno])
  rw [rs_set_out ⟨m0, ⟨A3, c3, lo ++ [p]⟩⟩] at hfin
  simp only [Env.fx, List.set_cons_zero, List.set_cons_succ] at hfin ⊢
  rw [e1] at hfin
  simp only [hou.out]
  simpa [Rw3.v] using hfin
end Go.Proofs.Ytbjjhnlifgbpmaa
