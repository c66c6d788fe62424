/- Sticky's get (27): a member gets the lowest free one. -/
import Derived.Test.YtbjjhnlifgbpmaaKp
namespace Go.Proofs.Ytbjjhnlifgbpmaa
open Go.RowKit Go.Shelf
attribute [local go_sem] Oper.semAt_some

/-- The free ones are dealt off the top: where they lie. -/
structure DL (w : World) (free : Rw3) (A : Option Addr) (c : Nat) (fl : List Int) : Prop where
  lat : LAt w A 1 encI fl
  le : fl.length ≤ c
  bk : ∀ g o, A = some ⟨g, o, none⟩ → free.b = some g
/-- Sticky's memory while the free ones fl are dealt off the top. -/
def StL (w : World) (B : Nat) (E : Env) (base rest : Int) (free dealt : Rw3) (hads : List Rw3) (outs : List Ou) (fl : List Int) : Prop :=
  ∃ A c, StS w B E base rest (.slice A fl.length c) free dealt hads outs ∧ DL w free A c fl

set_option maxRecDepth 100000 in
set_option maxHeartbeats 2000000 in
theorem get_none (w : World) (B : Nat) (E : Env) (base rest : Int) (free dealt : Rw3) (hads : List Rw3) (outs : List Ou) (h : StL w B E base rest free dealt hads outs []) (i : Nat) :
    Calls Try.prog 27 #[.int .i64 (i : Nat), ptr E.bf, ptr E.bo] w fun e w' => e = .returned (.bool false) ∧ w' = w := by
  obtain ⟨A, c, ⟨hm, hhl, hol, hnl⟩, hd⟩ := h
  have qbf := (hm.blk 2 _ _ rfl).cell
  have hDk : DeckL w E.Df A c [] := ⟨hm.blk 8 _ _ rfl, hd.lat, hd.le, fun g o e e2 => by subst e2; exact hm.sep 0 8 _ _ _ (rs_free _ _ _ _) rfl (hd.bk _ _ e)⟩
  go_enter Try.func27, Try.ntmps27
  go_wp2_with (go_at_call 28; refine (top_none E.Df A c w hDk).mono ?_; rintro e w' ⟨rfl, rfl⟩)
  go_ret
  exact ⟨rfl, rfl⟩

set_option maxRecDepth 100000 in
set_option maxHeartbeats 2000000 in
theorem get_some (w : World) (B : Nat) (E : Env) (base rest : Int) (free dealt : Rw3) (hads : List Rw3) (outs : List Ou) (p : Int) (fl : List Int) (h : StL w B E base rest free dealt hads outs (p :: fl)) (i : Nat) (hi : i < E.n)
    (hf : fl.length ≤ 32) (ho : (outs.getD i default).r.l.length ≤ 1000) :
    Calls Try.prog 27 #[.int .i64 (i : Nat), ptr E.bf, ptr E.bo] w fun e w' => e = .returned (.bool true) ∧ ∃ r', r'.l = (outs.getD i default).r.l ++ [p] ∧
      StL w' B E base rest free dealt hads (outs.set i ⟨(outs.getD i default).m, r'⟩) fl ∧ Below B w w' := by
  obtain ⟨A, c, ⟨hm, hhl, hol, hnl⟩, hd⟩ := h
  have hio : i < outs.length := by omega
  rw [getD_get _ _ hio] at ho ⊢
  have qbf := (hm.blk 2 _ _ rfl).cell
  have hi0 : (0 : Int) ≤ (i : Int) := by omega
  have hDk : DeckL w E.Df A c (p :: fl) := ⟨hm.blk 8 _ _ rfl, hd.lat, hd.le, fun g o e e2 => by subst e2; exact hm.sep 0 8 _ _ _ (rs_free _ _ _ _) rfl (hd.bk _ _ e)⟩
  go_enter Try.func27, Try.ntmps27
  go_wp2_with fail
  refine (top_some E.Df A c p fl w hDk (by omega)).mono ?_
  rintro e w2 ⟨rfl, A', c', ⟨hB2, hL2, hc2, _⟩, hA2, hfr⟩
  have hm2 := hm.turn (kD := 8) (kr := 0) (r' := free) hfr rfl (rs_free _ _ _ _) (fun b hb => .inl hb) hB2 (hfr.own (hm.row 0 _ (rs_free _ _ _ _)) fun g hg e => by rw [v_own] at hg; subst e; exact hm.sep 0 8 _ _ _ (rs_free _ _ _ _) rfl hg) rfl
  have hb2 : Below B w w2 := hfr.below (Below.refl _ _) (fun b hb => hb ▸ hm.ge 8 _ _ rfl) hm.bs
  have hdk : ∀ g o, A' = some ⟨g, o, none⟩ → free.b = some g := fun g o e => by obtain ⟨o', e'⟩ := hA2 g o e; exact hd.bk _ _ e'
  clear hm hd hDk hB2 qbf hfr hA2
  rw [rs_set_free] at hm2
  have qbo := (hm2.blk 5 _ _ rfl).cell
  have qO : w2.cell? ⟨E.O, i * 2 + 1, none⟩ = some outs[i].r.v := (hm2.blk 11 _ _ rfl).get ((flat_get ouL_len outs i hio 1 (by omega)).trans rfl)
  have hro := Lib.hid (rs_out (free := free) (dealt := dealt) (hads := hads) hio)
  generalize hou : outs[i] = ou at *
  obtain ⟨m0, Ao, co, lo⟩ := ou
  replace hou := Lib.hid hou
  dsimp only [Rw3.v] at qO ho
  have hRo := hm2.row _ _ hro.out
  obtain ⟨no, hno⟩ : ∃ no, lo.length = no := ⟨_, rfl⟩
  rw [hno] at qO ho
  dsimp only [Rw3.v] at hRo
  rw [hno] at hRo
  go_wp2_with fail
  refine anyBut.region rfl 12 (fun w' => w'.cell? ⟨E.bo, 0, none⟩ = some (.slice (some ⟨E.O, 0, none⟩) E.n E.n) ∧ w'.cell? ⟨E.O, i * 2 + 1, none⟩ = some (.slice Ao no co)) ?_
  obtain ⟨X, hX⟩ : ∃ X, w2.drew = X := ⟨_, rfl⟩
  have hMX := hX ▸ hm2.drew
  have hRX := hMX.row _ _ hro.out
  dsimp only [Rw3.v] at hRX
  rw [hno] at hRX
  have hBX := hMX.bs
  have hbX : Below B w X := hX ▸ Below.drew hb2
  have hLX : LAt X A' 1 encI fl := hX ▸ hL2
  have lbo : E.bo < X.heap.size := hMX.lt (k := 5) rfl
  have lO : E.O < X.heap.size := hMX.lt (k := 11) rfl
  have hS0 : X.cell? ⟨E.bo, 0, none⟩ = some (.slice (some ⟨E.O, 0, none⟩) E.n E.n) ∧ X.cell? ⟨E.O, i * 2 + 1, none⟩ = some (.slice Ao no co) := ⟨by rw [← hX]; exact qbo 0, by rw [← hX]; exact qO⟩
  have hSa : ∀ w', Below X.heap.size X w' → w'.cell? ⟨E.bo, 0, none⟩ = some (.slice (some ⟨E.O, 0, none⟩) E.n E.n) ∧ w'.cell? ⟨E.O, i * 2 + 1, none⟩ = some (.slice Ao no co) := fun w' hb => ⟨(hb.cell (p := ⟨E.bo, 0, none⟩) lbo).trans hS0.1, (hb.cell (p := ⟨E.O, _, none⟩) lO).trans hS0.2⟩
  have hsep1 : (Ao.map (·.block)) ≠ some E.bo := hMX.sep _ 5 _ _ _ hro.out rfl
  have hsep2 : (Ao.map (·.block)) ≠ some E.O := hMX.sep _ 11 _ _ _ hro.out rfl
  have hSg : ∀ w' w'', Below X.heap.size X w' → w'.grownBy w'' (Ao.map (·.block)) → w''.cell? ⟨E.bo, 0, none⟩ = some (.slice (some ⟨E.O, 0, none⟩) E.n E.n) ∧ w''.cell? ⟨E.O, i * 2 + 1, none⟩ = some (.slice Ao no co) := fun w' w'' hb hg =>
    ⟨(World.cell?_of_block (w := w') (a := ⟨E.bo, 0, none⟩) (hg.block _ (Nat.lt_of_lt_of_le lbo hb.size) (fun e => hsep1 e.symm))).trans (hSa w' hb).1, (World.cell?_of_block (w := w') (a := ⟨E.O, _, none⟩) (hg.block _ (Nat.lt_of_lt_of_le lO hb.size) (fun e => hsep2 e.symm))).trans (hSa w' hb).2⟩
  rw [hX]
  clear hX hm2 qbo qO hRo hb2
  try simp only [List.setIfInBounds_toArray, List.set_cons_zero, List.set_cons_succ]
  refine anyBut.takeW (i := 0) (t := 13) (v := (.slice (some ⟨E.O, 0, none⟩) E.n E.n)) (by kernel_rfl) rfl rfl (by decide +kernel) (by decide +kernel) (by decide +kernel) (fun _ _ _ h => h.elim) (.inl ⟨rfl, fun w' hS => ?_⟩) hS0 ?_
  · have z0 := hS.1
    go_simp
  try simp only [List.setIfInBounds_toArray, List.set_cons_zero, List.set_cons_succ]
  refine anyBut.takeW (i := 1) (t := 14) (v := (.int .i64 (i : Nat))) (by kernel_rfl) rfl rfl (by decide +kernel) (by decide +kernel) (by decide +kernel) (fun _ _ _ h => h.elim) (.inl ⟨rfl, fun w' hS => ?_⟩) hS0 ?_
  · go_simp
  try simp only [List.setIfInBounds_toArray, List.set_cons_zero, List.set_cons_succ]
  refine anyBut.takeW (i := 2) (t := 15) (v := (.slice (some ⟨E.O, 0, none⟩) E.n E.n)) (by kernel_rfl) rfl rfl (by decide +kernel) (by decide +kernel) (by decide +kernel) (fun _ _ _ h => h.elim) (.inl ⟨rfl, fun w' hS => ?_⟩) hS0 ?_
  · have z0 := hS.1
    go_simp
  try simp only [List.setIfInBounds_toArray, List.set_cons_zero, List.set_cons_succ]
  refine anyBut.takeW (i := 3) (t := 16) (v := (.int .i64 (i : Nat))) (by kernel_rfl) rfl rfl (by decide +kernel) (by decide +kernel) (by decide +kernel) (fun _ _ _ h => h.elim) (.inl ⟨rfl, fun w' hS => ?_⟩) hS0 ?_
  · go_simp
  try simp only [List.setIfInBounds_toArray, List.set_cons_zero, List.set_cons_succ]
  refine anyBut.takeW (i := 4) (t := 17) (v := (.pointer (some ⟨E.O, i * 2, none⟩))) (by kernel_rfl) rfl rfl (by decide +kernel) (by decide +kernel) (by decide +kernel) (fun _ _ _ h => h.elim) (.inl ⟨rfl, fun w' hS => ?_⟩) hS0 ?_
  · go_simp
  try simp only [List.setIfInBounds_toArray, List.set_cons_zero, List.set_cons_succ]
  refine anyBut.takeW (i := 5) (t := 18) (v := (.pointer (some ⟨E.O, i * 2 + 1, none⟩))) (by kernel_rfl) rfl rfl (by decide +kernel) (by decide +kernel) (by decide +kernel) (fun _ _ _ h => h.elim) (.inl ⟨rfl, fun w' hS => ?_⟩) hS0 ?_
  · go_simp
  try simp only [List.setIfInBounds_toArray, List.set_cons_zero, List.set_cons_succ]
  refine anyBut.takeW (i := 6) (t := 19) (v := (.slice Ao no co)) (by kernel_rfl) rfl rfl (by decide +kernel) (by decide +kernel) (by decide +kernel) (fun _ _ _ h => h.elim) (.inl ⟨rfl, fun w' hS => ?_⟩) hS0 ?_
  · have z0 := hS.2
    go_simp
  try simp only [List.setIfInBounds_toArray, List.set_cons_zero, List.set_cons_succ]
  refine anyBut.takeW (i := 7) (t := 20) (v := (.int .i64 p)) (by kernel_rfl) rfl rfl (by decide +kernel) (by decide +kernel) (by decide +kernel) (fun _ _ _ h => h.elim) (.inl ⟨rfl, fun w' hS => ?_⟩) hS0 ?_
  · go_simp
  try simp only [List.setIfInBounds_toArray, List.set_cons_zero, List.set_cons_succ]
  refine anyBut.one (i := 8) (by decide +kernel) rfl rfl ?_
  refine wp_oneI (.tmp 20) rfl p rfl 21 rfl ?_
  refine ⟨.inr (hSa _ (bl_alloc (Below.refl _ _) _)), ?_⟩
  try simp only [List.setIfInBounds_toArray, List.set_cons_zero, List.set_cons_succ]
  refine anyBut.one (i := 9) (by decide +kernel) rfl rfl ?_
  refine wp_appI (.tmp 19) (.tmp 21) rfl B Ao no co lo p X.heap.size rfl (hRX.alloc _) rfl ((Blk.new' (w := X) #[.int .i64 p] 3 rfl).get rfl) (by omega) (by simp; exact Nat.le_succ_of_le hBX) 22 rfl ?_
  intro A3 c3 w4 hown4 hg4 hat4
  refine ⟨.inr (hSg _ _ (bl_alloc (Below.refl _ _) _) hg4), ?_⟩
  try simp only [List.setIfInBounds_toArray, List.set_cons_zero, List.set_cons_succ]
  have hS4 := hSg _ _ (bl_alloc (Below.refl _ _) (.cells #[.int .i64 p] 3)) hg4
  try simp only [List.setIfInBounds_toArray, List.set_cons_zero, List.set_cons_succ]
  refine anyBut.oneT (i := 10) (t := 23) (v := (.pointer (some ⟨E.O, i * 2, none⟩))) (by decide +kernel) rfl rfl (.inl ⟨rfl, fun w' hS => ?_⟩) hS4 ?_
  · go_simp
  try simp only [List.setIfInBounds_toArray, List.set_cons_zero, List.set_cons_succ]
  refine anyBut.oneT (i := 11) (t := 24) (v := (.pointer (some ⟨E.O, i * 2 + 1, none⟩))) (by decide +kernel) rfl rfl (.inl ⟨rfl, fun w' hS => ?_⟩) hS4 ?_
  · go_simp
  have hM4 := (hMX.alloc (.cells #[.int .i64 p] 3)).upd (r' := ⟨A3, c3, lo ++ [p]⟩) hro.out hg4 (by simpa [hno, Rw3.v] using hown4) hat4
  refine anyBut.one (i := 12) (by decide +kernel) rfl rfl ?_
  refine wp_store_one 37 (.tmp 24) (.tmp 22) rfl (b := E.O) (k := i * 2 + 1) rfl rfl rfl rfl (by kernel_rfl) ?_ ?_ ?_
  · rw [hS4.2]; rfl
  · exact (hM4.blk 11 _ _ rfl).unf _
  refine ⟨.inl rfl, anyBut.done (by decide +kernel) ?_ _⟩
  refine NoPanic.normal ?_
  have hfin := hM4.set (k := 11) (b := E.O) rfl (i * 2 + 1) (.slice A3 (no + 1) c3)
  have hb4 : Below B w (w4.setCell ⟨E.O, i * 2 + 1, none⟩ (.slice A3 (no + 1) c3)) := bl_set'' (Below.grown (Below.alloc hbX hBX _) hg4 (by simp; omega) (fun g hg => (own_b (hMX.row _ _ hro.out) hg).1)) (hMX.ge 11 _ _ rfl) _
  have hfreeg : ∀ g, free.b = some g → (w4.setCell ⟨E.O, i * 2 + 1, none⟩ (.slice A3 (no + 1) c3)).heap[g]? = X.heap[g]? := fun g hg => by
    have hl := (own_b (hMX.row 0 _ (rs_free _ _ _ _)) hg).2
    have h1 : g ≠ E.O := fun e => by subst e; exact hMX.sep 0 11 _ _ _ (rs_free _ _ _ _) rfl hg
    have h2 : some g ≠ Ao.map (·.block) := fun e => by have := hMX.dis 0 _ _ _ g (rs_free _ _ _ _) hro.out hg e.symm; omega
    rw [Below.heap_setCell _ _ _ _ h1, hg4.block g (by simp; omega) h2]
    exact Below.heap_alloc X _ g hl
  have hL5 : LAt (w4.setCell ⟨E.O, i * 2 + 1, none⟩ (.slice A3 (no + 1) c3)) A' 1 encI fl := fun j hj => by
    obtain ⟨b, o, e, hlt, hc⟩ := hLX j hj
    have hg := hfreeg b (hdk b o e)
    have hlt2 : b < (w4.setCell ⟨E.O, i * 2 + 1, none⟩ (.slice A3 (no + 1) c3)).heap.size := by
      rw [Array.getElem?_eq_getElem hlt] at hg
      exact (Array.getElem?_eq_some_iff.1 hg).1
    exact ⟨b, o, e, hlt2, fun k u hu => (World.cell?_of_block (w := X) (a := ⟨b, _, none⟩) hg).trans (hc k u hu)⟩
  go_wp2_with fail
  go_ret
  refine ⟨rfl, ⟨A3, c3, lo ++ [p]⟩, by simp [hou.out], ⟨A', c', ⟨?_, hhl, by simpa using hol, hnl⟩, hL5, hc2, hdk⟩, hb4⟩
  have e1 := flat_set ouL_len (⟨m0, ⟨A3, c3, lo ++ [p]⟩⟩ : Ou) (.slice A3 (no + 1) c3) outs i hio 1 (by omega) (by rw [hou.out]; simp [ouL, Rw3.v, hno])
  rw [rs_set_out ⟨m0, ⟨A3, c3, lo ++ [p]⟩⟩] at hfin
  simp only [Env.fx, List.set_cons_zero, List.set_cons_succ] at hfin ⊢
  rw [e1] at hfin
  simp only [hou.out]
  simpa [Rw3.v] using hfin
end Go.Proofs.Ytbjjhnlifgbpmaa
