/- Sticky's closures: one more for some; the lowest free ones for those that have too few. -/
import Derived.Test.YtbjjhnlifgbpmaaCl
import Derived.Deep.RegionWith
namespace Go.Proofs.Ytbjjhnlifgbpmaa
open Go.RowKit Go.Shelf
attribute [local go_sem] Oper.semAt_some

section
variable {w : World} {B : Nat} {E : Env} {base rest : Nat} {f dl : List Int} {hl : List (List Int)} {ms : List ByteArray} {os : List (List Int)}
theorem StP.setRest (h : StP w B E base rest f dl hl ms os) (rest' : Nat) : StP (w.setCell ⟨E.br, 0, none⟩ (.int .i64 (rest' : Nat))) B E base rest' f dl hl ms os := by
  obtain ⟨free, dealt, hads, outs, ⟨hm, h1, h2, h3⟩, r⟩ := h
  exact ⟨free, dealt, hads, outs, ⟨hm.set (k := 1) rfl 0 _, h1, h2, h3⟩, r⟩
theorem StP.ge (h : StP w B E base rest f dl hl ms os) : B ≤ E.br ∧ B ≤ w.heap.size := by
  obtain ⟨free, dealt, hads, outs, ⟨hm, h1, h2, h3⟩, r⟩ := h
  exact ⟨hm.ge 1 _ _ rfl, hm.bs⟩
theorem StQ.len (h : StQ w B E base rest f dl hl ms os) : hl.length = E.n ∧ os.length = E.n ∧ ms.length = E.n ∧ E.n ≤ 1000 := by
  obtain ⟨free, dealt, hads, outs, ⟨A, c, hS, hd⟩, rfl, rfl, rfl, rfl⟩ := h
  exact ⟨by simpa using hS.hl, by simpa using hS.ol, by simpa using hS.ol, hS.nl⟩
theorem StQ.boxes (h : StQ w B E base rest f dl hl ms os) :
    Blk w E.bb [.int .i64 (base : Nat)] ∧ Blk w E.bo [.slice (some ⟨E.O, 0, none⟩) E.n E.n] ∧ Blk w E.bg [.func (.func 27) #[] #[ptr E.bf, ptr E.bo]] ∧ ∀ i, i < E.n → ∃ A c, w.cell? ⟨E.O, i * 2 + 1, none⟩ = some (.slice A (os.getD i []).length c) := by
  obtain ⟨free, dealt, hads, outs, ⟨A, c, ⟨hm, h1, h2, h3⟩, hd⟩, rfl, rfl, rfl, rfl⟩ := h
  refine ⟨hm.blk 0 _ _ rfl, hm.blk 5 _ _ rfl, hm.blk 7 _ _ rfl, fun i hi => ?_⟩
  have hio : i < outs.length := by omega
  have := (hm.blk 11 _ _ rfl).get (flat_get ouL_len outs i hio 1 (by omega))
  refine ⟨outs[i].r.A, outs[i].r.c, ?_⟩
  rw [map_getD (fun o : Ou => o.r.l) outs i hio, getD_get _ _ hio]
  simpa [Rw3.v] using this
theorem StQ.drewN (h : StQ w B E base rest f dl hl ms os) (n : Nat) : StQ (w.drewN n) B E base rest f dl hl ms os := by
  obtain ⟨free, dealt, hads, outs, ⟨A, c, ⟨hm, h1, h2, h3⟩, hd⟩, r⟩ := h
  exact ⟨free, dealt, hads, outs, ⟨A, c, ⟨hm.below (bl_drewN (Below.refl _ _) n), h1, h2, h3⟩, hd.lat.below (bl_drewN (Below.refl _ _) n), hd.le, hd.bk⟩, r⟩
end

set_option maxRecDepth 100000 in
set_option maxHeartbeats 2000000 in
theorem step3_yes (w : World) (B : Nat) (E : Env) (base rest : Nat) (f dl : List Int) (hl : List (List Int)) (ms : List ByteArray) (os : List (List Int)) (h : StP w B E base (rest + 1) f dl hl ms os) (i : Nat) (hi : i < E.n) (hf : f.length ≤ 32) (ho : (os.getD i []).length ≤ 500)
    (hr : rest ≤ 1000) (p : Int) (hp : (hl.getD i [])[base]? = some p) :
    Calls Try.prog 33 #[.int .i64 (i : Nat), ptr E.bh, ptr E.bb, ptr E.br, ptr E.bk] w fun e w' => e = .returned (.tuple #[]) ∧ StP w' B E base rest (f.erase p) dl hl ms (os.set i (os.getD i [] ++ [p])) ∧ Below B w w' := by
  obtain ⟨hll, hol, hml, hnl⟩ := h.len
  obtain ⟨b2, b3, b4, -, b6, -, bH, -⟩ := h.boxes
  obtain ⟨Ah, ch, qH⟩ := bH i hi
  have q2 := b2.cell
  have q3 := b3.cell
  have u3 := b3.unf
  have q4 := b4.cell
  have q6 := b6.cell
  have hi0 : (0 : Int) ≤ (i : Int) := by omega
  have hpl : base < (hl.getD i []).length := (List.getElem?_eq_some_iff.1 hp).1
  replace hp := Lib.hid hp
  have hz : (((rest + 1 : Nat) : Int)) = (rest : Int) + 1 := by omega
  generalize hg : hl.getD i [] = L at *
  have hgh := Lib.hid hg
  clear hg bH
  have d1 : decide (base < L.length) = true := by rw [decide_eq_true_eq]; exact hpl
  have d2 : decide ((0 : Int) < (rest : Int) + 1) = true := by rw [decide_eq_true_eq]; omega
  have hge := h.ge
  replace h := Lib.hid h
  rw [hz] at q3
  go_enter Try.func33, Try.ntmps33
  go_wp2_with fail
  go_quiet (fail)
  go_upto_region 2 with fail
  have hS1 := (h.out.drewN nq).setRest rest
  obtain ⟨c2, -, -, -, c6, -, -, -⟩ := hS1.boxes
  have r2 := c2.cell
  have r6 := c6.cell
  have hk1 := Lib.hid (keepP_any hS1 i base p hi (by rw [hgh.out]; exact hp.out) hf (by omega))
  have hb1 : Below B w ((w.drewN nq).setCell ⟨E.br, 0, none⟩ (.int .i64 (rest : Nat))) := bl_set'' (bl_drewN' (Below.refl _ _) _) hge.1 _
  clear q2 q3 q4 q6 b2 b3 b4 b6 qH h hS1 d1 d2
  generalize (w.drewN nq).setCell ⟨E.br, 0, none⟩ (.int .i64 (rest : Nat)) = W at *
  go_wp2_with (go_at_call 25; refine hk1.out.mono ?_; rintro e w' ⟨rfl, hS', hb'⟩)
  go_end0
  exact ⟨rfl, hS', hb1.trans hb'⟩
set_option maxRecDepth 100000 in
set_option maxHeartbeats 2000000 in
theorem step3_no (w : World) (B : Nat) (E : Env) (base rest : Nat) (f dl : List Int) (hl : List (List Int)) (ms : List ByteArray) (os : List (List Int)) (h : StP w B E base rest f dl hl ms os) (i : Nat) (hi : i < E.n)
    (hr : ¬ (base < (hl.getD i []).length ∧ 0 < rest)) :
    Calls Try.prog 33 #[.int .i64 (i : Nat), ptr E.bh, ptr E.bb, ptr E.br, ptr E.bk] w fun e w' => e = .returned (.tuple #[]) ∧ StP w' B E base rest f dl hl ms os ∧ Below B w w' := by
  obtain ⟨hll, hol, hml, hnl⟩ := h.len
  obtain ⟨b2, b3, b4, -, b6, -, bH, -⟩ := h.boxes
  obtain ⟨Ah, ch, qH⟩ := bH i hi
  have q2 := b2.cell
  have q3 := b3.cell
  have q4 := b4.cell
  have hi0 : (0 : Int) ≤ (i : Int) := by omega
  generalize hg : hl.getD i [] = L at *
  clear hg bH b2 b3 b4 b6
  replace h := Lib.hid h
  by_cases h1 : base < L.length
  · have h2 : rest = 0 := by omega
    subst h2
    have d1 : decide (base < L.length) = true := by rw [decide_eq_true_eq]; exact h1
    clear hr
    go_enter Try.func33, Try.ntmps33
    go_wp2_with fail
    go_quiet (fail)
    go_wp2_with fail
    go_end0
    exact ⟨rfl, h.out.drewN _, bl_drewN' (Below.refl _ _) _⟩
  · have d1 : decide (base < L.length) = false := by rw [decide_eq_false_iff_not]; exact h1
    clear hr
    go_enter Try.func33, Try.ntmps33
    go_wp2_with fail
    go_quiet (fail)
    go_wp2_with fail
    go_end0
    exact ⟨rfl, h.out.drewN _, bl_drewN' (Below.refl _ _) _⟩
end Go.Proofs.Ytbjjhnlifgbpmaa
