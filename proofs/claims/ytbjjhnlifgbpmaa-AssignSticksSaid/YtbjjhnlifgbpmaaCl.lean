/- Sticky's closures: what is had is kept. -/
import Derived.Test.YtbjjhnlifgbpmaaPp
import Derived.Shelf.RegionOpen
namespace Go.Proofs.Ytbjjhnlifgbpmaa
open Go.RowKit Go.Shelf
attribute [local go_sem] Oper.semAt_some

theorem bl_drewN' {B : Nat} {a w : World} (h : Below B a w) (n : Nat) : Below B a (w.drewN n) := ⟨h.os, h.tape, h.output, h.size, h.block⟩
theorem StP.drewN {w : World} {B : Nat} {E : Env} {base rest : Nat} {f dl : List Int} {hl : List (List Int)} {ms : List ByteArray} {os : List (List Int)} (h : StP w B E base rest f dl hl ms os) (n : Nat) : StP (w.drewN n) B E base rest f dl hl ms os := by
  obtain ⟨free, dealt, hads, outs, ⟨hm, h1, h2, h3⟩, r⟩ := h
  exact ⟨free, dealt, hads, outs, ⟨hm.below (bl_drewN (Below.refl _ _) n), h1, h2, h3⟩, r⟩
theorem foldl_erase_len (l : List Int) : ∀ f : List Int, (l.foldl List.erase f).length ≤ f.length := by
  induction l with
  | nil => intro f; exact Nat.le_refl _
  | cons x l ih => intro f; exact Nat.le_trans (ih _) (List.length_erase_le ..)
theorem StP.len {w : World} {B : Nat} {E : Env} {base rest : Nat} {f dl : List Int} {hl : List (List Int)} {ms : List ByteArray} {os : List (List Int)} (h : StP w B E base rest f dl hl ms os) : hl.length = E.n ∧ os.length = E.n ∧ ms.length = E.n ∧ E.n ≤ 1000 := by
  obtain ⟨free, dealt, hads, outs, hS, rfl, rfl, rfl, rfl, rfl⟩ := h
  exact ⟨by simpa using hS.hl, by simpa using hS.ol, by simpa using hS.ol, hS.nl⟩
/-- What the boxes hold. -/
theorem StP.boxes {w : World} {B : Nat} {E : Env} {base rest : Nat} {f dl : List Int} {hl : List (List Int)} {ms : List ByteArray} {os : List (List Int)} (h : StP w B E base rest f dl hl ms os) :
    Blk w E.bb [.int .i64 (base : Nat)] ∧ Blk w E.br [.int .i64 (rest : Nat)] ∧ Blk w E.bh [.slice (some ⟨E.H, 0, none⟩) E.n E.n] ∧ Blk w E.bo [.slice (some ⟨E.O, 0, none⟩) E.n E.n] ∧
      Blk w E.bk [.func (.func 25) #[] #[ptr E.bh, ptr E.bf, ptr E.bo]] ∧ Blk w E.bg [.func (.func 27) #[] #[ptr E.bf, ptr E.bo]] ∧
      (∀ i, i < E.n → ∃ A c, w.cell? ⟨E.H, i, none⟩ = some (.slice A (hl.getD i []).length c)) ∧ ∀ i, i < E.n → ∃ A c, w.cell? ⟨E.O, i * 2 + 1, none⟩ = some (.slice A (os.getD i []).length c) := by
  obtain ⟨free, dealt, hads, outs, ⟨hm, h1, h2, h3⟩, rfl, rfl, rfl, rfl, rfl⟩ := h
  refine ⟨hm.blk 0 _ _ rfl, hm.blk 1 _ _ rfl, hm.blk 4 _ _ rfl, hm.blk 5 _ _ rfl, hm.blk 6 _ _ rfl, hm.blk 7 _ _ rfl, fun i hi => ?_, fun i hi => ?_⟩
  · have hih : i < hads.length := by omega
    have := (hm.blk 10 _ _ rfl).get (flat_get rwL_len hads i hih 0 (by omega))
    refine ⟨hads[i].A, hads[i].c, ?_⟩
    rw [map_getD Rw3.l hads i hih, getD_get _ _ hih]
    simpa [Rw3.v] using this
  · have hio : i < outs.length := by omega
    have := (hm.blk 11 _ _ rfl).get (flat_get ouL_len outs i hio 1 (by omega))
    refine ⟨outs[i].r.A, outs[i].r.c, ?_⟩
    rw [map_getD (fun o : Ou => o.r.l) outs i hio, getD_get _ _ hio]
    simpa [Rw3.v] using this

set_option maxRecDepth 100000 in
set_option maxHeartbeats 2000000 in
theorem step2_any (w : World) (B : Nat) (E : Env) (base rest : Nat) (f dl : List Int) (hl : List (List Int)) (ms : List ByteArray) (os : List (List Int)) (h : StP w B E base rest f dl hl ms os) (i : Nat) (hi : i < E.n) (hf : f.length ≤ 32) (ho : (os.getD i []).length ≤ 500)
    (hb : base ≤ 32) (hL : (hl.getD i []).length ≤ 32) :
    Calls Try.prog 32 #[.int .i64 (i : Nat), ptr E.bb, ptr E.bh, ptr E.bk] w fun e w' => e = .returned (.tuple #[]) ∧ StP w' B E base rest (((hl.getD i []).take base).foldl List.erase f) dl hl ms (os.set i (os.getD i [] ++ (hl.getD i []).take base)) ∧ Below B w w' := by
  obtain ⟨hll, hol, hml, hnl⟩ := h.len
  obtain ⟨b2, -, b4, -, b6, -, bH, -⟩ := h.boxes
  obtain ⟨Ah, ch, qH⟩ := bH i hi
  have q2 := b2.cell
  have q4 := b4.cell
  have q6 := b6.cell
  have hi0 : (0 : Int) ≤ (i : Int) := by omega
  generalize hg : hl.getD i [] = L at *
  have hgh := Lib.hid hg
  clear hg bH
  obtain ⟨m, hm⟩ : ∃ m : Nat, (L.take base).length = m := ⟨_, rfl⟩
  have hmin : (min (base : Int) (L.length : Int)) = (m : Int) := by rw [← hm, List.length_take]; omega
  have hmin2 : (if (L.length : Int) < (base : Int) then (L.length : Int) else (base : Int)) = (m : Int) := by rw [← hm, List.length_take]; split <;> omega
  go_enter Try.func32, Try.ntmps32
  go_wp2_with fail
  go_quiet (fail)
  go_wp2_with fail
  replace hm := Lib.hid hm
  replace h := Lib.hid h
  clear hmin hmin2 qH q2 q4 q6 b2 b4 b6
  go_loopw [13] (fun u wr => ∃ k : Nat, k ≤ m ∧ u = .int .i64 k ∧ StP wr B E base rest ((L.take k).foldl List.erase f) dl hl ms (os.set i (os.getD i [] ++ L.take k)) ∧ Below B w wr) (fun u _ => m - (intOf u).toNat)
  case atStart =>
    refine ⟨0, Nat.zero_le _, rfl, ?_, bl_drewN' (Below.refl _ _) _⟩
    have := h.out.drewN nq
    rw [List.take_zero, List.foldl_nil, List.append_nil, getD_self os i [] (by omega)]
    exact this
  case round =>
    obtain ⟨k, hk, rfl, hS, hbw⟩ := hrel
    by_cases hkm : k < m
    · obtain ⟨-, -, -, -, b6, -, -, -⟩ := hS.boxes
      have q6 := b6.cell
      have hmo := hm.out
      have hkL : k < L.length := by rw [List.length_take] at hmo; omega
      have hkb : k < base := by rw [List.length_take] at hmo; omega
      have hpk : (hl.getD i [])[k]? = some L[k] := by rw [hgh.out]; exact List.getElem?_eq_getElem hkL
      have hos : (os.set i (os.getD i [] ++ L.take k)).getD i [] = os.getD i [] ++ L.take k := by rw [getD_get _ _ (by simp; omega)]; simp
      have hTk := Lib.hid (List.take_succ_eq_append_getElem hkL)
      have hk1 := keepP_any hS i k L[k] hi hpk (Nat.le_trans (foldl_erase_len _ _) hf) (by rw [hos, List.length_append, List.length_take]; omega)
      replace hk1 := Lib.hid hk1
      go_wp2_with (go_at_call 25; refine hk1.out.mono ?_; rintro e w' ⟨rfl, hS', hb'⟩)
      go_roundw
      case rel =>
        refine ⟨k + 1, by omega, by go_num, ?_, hbw.trans hb'⟩
        rw [hos, List.set_set] at hS'
        rw [hTk.out, List.foldl_append, List.foldl_cons, List.foldl_nil, ← List.append_assoc]
        exact hS'
      case measure => simp [intOf]; omega
    · obtain rfl : k = m := by omega
      have hmo := hm.out
      have hT : L.take k = L.take base := by rw [← hmo, List.length_take, List.take_eq_take_iff]; omega
      go_wp2
      go_end0
      rw [hT] at hS
      exact ⟨rfl, hS, hbw⟩
end Go.Proofs.Ytbjjhnlifgbpmaa
