/- Sticky's closures: the lowest free ones for those that have too few; one more. -/
import Derived.Test.YtbjjhnlifgbpmaaCm
import Derived.Deep.LoopGhost
namespace Go.Proofs.Ytbjjhnlifgbpmaa
open Go.RowKit Go.Shelf
attribute [local go_sem] Oper.semAt_some

theorem bl_drew' {B : Nat} {a w : World} (h : Below B a w) : Below B a w.drew := ⟨h.os, h.tape, h.output, h.size, h.block⟩
/-- One more for those that have base. -/
def topN (n base : Nat) : Nat := if n = base then 1 else 0

set_option maxRecDepth 100000 in
set_option maxHeartbeats 2000000 in
theorem step5_any (w : World) (B : Nat) (E : Env) (base rest : Nat) (f dl : List Int) (hl : List (List Int)) (ms : List ByteArray) (os : List (List Int)) (h : StQ w B E base rest f dl hl ms os) (i : Nat) (hi : i < E.n) (hf : f.length ≤ 32) (ho : (os.getD i []).length ≤ 500) (hb : base ≤ 32) :
    Calls Try.prog 35 #[.int .i64 (i : Nat), ptr E.bo, ptr E.bb, ptr E.bg] w fun e w' => e = .returned (.tuple #[]) ∧ StQ w' B E base rest (f.drop (topN (os.getD i []).length base)) dl hl ms (os.set i (os.getD i [] ++ f.take (topN (os.getD i []).length base))) ∧ Below B w w' := by
  obtain ⟨hll, hol, hml, hnl⟩ := h.len
  obtain ⟨b2, b5, b7, bO⟩ := h.boxes
  obtain ⟨Ao, co, qO⟩ := bO i hi
  have q2 := b2.cell
  have q5 := b5.cell
  have q7 := b7.cell
  have hi0 : (0 : Int) ≤ (i : Int) := by omega
  have hself := Lib.hid (getD_self os i [] (by omega))
  by_cases hn : (os.getD i []).length = base
  · have d1 : (((os.getD i []).length : Int) == (base : Int)) = true := by rw [beq_iff_eq]; omega
    cases f with
    | nil =>
      have hfin := Lib.hid (fun n => (show StQ (w.drewN n) B E base rest [] dl hl ms os from h.drewN n))
      generalize hg : os.getD i [] = L at *
      clear hg bO b2 b5 b7 h
      go_enter Try.func35, Try.ntmps35
      go_wp2_with fail
      go_quiet (fail)
      have hk := Lib.hid (getN_any (hfin.out nq) i)
      go_wp2_with (go_at_call 27; refine hk.out.mono ?_; rintro e w' ⟨rfl, rfl⟩)
      go_end0
      refine ⟨rfl, ?_, bl_drewN' (Below.refl _ _) _⟩
      rw [List.take_nil, List.drop_nil, List.append_nil, hself.out]
      exact hfin.out nq
    | cons p f =>
      have hfin := Lib.hid (fun n => getS_any p (h.drewN n) i hi (by simp at hf; omega) (by omega))
      generalize hg : os.getD i [] = L at *
      clear hg bO b2 b5 b7 h
      go_enter Try.func35, Try.ntmps35
      go_wp2_with fail
      go_quiet (fail)
      have hk := Lib.hid (hfin.out nq)
      go_wp2_with (go_at_call 27; refine hk.out.mono ?_; rintro e w' ⟨rfl, hS', hb'⟩)
      go_end0
      rw [show topN L.length base = 1 from if_pos hn]
      exact ⟨rfl, hS', (bl_drewN' (Below.refl _ _) _).trans hb'⟩
  · have d1 : (((os.getD i []).length : Int) == (base : Int)) = false := by rw [beq_eq_false_iff_ne]; omega
    have hfin := Lib.hid (fun n => h.drewN n)
    generalize hg : os.getD i [] = L at *
    clear hg bO b2 b5 b7 h
    go_enter Try.func35, Try.ntmps35
    go_wp2_with fail
    go_quiet (fail)
    go_wp2_with fail
    go_end0
    refine ⟨rfl, ?_, bl_drewN' (Below.refl _ _) _⟩
    rw [show topN L.length base = 0 from if_neg hn]
    rw [List.take_zero, List.drop_zero, List.append_nil, hself.out]
    exact hfin.out nq

set_option maxRecDepth 100000 in
set_option maxHeartbeats 4000000 in
theorem step4_any (w : World) (B : Nat) (E : Env) (base rest : Nat) (f dl : List Int) (hl : List (List Int)) (ms : List ByteArray) (os : List (List Int)) (h : StQ w B E base rest f dl hl ms os) (i : Nat) (hi : i < E.n) (hf : f.length ≤ 32) (ho : (os.getD i []).length ≤ 500) (hb : base ≤ 32) :
    Calls Try.prog 34 #[.int .i64 (i : Nat), ptr E.bo, ptr E.bb, ptr E.bg] w fun e w' => e = .returned (.tuple #[]) ∧ StQ w' B E base rest (f.drop (base - (os.getD i []).length)) dl hl ms (os.set i (os.getD i [] ++ f.take (base - (os.getD i []).length))) ∧ Below B w w' := by
  obtain ⟨hll, hol, hml, hnl⟩ := h.len
  have hi0 : (0 : Int) ≤ (i : Int) := by omega
  have hself := Lib.hid (getD_self os i [] (by omega))
  obtain ⟨L, hL⟩ : ∃ L, os.getD i [] = L := ⟨_, rfl⟩
  rw [hL] at ho ⊢
  replace hL := Lib.hid hL
  replace h := Lib.hid h
  go_enter Try.func34, Try.ntmps34
  go_wp2_with fail
  go_loopg [5] f.length (fun gk _ wr => ∃ k : Nat, k + gk = f.length ∧ (L.length + k ≤ base ∨ k = 0) ∧ StQ wr B E base rest (f.drop k) dl hl ms (os.set i (L ++ f.take k)) ∧ Below B w wr)
  case atStart =>
    refine ⟨0, by omega, .inr rfl, ?_, Below.refl _ _⟩
    rw [List.take_zero, List.drop_zero, List.append_nil]
    have := hself.out
    rw [hL.out] at this
    rw [this]
    exact h.out
  case round =>
    obtain ⟨k, hk, hkb, hS, hbw⟩ := hrel
    have hoL : (os.set i (L ++ f.take k)).getD i [] = L ++ f.take k := by rw [getD_get _ _ (by simp; omega)]; simp
    have hlen : (L ++ f.take k).length = L.length + k := by rw [List.length_append, List.length_take]; omega
    obtain ⟨b2, b5, b7, bO⟩ := hS.boxes
    obtain ⟨Ao, co, qO⟩ := bO i hi
    rw [hoL, hlen] at qO
    have q2 := b2.cell
    have q5 := b5.cell
    have q7 := b7.cell
    clear bO b2 b5 b7 h hself
    by_cases hlt : L.length + k < base
    · have d1 : decide ((L.length : Int) + (k : Int) < (base : Int)) = true := by rw [decide_eq_true_eq]; omega
      cases hfd : f.drop k with
      | nil =>
        rw [hfd] at hS
        have hk1 := Lib.hid (getN_any (show StQ wr.drew B E base rest [] dl hl ms (os.set i (L ++ f.take k)) from hS.drewN 1) i)
        have hfk : f.length ≤ k := by rw [← List.drop_eq_nil_iff]; exact hfd
        have e1 : f.drop (base - L.length) = [] := List.drop_eq_nil_iff.2 (by omega)
        have e2 : f.take (base - L.length) = f.take k := by rw [List.take_of_length_le (by omega), List.take_of_length_le hfk]
        have hfin : StQ wr.drew B E base rest (f.drop (base - L.length)) dl hl ms (os.set i (L ++ f.take (base - L.length))) := by rw [e1, e2]; exact hS.drewN 1
        replace hfin := Lib.hid hfin
        clear hS hfd e1 e2 hfk hoL hlen
        go_wp2_with fail
        go_region_with (go_at_call 27; refine hk1.out.mono ?_; rintro e w' ⟨rfl, rfl⟩)
        all_goals
          go_wp2_with fail
          go_end0
          exact ⟨rfl, hfin.out, bl_drew' hbw⟩
      | cons p f' =>
        rw [hfd] at hS
        have hkl : k < f.length := by have := congrArg List.length hfd; simp at this; omega
        have hpf : f[k] = p ∧ f.drop (k + 1) = f' := by rw [List.drop_eq_getElem_cons hkl] at hfd; exact List.cons.inj hfd
        have hk1 := Lib.hid (getS_any p (show StQ wr.drew B E base rest (p :: f') dl hl ms (os.set i (L ++ f.take k)) from hS.drewN 1) i hi (by have := congrArg List.length hfd; simp at this; omega) (by rw [hoL, hlen]; omega))
        have e3 : L ++ f.take k ++ [p] = L ++ f.take (k + 1) := by rw [List.take_succ_eq_append_getElem hkl, hpf.1, List.append_assoc]
        have hnext : ∀ w', StQ w' B E base rest f' dl hl ms ((os.set i (L ++ f.take k)).set i ((os.set i (L ++ f.take k)).getD i [] ++ [p])) → StQ w' B E base rest (f.drop (k + 1)) dl hl ms (os.set i (L ++ f.take (k + 1))) := fun w' hw => by
          rw [hoL, List.set_set, e3] at hw; rw [hpf.2]; exact hw
        replace hnext := Lib.hid hnext
        clear hS hfd e3 hpf hoL hlen
        go_wp2_with fail
        go_region_with (go_at_call 27; refine hk1.out.mono ?_; rintro e w' ⟨rfl, hS', hb'⟩)
        all_goals
          go_wp2_with fail
          go_roundg (gk - 1)
          case measure => omega
          case rel => exact ⟨k + 1, by omega, .inl (by omega), hnext.out _ hS', (bl_drew' hbw).trans hb'⟩
    · have d1 : decide ((L.length : Int) + (k : Int) < (base : Int)) = false := by rw [decide_eq_false_iff_not]; omega
      replace hS := Lib.hid hS
      go_wp2_with fail
      go_quiet (fail)
      go_wp2_with fail
      go_end0
      have hkk : k = base - L.length ∨ (k = 0 ∧ base - L.length = 0) := by omega
      have ek : k = base - L.length := by omega
      rw [← ek]
      exact ⟨rfl, hS.out.drewN _, bl_drewN' hbw _⟩
end Go.Proofs.Ytbjjhnlifgbpmaa
