/- The walk of LedgerNil: no ledger, and one that nobody made. -/
import Derived.Test.YtejjiiakficafaaKn
namespace Go.Proofs.Ytejjiiakficafaa
open Go Go.RowKit Go.Shelf Go.Maps
attribute [local go_sem] Oper.semAt_some

/-- v is no ledger, or one that nobody made. -/
def NilV (W : World) (v : Value) : Prop := ∀ W', Below W.heap.size W W' → Calls Try.prog 24 #[v] W' fun e w' => e = .returned (.bool true) ∧ W' = w'
theorem NilV.below {W W1 : World} {v : Value} (h : NilV W v) (hb : Below W.heap.size W W1) : NilV W1 v := fun W' h' => h W' (bl_tr hb h')
theorem NilV.nil (W : World) : NilV W (.pointer none) := fun W' _ => lnone_nil W'
theorem NilV.zero (W : World) (b : Nat) (vs : List Value) (h : Blk W b (.pointer none :: vs)) : NilV W (.pointer (some ⟨b, 0, none⟩)) := fun W' hb => lnone_zero b W' ((h.below hb h.lt).get rfl)

section
variable {w : World} {v : Value}
set_option maxHeartbeats 400000 in
theorem decide_nil (h : NilV w v) (kind n k p ep s : Int) (t : Bool) (r : Value) : Calls Try.prog 12 #[v, .agg #[.int .i64 kind, .int .i64 n, .int .i64 k, .int .i64 p, .int .i64 ep, .int .i64 s, .bool t, r]] w fun e w' => e = .returned (.tuple #[.int .i64 0, .bool false, .int .i64 1]) ∧ Below w.heap.size w w' := by
  replace h := Lib.hid h
  go_enter Try.func12, Try.ntmps12
  go_wp2_with (go_at_call 24; refine (h.out _ (by first | exact Below.refl _ _ | exact bl_alloc (Below.refl _ _) _ | exact bl_alloc (bl_alloc (bl_alloc (Below.refl _ _) _) _) _)).mono ?_; rintro e w' ⟨rfl, rfl⟩)
  go_ret3
  exact ⟨rfl, bl_alloc (Below.refl _ _) _⟩
set_option maxHeartbeats 400000 in
theorem start_nil (h : NilV w v) : Calls Try.prog 17 #[v] w fun e w' => e = .returned (.int .i64 0) ∧ w = w' := by
  replace h := Lib.hid h
  go_enter Try.func17, Try.ntmps17
  go_wp2_with (go_at_call 24; refine (h.out _ (by first | exact Below.refl _ _ | exact bl_alloc (Below.refl _ _) _ | exact bl_alloc (bl_alloc (bl_alloc (Below.refl _ _) _) _) _)).mono ?_; rintro e w' ⟨rfl, rfl⟩)
  go_ret
  exact ⟨rfl, rfl⟩
set_option maxHeartbeats 400000 in
theorem end_nil (h : NilV w v) : Calls Try.prog 11 #[v] w fun e w' => e = .returned (.int .i64 0) ∧ w = w' := by
  replace h := Lib.hid h
  go_enter Try.func11, Try.ntmps11
  go_wp2_with (go_at_call 24; refine (h.out _ (by first | exact Below.refl _ _ | exact bl_alloc (Below.refl _ _) _ | exact bl_alloc (bl_alloc (bl_alloc (Below.refl _ _) _) _) _)).mono ?_; rintro e w' ⟨rfl, rfl⟩)
  go_ret
  exact ⟨rfl, rfl⟩
set_option maxHeartbeats 400000 in
theorem rows_nil (h : NilV w v) : Calls Try.prog 18 #[v] w fun e w' => e = .returned (.slice none 0 0) ∧ w = w' := by
  replace h := Lib.hid h
  go_enter Try.func18, Try.ntmps18
  go_wp2_with (go_at_call 24; refine (h.out _ (by first | exact Below.refl _ _ | exact bl_alloc (Below.refl _ _) _ | exact bl_alloc (bl_alloc (bl_alloc (Below.refl _ _) _) _) _)).mono ?_; rintro e w' ⟨rfl, rfl⟩)
  go_ret
  exact ⟨rfl, rfl⟩
set_option maxHeartbeats 400000 in
theorem open_nil (h : NilV w v) : Calls Try.prog 19 #[v] w fun e w' => e = .returned (.slice none 0 0) ∧ w = w' := by
  replace h := Lib.hid h
  go_enter Try.func19, Try.ntmps19
  go_wp2_with (go_at_call 24; refine (h.out _ (by first | exact Below.refl _ _ | exact bl_alloc (Below.refl _ _) _ | exact bl_alloc (bl_alloc (bl_alloc (Below.refl _ _) _) _) _)).mono ?_; rintro e w' ⟨rfl, rfl⟩)
  go_ret
  exact ⟨rfl, rfl⟩
set_option maxHeartbeats 400000 in
theorem aborted_nil (h : NilV w v) : Calls Try.prog 20 #[v] w fun e w' => e = .returned (.slice none 0 0) ∧ w = w' := by
  replace h := Lib.hid h
  go_enter Try.func20, Try.ntmps20
  go_wp2_with (go_at_call 24; refine (h.out _ (by first | exact Below.refl _ _ | exact bl_alloc (Below.refl _ _) _ | exact bl_alloc (bl_alloc (bl_alloc (Below.refl _ _) _) _) _)).mono ?_; rintro e w' ⟨rfl, rfl⟩)
  go_ret
  exact ⟨rfl, rfl⟩
set_option maxHeartbeats 400000 in
theorem stable_nil (h : NilV w v) : Calls Try.prog 16 #[v] w fun e w' => e = .returned (.int .i64 0) ∧ Below w.heap.size w w' := by
  replace h := Lib.hid h
  go_enter Try.func16, Try.ntmps16
  go_wp2_with (first | (go_at_call 11; refine (end_nil h.out).mono ?_; rintro e w' ⟨rfl, rfl⟩) | (go_at_call 19; refine (open_nil h.out).mono ?_; rintro e w' ⟨rfl, rfl⟩))
  go_loopw [3, 11] (fun v3 u wr => v3 = .int .i64 0 ∧ u = .int .i64 0 ∧ Below w.heap.size w wr) (fun _ _ _ => 0)
  case atStart => exact ⟨rfl, rfl, Below.refl _ _⟩
  case round =>
    obtain ⟨rfl, rfl, hb⟩ := hrel
    go_wp2_with fail
    go_ret
    exact ⟨rfl, hb⟩
set_option maxHeartbeats 400000 in
theorem apply_nil (h : NilV w v) (kind n k p ep s : Int) (t : Bool) (r : Value) : Calls Try.prog 13 #[v, .agg #[.int .i64 kind, .int .i64 n, .int .i64 k, .int .i64 p, .int .i64 ep, .int .i64 s, .bool t, r]] w fun e w' => e = .returned (.tuple #[.int .i64 0, .int .i64 1]) ∧ Below w.heap.size w w' := by
  replace h := Lib.hid h
  go_enter Try.func13, Try.ntmps13
  go_wp2_with (go_at_call 12; refine (decide_nil (h.out.below (bl_alloc (Below.refl _ _) _)) kind n k p ep s t r).mono ?_; rintro e w2 ⟨rfl, hb2⟩)
  go_ret2
  exact ⟨rfl, bl_tr (bl_alloc (Below.refl _ _) _) hb2⟩
set_option maxHeartbeats 400000 in
theorem fetch_nil {p : Option Addr} (h : NilV w (.pointer p)) (frm most : Int) : Calls Try.prog 15 #[.pointer p, .int .i64 frm, .int .i64 most, .bool false] w fun e w' => e = .returned (.tuple #[.slice none 0 0, .int .i64 0, .int .i64 1]) ∧ Below w.heap.size w w' := by
  have hb0 : Below w.heap.size w (((w.alloc (.cells #[.pointer p] 23)).alloc (.cells #[.int .i64 frm] 3)).alloc (.cells #[.bool false] 4)) := bl_alloc (bl_alloc (bl_alloc (Below.refl _ _) _) _) _
  have h24 := h _ hb0
  clear h
  replace h24 := Lib.hid h24
  go_enter Try.func15, Try.ntmps15
  go_wp2_with (go_at_call 24; refine h24.out.mono ?_; rintro e w' ⟨rfl, rfl⟩)
  go_ret3
  exact ⟨rfl, hb0⟩

set_option maxRecDepth 100000 in
set_option maxHeartbeats 4000000 in
theorem lnil_any (x : En) (A : Option Addr) (c : Nat) (n0 : Int) (w : World) (hR : RecsAt w A x.b.rs) :
    Calls Try.prog 7 #[.agg #[.int .i64 x.kind, .int .i64 x.n, .int .i64 x.b.k, .int .i64 x.b.p, .int .i64 x.b.ep, .int .i64 x.b.s, .bool x.b.t, .slice A x.b.rs.length c], .int .i64 n0] w fun e w' => e = .returned (.bool true) ∧ Below w.heap.size w w' := by
  have hB0 : Blk (w.alloc (.cells #[.int .i64 x.kind, .int .i64 x.n, .int .i64 x.b.k, .int .i64 x.b.p, .int .i64 x.b.ep, .int .i64 x.b.s, .bool x.b.t, .slice A x.b.rs.length c] 34)) w.heap.size [.int .i64 x.kind, .int .i64 x.n, .int .i64 x.b.k, .int .i64 x.b.p, .int .i64 x.b.ep, .int .i64 x.b.s, .bool x.b.t, .slice A x.b.rs.length c] := Blk.new' _ _ rfl
  go_enter Try.func7, Try.ntmps7
  go_wp2_with fail
  go_loopw [5, 6] (fun v u wr => ∃ (p : Option Addr) (i : Nat), v = .pointer p ∧ u = .int .i64 i ∧ i ≤ 2 ∧ NilV wr (.pointer p) ∧ Below w.heap.size w wr ∧ Blk wr w.heap.size [.int .i64 x.kind, .int .i64 x.n, .int .i64 x.b.k, .int .i64 x.b.p, .int .i64 x.b.ep, .int .i64 x.b.s, .bool x.b.t, .slice A x.b.rs.length c]) (fun _ u _ => 2 - (intOf u).toNat)
  case atStart => exact ⟨none, 0, rfl, rfl, by omega, NilV.nil _, bl_alloc (Below.refl _ _) _, hB0⟩
  case round =>
    obtain ⟨p, i, rfl, rfl, hi, hN, hb, hB⟩ := hrel
    clear hB0
    by_cases hlt : i < 2
    · have q := hB.cell
      have l := hB.lt
      go_wp2_with fail
      refine (own_any x A c _ (hR.below hb)).mono ?_
      rintro e w1 ⟨A1, c1, rfl, _, _, hb1⟩
      go_wp2_with fail
      refine (decide_nil (hN.below hb1) _ _ _ _ _ _ _ _).mono ?_
      rintro e w2 ⟨rfl, hb2⟩
      replace hN := (hN.below hb1).below hb2
      replace hB := (hB.below hb1 hB.lt).below hb2 (hB.below hb1 hB.lt).lt
      replace hb := bl_tr (bl_tr hb hb1) hb2
      clear hb1 hb2 q l
      have q := hB.cell
      have l := hB.lt
      go_wp2_with fail
      refine (own_any x A c _ (hR.below hb)).mono ?_
      rintro e w3 ⟨A3, c3, rfl, _, _, hb3⟩
      go_wp2_with fail
      refine (apply_nil (hN.below hb3) _ _ _ _ _ _ _ _).mono ?_
      rintro e w4 ⟨rfl, hb4⟩
      replace hN := (hN.below hb3).below hb4
      replace hB := (hB.below hb3 hB.lt).below hb4 (hB.below hb3 hB.lt).lt
      replace hb := bl_tr (bl_tr hb hb3) hb4
      clear hb3 hb4 q l
      go_wp2_with fail
      refine (fetch_nil hN _ _).mono ?_
      rintro e w5 ⟨rfl, hb5⟩
      replace hN := hN.below hb5
      replace hB := hB.below hb5 hB.lt
      replace hb := bl_tr hb hb5
      clear hb5
      have hN2 := Lib.hid hN
      go_wp2_with (first | (go_at_call 14; refine (num_any _ _).mono ?_; rintro e w' ⟨rfl, rfl⟩) | (go_at_call 18; refine (rows_nil hN2.out).mono ?_; rintro e w' ⟨rfl, rfl⟩) | (go_at_call 19; refine (open_nil hN2.out).mono ?_; rintro e w' ⟨rfl, rfl⟩) | (go_at_call 20; refine (aborted_nil hN2.out).mono ?_; rintro e w' ⟨rfl, rfl⟩) | (go_at_call 17; refine (start_nil hN2.out).mono ?_; rintro e w' ⟨rfl, rfl⟩) | (go_at_call 11; refine (end_nil hN2.out).mono ?_; rintro e w' ⟨rfl, rfl⟩) | (go_at_call 16; refine (stable_nil hN2.out).mono ?_; rintro e w6 ⟨rfl, hb6⟩))
      have hBz : Blk (w6.alloc (.cells #[.pointer none, .int .i64 0, .int .i64 0, .slice none 0 0, .slice none 0 0, .slice none 0 0] 64)) w6.heap.size [.pointer none, .int .i64 0, .int .i64 0, .slice none 0 0, .slice none 0 0, .slice none 0 0] := Blk.new' _ _ rfl
      exact ⟨⟨some ⟨w6.heap.size, 0, none⟩, i + 1, rfl, by go_num, by omega, NilV.zero _ _ _ hBz, bl_alloc (bl_tr hb hb6) _, (hB.below hb6 hB.lt).alloc _⟩, by simp [intOf]; omega⟩
    · obtain rfl : i = 2 := by omega
      go_wp2_with (go_at_call 9; refine (lknows_any _).mono ?_; rintro e w7 ⟨rfl, hb7⟩)
      go_ret
      exact ⟨rfl, bl_tr hb hb7⟩
end
end Go.Proofs.Ytejjiiakficafaa
