/- Ledger.Decide. -/
import Derived.Test.YtejjiiakficafaaLm
namespace Go.Proofs.Ytejjiiakficafaa
open Go.RowKit Go.Shelf Go.Maps
attribute [local go_sem] Oper.semAt_some

def enV (kind n k p ep s : Int) (t : Bool) (A : Option Addr) (m c : Nat) : Value := .agg #[.int .i64 kind, .int .i64 n, .int .i64 k, .int .i64 p, .int .i64 ep, .int .i64 s, .bool t, .slice A m c]
theorem right_kind {x : En} (h : rightB x = true) : x.kind = 1 ∨ x.kind = 2 ∨ x.kind = 3 := by
  unfold rightB at h
  split at h
  · exact .inl ‹_›
  · split at h
    · rcases ‹x.kind = 2 ∨ x.kind = 3› with e | e
      · exact .inr (.inl e)
      · exact .inr (.inr e)
    · cases h
section
variable {w : World} {n0 lb tb mb nn rc oc gc : Nat} {rA oA gA : Option Addr} {L : Lg}
set_option maxRecDepth 100000 in
set_option maxHeartbeats 2000000 in
theorem decide_wrong (h : LgAt w n0 lb tb mb nn rA rc oA oc gA gc L) (hn : nn ≤ 1000000000) (x : En) (A : Option Addr) (c : Nat) (hR : RecsAt w A x.b.rs) (hs : okI x.b.s) (hx : rightB x = false) :
    Calls Try.prog 12 #[.pointer (some ⟨lb, 0, none⟩), .agg #[.int .i64 x.kind, .int .i64 x.n, .int .i64 x.b.k, .int .i64 x.b.p, .int .i64 x.b.ep, .int .i64 x.b.s, .bool x.b.t, .slice A x.b.rs.length c]] w fun e w' =>
      e = .returned (.tuple #[.int .i64 (L.decide x).1, .bool (L.decide x).2.1, .int .i64 (L.decide x).2.2]) ∧ Below w.heap.size w w' := by
  rw [show L.decide x = (0, false, 1) by simp [Lg.decide, hx]]
  obtain ⟨kind, n, k, p, ep, s, t, rs⟩ := x
  dsimp only at hR hs hx ⊢
  have hcon := right_any ⟨kind, n, k, p, ep, s, t, rs⟩ A c _ (hR.below (bl_alloc (Below.refl w.heap.size w) (.cells #[.int .i64 kind, .int .i64 n, .int .i64 k, .int .i64 p, .int .i64 ep, .int .i64 s, .bool t, .slice A rs.length c] 32))) hs
  rw [hx] at hcon
  have c0 := h.c0
  have l0 := h.blk.lt
  have hB0 : Blk (w.alloc (.cells #[.int .i64 kind, .int .i64 n, .int .i64 k, .int .i64 p, .int .i64 ep, .int .i64 s, .bool t, .slice A rs.length c] 32)) w.heap.size [.int .i64 kind, .int .i64 n, .int .i64 k, .int .i64 p, .int .i64 ep, .int .i64 s, .bool t, .slice A rs.length c] := Blk.new' _ _ rfl
  have hb1 := bl_alloc (Below.refl w.heap.size w) (.cells #[.int .i64 kind, .int .i64 n, .int .i64 k, .int .i64 p, .int .i64 ep, .int .i64 s, .bool t, .slice A rs.length c] 32)
  have h1 := h.below hb1
  have hR1 := hR.below hb1
  dsimp only at hcon
  replace hcon := Lib.hid hcon
  clear hx
  go_enter Try.func12, Try.ntmps12
  go_wp2_with (first | (go_at_call 24; refine (lnone_any lb tb _ (by first | exact c0 | exact h1.c0)).mono ?_; rintro e w' ⟨rfl, rfl⟩) | (go_at_call 25; refine hcon.out.mono ?_; rintro e w2 ⟨rfl, hb2⟩; have h2 := h1.below hb2; have hB2 := hB0.below hb2 hB0.lt; have q0 := hB2.cell; have l2 := hB2.lt))
  go_ret3
  exact ⟨rfl, bl_tr hb1 hb2⟩
set_option maxRecDepth 100000 in
set_option maxHeartbeats 2000000 in
theorem decide_range (h : LgAt w n0 lb tb mb nn rA rc oA oc gA gc L) (hn : nn ≤ 1000000000) (x : En) (A : Option Addr) (c : Nat) (hR : RecsAt w A x.b.rs) (hs : okI x.b.s) (hx : rightB x = true) (hk : x.kind ≠ 1) (hst : L.stable < x.n) :
    Calls Try.prog 12 #[.pointer (some ⟨lb, 0, none⟩), .agg #[.int .i64 x.kind, .int .i64 x.n, .int .i64 x.b.k, .int .i64 x.b.p, .int .i64 x.b.ep, .int .i64 x.b.s, .bool x.b.t, .slice A x.b.rs.length c]] w fun e w' =>
      e = .returned (.tuple #[.int .i64 (L.decide x).1, .bool (L.decide x).2.1, .int .i64 (L.decide x).2.2]) ∧ Below w.heap.size w w' := by
  rw [show L.decide x = (0, false, 11) by simp [Lg.decide, hx, hk, hst]]
  obtain ⟨kind, n, k, p, ep, s, t, rs⟩ := x
  dsimp only at hR hs hx hk hst ⊢
  have hcon := right_any ⟨kind, n, k, p, ep, s, t, rs⟩ A c _ (hR.below (bl_alloc (Below.refl w.heap.size w) (.cells #[.int .i64 kind, .int .i64 n, .int .i64 k, .int .i64 p, .int .i64 ep, .int .i64 s, .bool t, .slice A rs.length c] 32))) hs
  rw [hx] at hcon
  have c0 := h.c0
  have l0 := h.blk.lt
  have hB0 : Blk (w.alloc (.cells #[.int .i64 kind, .int .i64 n, .int .i64 k, .int .i64 p, .int .i64 ep, .int .i64 s, .bool t, .slice A rs.length c] 32)) w.heap.size [.int .i64 kind, .int .i64 n, .int .i64 k, .int .i64 p, .int .i64 ep, .int .i64 s, .bool t, .slice A rs.length c] := Blk.new' _ _ rfl
  have hb1 := bl_alloc (Below.refl w.heap.size w) (.cells #[.int .i64 kind, .int .i64 n, .int .i64 k, .int .i64 p, .int .i64 ep, .int .i64 s, .bool t, .slice A rs.length c] 32)
  have h1 := h.below hb1
  have hR1 := hR.below hb1
  dsimp only at hcon
  replace hcon := Lib.hid hcon
  clear hx
  have hk1 : (kind != 1) = true := by simpa using hk
  go_enter Try.func12, Try.ntmps12
  go_wp2_with (first | (go_at_call 24; refine (lnone_any lb tb _ (by first | exact c0 | exact h1.c0)).mono ?_; rintro e w' ⟨rfl, rfl⟩) | (go_at_call 25; refine hcon.out.mono ?_; rintro e w2 ⟨rfl, hb2⟩; have h2 := h1.below hb2; have hB2 := hB0.below hb2 hB0.lt; have q0 := hB2.cell; have l2 := hB2.lt))
  have h3 := h2.alloc (.cells #[.int .i64 k, .int .i64 p, .int .i64 ep, .int .i64 s, .bool t, .slice A rs.length c] 30)
  have hB3 := hB2.alloc (.cells #[.int .i64 k, .int .i64 p, .int .i64 ep, .int .i64 s, .bool t, .slice A rs.length c] 30)
  have hbW := bl_alloc (bl_tr hb1 hb2) (.cells #[.int .i64 k, .int .i64 p, .int .i64 ep, .int .i64 s, .bool t, .slice A rs.length c] 30)
  have hC3 : Blk (w2.alloc (.cells #[.int .i64 k, .int .i64 p, .int .i64 ep, .int .i64 s, .bool t, .slice A rs.length c] 30)) w2.heap.size [.int .i64 k, .int .i64 p, .int .i64 ep, .int .i64 s, .bool t, .slice A rs.length c] := Blk.new' _ _ rfl
  have hR3 := (hR1.below hb2).below (bl_alloc (Below.refl _ _) (.cells #[.int .i64 k, .int .i64 p, .int .i64 ep, .int .i64 s, .bool t, .slice A rs.length c] 30))
  obtain ⟨W, hWe⟩ : ∃ W, W = w2.alloc (.cells #[.int .i64 k, .int .i64 p, .int .i64 ep, .int .i64 s, .bool t, .slice A rs.length c] 30) := ⟨_, rfl⟩
  rw [← hWe] at h3 hB3 hbW hC3 hR3 ⊢
  have l3 := h3.blk.lt
  have k3 := hB3.lt
  have m3 := hC3.lt
  clear hWe q0 hB2 h2 hR1 h1 hB0 hb1 hb2 hcon l2 c0 l0 h hR
  have c3 := hB3.cell
  have d3 := hC3.cell
  have f3 := h3.blk.cell
  simp only [lgL] at f3
  go_region_held3 (fun w' => (∀ b o, b < W.heap.size → w'.cell? ⟨b, o, none⟩ = W.cell? ⟨b, o, none⟩) ∧ Below W.heap.size W w')
    (first | exact keep_drew W | exact keep_step ‹_› ‹_›)
    ((go_at_call 16; refine (stable_any (h3.below (keep_drew W).2) hn).mono ?_; rintro e w4 ⟨rfl, hb4⟩))
  go_wp2_with fail
  go_ret3
  exact ⟨rfl, bl_tr (bl_drew hbW) hb4⟩
set_option maxRecDepth 100000 in
set_option maxHeartbeats 2000000 in
theorem decide_retain (h : LgAt w n0 lb tb mb nn rA rc oA oc gA gc L) (hn : nn ≤ 1000000000) (x : En) (A : Option Addr) (c : Nat) (hR : RecsAt w A x.b.rs) (hs : okI x.b.s) (hx : rightB x = true) (hk : x.kind = 2) (hst : x.n ≤ L.stable) :
    Calls Try.prog 12 #[.pointer (some ⟨lb, 0, none⟩), .agg #[.int .i64 x.kind, .int .i64 x.n, .int .i64 x.b.k, .int .i64 x.b.p, .int .i64 x.b.ep, .int .i64 x.b.s, .bool x.b.t, .slice A x.b.rs.length c]] w fun e w' =>
      e = .returned (.tuple #[.int .i64 (L.decide x).1, .bool (L.decide x).2.1, .int .i64 (L.decide x).2.2]) ∧ Below w.heap.size w w' := by
  rw [show L.decide x = (0, decide (x.n ≤ L.start), 0) by simp [Lg.decide, hx, hk, Int.not_lt.2 hst]]
  obtain ⟨kind, n, k, p, ep, s, t, rs⟩ := x
  dsimp only at hR hs hx hk hst ⊢
  have hcon := right_any ⟨kind, n, k, p, ep, s, t, rs⟩ A c _ (hR.below (bl_alloc (Below.refl w.heap.size w) (.cells #[.int .i64 kind, .int .i64 n, .int .i64 k, .int .i64 p, .int .i64 ep, .int .i64 s, .bool t, .slice A rs.length c] 32))) hs
  rw [hx] at hcon
  subst hk
  have c0 := h.c0
  have l0 := h.blk.lt
  have hB0 : Blk (w.alloc (.cells #[.int .i64 2, .int .i64 n, .int .i64 k, .int .i64 p, .int .i64 ep, .int .i64 s, .bool t, .slice A rs.length c] 32)) w.heap.size [.int .i64 2, .int .i64 n, .int .i64 k, .int .i64 p, .int .i64 ep, .int .i64 s, .bool t, .slice A rs.length c] := Blk.new' _ _ rfl
  have hb1 := bl_alloc (Below.refl w.heap.size w) (.cells #[.int .i64 2, .int .i64 n, .int .i64 k, .int .i64 p, .int .i64 ep, .int .i64 s, .bool t, .slice A rs.length c] 32)
  have h1 := h.below hb1
  have hR1 := hR.below hb1
  dsimp only at hcon
  replace hcon := Lib.hid hcon
  clear hx
  go_enter Try.func12, Try.ntmps12
  go_wp2_with (first | (go_at_call 24; refine (lnone_any lb tb _ (by first | exact c0 | exact h1.c0)).mono ?_; rintro e w' ⟨rfl, rfl⟩) | (go_at_call 25; refine hcon.out.mono ?_; rintro e w2 ⟨rfl, hb2⟩; have h2 := h1.below hb2; have hB2 := hB0.below hb2 hB0.lt; have q0 := hB2.cell; have l2 := hB2.lt))
  have h3 := h2.alloc (.cells #[.int .i64 k, .int .i64 p, .int .i64 ep, .int .i64 s, .bool t, .slice A rs.length c] 30)
  have hB3 := hB2.alloc (.cells #[.int .i64 k, .int .i64 p, .int .i64 ep, .int .i64 s, .bool t, .slice A rs.length c] 30)
  have hbW := bl_alloc (bl_tr hb1 hb2) (.cells #[.int .i64 k, .int .i64 p, .int .i64 ep, .int .i64 s, .bool t, .slice A rs.length c] 30)
  have hC3 : Blk (w2.alloc (.cells #[.int .i64 k, .int .i64 p, .int .i64 ep, .int .i64 s, .bool t, .slice A rs.length c] 30)) w2.heap.size [.int .i64 k, .int .i64 p, .int .i64 ep, .int .i64 s, .bool t, .slice A rs.length c] := Blk.new' _ _ rfl
  have hR3 := (hR1.below hb2).below (bl_alloc (Below.refl _ _) (.cells #[.int .i64 k, .int .i64 p, .int .i64 ep, .int .i64 s, .bool t, .slice A rs.length c] 30))
  obtain ⟨W, hWe⟩ : ∃ W, W = w2.alloc (.cells #[.int .i64 k, .int .i64 p, .int .i64 ep, .int .i64 s, .bool t, .slice A rs.length c] 30) := ⟨_, rfl⟩
  rw [← hWe] at h3 hB3 hbW hC3 hR3 ⊢
  have l3 := h3.blk.lt
  have k3 := hB3.lt
  have m3 := hC3.lt
  clear hWe q0 hB2 h2 hR1 h1 hB0 hb1 hb2 hcon l2 c0 l0 h hR
  have c3 := hB3.cell
  have d3 := hC3.cell
  have f3 := h3.blk.cell
  simp only [lgL] at f3
  go_region_held3 (fun w' => (∀ b o, b < W.heap.size → w'.cell? ⟨b, o, none⟩ = W.cell? ⟨b, o, none⟩) ∧ Below W.heap.size W w')
    (first | exact keep_drew W | exact keep_step ‹_› ‹_›)
    ((go_at_call 16; refine (stable_any (h3.below (keep_drew W).2) hn).mono ?_; rintro e w4 ⟨rfl, hb4⟩))
  have h4 := (h3.below (keep_drew W).2).below hb4
  have hB4 := (hB3.drew).below hb4 hB3.lt
  have e0 := hB4.cell
  have e1 := h4.blk.cell
  simp only [lgL] at e1
  have e2 := h4.blk.lt
  go_wp2_with fail
  go_quiet (fail)
  go_wp2_with fail
  go_ret3
  exact ⟨rfl, below_drewN (bl_tr (bl_drew hbW) hb4) _⟩
set_option maxRecDepth 100000 in
set_option maxHeartbeats 2000000 in
theorem decide_compact (h : LgAt w n0 lb tb mb nn rA rc oA oc gA gc L) (hn : nn ≤ 1000000000) (x : En) (A : Option Addr) (c : Nat) (hR : RecsAt w A x.b.rs) (hs : okI x.b.s) (hx : rightB x = true) (hk : x.kind = 3) (hst : x.n ≤ L.stable) :
    Calls Try.prog 12 #[.pointer (some ⟨lb, 0, none⟩), .agg #[.int .i64 x.kind, .int .i64 x.n, .int .i64 x.b.k, .int .i64 x.b.p, .int .i64 x.b.ep, .int .i64 x.b.s, .bool x.b.t, .slice A x.b.rs.length c]] w fun e w' =>
      e = .returned (.tuple #[.int .i64 (L.decide x).1, .bool (L.decide x).2.1, .int .i64 (L.decide x).2.2]) ∧ Below w.heap.size w w' := by
  rw [show L.decide x = (0, decide ((L.kept x.n).length = L.rows.length), 0) by simp [Lg.decide, hx, hk, Int.not_lt.2 hst]]
  obtain ⟨kind, n, k, p, ep, s, t, rs⟩ := x
  dsimp only at hR hs hx hk hst ⊢
  have hcon := right_any ⟨kind, n, k, p, ep, s, t, rs⟩ A c _ (hR.below (bl_alloc (Below.refl w.heap.size w) (.cells #[.int .i64 kind, .int .i64 n, .int .i64 k, .int .i64 p, .int .i64 ep, .int .i64 s, .bool t, .slice A rs.length c] 32))) hs
  rw [hx] at hcon
  subst hk
  have c0 := h.c0
  have l0 := h.blk.lt
  have hB0 : Blk (w.alloc (.cells #[.int .i64 3, .int .i64 n, .int .i64 k, .int .i64 p, .int .i64 ep, .int .i64 s, .bool t, .slice A rs.length c] 32)) w.heap.size [.int .i64 3, .int .i64 n, .int .i64 k, .int .i64 p, .int .i64 ep, .int .i64 s, .bool t, .slice A rs.length c] := Blk.new' _ _ rfl
  have hb1 := bl_alloc (Below.refl w.heap.size w) (.cells #[.int .i64 3, .int .i64 n, .int .i64 k, .int .i64 p, .int .i64 ep, .int .i64 s, .bool t, .slice A rs.length c] 32)
  have h1 := h.below hb1
  have hR1 := hR.below hb1
  dsimp only at hcon
  replace hcon := Lib.hid hcon
  clear hx
  go_enter Try.func12, Try.ntmps12
  go_wp2_with (first | (go_at_call 24; refine (lnone_any lb tb _ (by first | exact c0 | exact h1.c0)).mono ?_; rintro e w' ⟨rfl, rfl⟩) | (go_at_call 25; refine hcon.out.mono ?_; rintro e w2 ⟨rfl, hb2⟩; have h2 := h1.below hb2; have hB2 := hB0.below hb2 hB0.lt; have q0 := hB2.cell; have l2 := hB2.lt))
  have h3 := h2.alloc (.cells #[.int .i64 k, .int .i64 p, .int .i64 ep, .int .i64 s, .bool t, .slice A rs.length c] 30)
  have hB3 := hB2.alloc (.cells #[.int .i64 k, .int .i64 p, .int .i64 ep, .int .i64 s, .bool t, .slice A rs.length c] 30)
  have hbW := bl_alloc (bl_tr hb1 hb2) (.cells #[.int .i64 k, .int .i64 p, .int .i64 ep, .int .i64 s, .bool t, .slice A rs.length c] 30)
  have hC3 : Blk (w2.alloc (.cells #[.int .i64 k, .int .i64 p, .int .i64 ep, .int .i64 s, .bool t, .slice A rs.length c] 30)) w2.heap.size [.int .i64 k, .int .i64 p, .int .i64 ep, .int .i64 s, .bool t, .slice A rs.length c] := Blk.new' _ _ rfl
  have hR3 := (hR1.below hb2).below (bl_alloc (Below.refl _ _) (.cells #[.int .i64 k, .int .i64 p, .int .i64 ep, .int .i64 s, .bool t, .slice A rs.length c] 30))
  obtain ⟨W, hWe⟩ : ∃ W, W = w2.alloc (.cells #[.int .i64 k, .int .i64 p, .int .i64 ep, .int .i64 s, .bool t, .slice A rs.length c] 30) := ⟨_, rfl⟩
  rw [← hWe] at h3 hB3 hbW hC3 hR3 ⊢
  have l3 := h3.blk.lt
  have k3 := hB3.lt
  have m3 := hC3.lt
  clear hWe q0 hB2 h2 hR1 h1 hB0 hb1 hb2 hcon l2 c0 l0 h hR
  have c3 := hB3.cell
  have d3 := hC3.cell
  have f3 := h3.blk.cell
  simp only [lgL] at f3
  go_region_held3 (fun w' => (∀ b o, b < W.heap.size → w'.cell? ⟨b, o, none⟩ = W.cell? ⟨b, o, none⟩) ∧ Below W.heap.size W w')
    (first | exact keep_drew W | exact keep_step ‹_› ‹_›)
    ((go_at_call 16; refine (stable_any (h3.below (keep_drew W).2) hn).mono ?_; rintro e w4 ⟨rfl, hb4⟩))
  have h4 := (h3.below (keep_drew W).2).below hb4
  have hB4 := (hB3.drew).below hb4 hB3.lt
  have hrl := h4.good.rl
  have hgl := h4.good.gl
  have hky := Lib.hid h4.good.key
  have hb5 := bl_tr (bl_drew hbW) hb4
  have e0 := hB4.cell
  have e1 := h4.blk.cell
  simp only [lgL] at e1
  have l4 := h4.blk.lt
  have k4 := hB4.lt
  clear hB3 hC3 hR3 h3
  go_wp2_with fail
  go_region_held3 (fun w' => (∀ b o, b < w4.heap.size → w'.cell? ⟨b, o, none⟩ = w4.cell? ⟨b, o, none⟩) ∧ Below w4.heap.size w4 w')
    (first | exact keep_drew w4 | exact keep_step ‹_› ‹_›)
    ((go_at_call 26; refine (kept_any n lb tb _ _ _ _ _ L.rows _ _ L.gone _ (h4.below (keep_drew w4).2).blk (h4.below (keep_drew w4).2).rowsAt (h4.below (keep_drew w4).2).goneAt (by omega) (by omega) hky.out).mono ?_; rintro e w5 ⟨A5, c5, rfl, hown5, hb6⟩))
  go_wp2_with fail
  go_ret3
  refine ⟨?_, bl_tr (bl_drew hb5) hb6⟩
  unfold Lg.kept
  rw [show (((L.rows.filter (staysP L.gone n (lastF L.gone n L.rows))).length : Int) == (L.rows.length : Int)) = decide ((L.rows.filter (staysP L.gone n (lastF L.gone n L.rows))).length = L.rows.length) by rw [beqD]; simp only [Int.ofNat_inj]]
  rfl
set_option maxRecDepth 100000 in
set_option maxHeartbeats 2000000 in
theorem decide_batch0 (h : LgAt w n0 lb tb mb nn rA rc oA oc gA gc L) (hn : nn ≤ 1000000000) (x : En) (A : Option Addr) (c : Nat) (hR : RecsAt w A x.b.rs) (hs : okI x.b.s) (hx : rightB x = true) (hk : x.kind = 1) (hd : (decideF (lookI L.m x.b.p) x.b.k x.b.p x.b.ep x.b.s x.b.t x.b.rs).2.2 ≠ 0 ∨ (decideF (lookI L.m x.b.p) x.b.k x.b.p x.b.ep x.b.s x.b.t x.b.rs).2.1 = true) :
    Calls Try.prog 12 #[.pointer (some ⟨lb, 0, none⟩), .agg #[.int .i64 x.kind, .int .i64 x.n, .int .i64 x.b.k, .int .i64 x.b.p, .int .i64 x.b.ep, .int .i64 x.b.s, .bool x.b.t, .slice A x.b.rs.length c]] w fun e w' =>
      e = .returned (.tuple #[.int .i64 (L.decide x).1, .bool (L.decide x).2.1, .int .i64 (L.decide x).2.2]) ∧ Below w.heap.size w w' := by
  rw [show L.decide x = decideF (lookI L.m x.b.p) x.b.k x.b.p x.b.ep x.b.s x.b.t x.b.rs by unfold Lg.decide; rw [if_neg (by simp [hx]), if_neg (by simp [hk]), if_neg (by simp [hk]), if_neg (by simp [hk]), if_pos hd]]
  obtain ⟨D, hD⟩ : ∃ D, decideF (lookI L.m x.b.p) x.b.k x.b.p x.b.ep x.b.s x.b.t x.b.rs = D := ⟨_, rfl⟩
  rw [hD] at hd ⊢
  have HD := Lib.hid hD
  clear hD
  obtain ⟨kind, n, k, p, ep, s, t, rs⟩ := x
  dsimp only at hR hs hx hk HD ⊢
  have hcon := right_any ⟨kind, n, k, p, ep, s, t, rs⟩ A c _ (hR.below (bl_alloc (Below.refl w.heap.size w) (.cells #[.int .i64 kind, .int .i64 n, .int .i64 k, .int .i64 p, .int .i64 ep, .int .i64 s, .bool t, .slice A rs.length c] 32))) hs
  rw [hx] at hcon
  subst hk
  have c0 := h.c0
  have l0 := h.blk.lt
  have hB0 : Blk (w.alloc (.cells #[.int .i64 1, .int .i64 n, .int .i64 k, .int .i64 p, .int .i64 ep, .int .i64 s, .bool t, .slice A rs.length c] 32)) w.heap.size [.int .i64 1, .int .i64 n, .int .i64 k, .int .i64 p, .int .i64 ep, .int .i64 s, .bool t, .slice A rs.length c] := Blk.new' _ _ rfl
  have hb1 := bl_alloc (Below.refl w.heap.size w) (.cells #[.int .i64 1, .int .i64 n, .int .i64 k, .int .i64 p, .int .i64 ep, .int .i64 s, .bool t, .slice A rs.length c] 32)
  have h1 := h.below hb1
  have hR1 := hR.below hb1
  dsimp only at hcon
  replace hcon := Lib.hid hcon
  clear hx
  go_enter Try.func12, Try.ntmps12
  go_wp2_with (first | (go_at_call 24; refine (lnone_any lb tb _ (by first | exact c0 | exact h1.c0)).mono ?_; rintro e w' ⟨rfl, rfl⟩) | (go_at_call 25; refine hcon.out.mono ?_; rintro e w2 ⟨rfl, hb2⟩; have h2 := h1.below hb2; have hB2 := hB0.below hb2 hB0.lt; have q0 := hB2.cell; have l2 := hB2.lt))
  have h3 := h2.alloc (.cells #[.int .i64 k, .int .i64 p, .int .i64 ep, .int .i64 s, .bool t, .slice A rs.length c] 30)
  have hB3 := hB2.alloc (.cells #[.int .i64 k, .int .i64 p, .int .i64 ep, .int .i64 s, .bool t, .slice A rs.length c] 30)
  have hbW := bl_alloc (bl_tr hb1 hb2) (.cells #[.int .i64 k, .int .i64 p, .int .i64 ep, .int .i64 s, .bool t, .slice A rs.length c] 30)
  have hC3 : Blk (w2.alloc (.cells #[.int .i64 k, .int .i64 p, .int .i64 ep, .int .i64 s, .bool t, .slice A rs.length c] 30)) w2.heap.size [.int .i64 k, .int .i64 p, .int .i64 ep, .int .i64 s, .bool t, .slice A rs.length c] := Blk.new' _ _ rfl
  have hR3 := (hR1.below hb2).below (bl_alloc (Below.refl _ _) (.cells #[.int .i64 k, .int .i64 p, .int .i64 ep, .int .i64 s, .bool t, .slice A rs.length c] 30))
  obtain ⟨W, hWe⟩ : ∃ W, W = w2.alloc (.cells #[.int .i64 k, .int .i64 p, .int .i64 ep, .int .i64 s, .bool t, .slice A rs.length c] 30) := ⟨_, rfl⟩
  rw [← hWe] at h3 hB3 hbW hC3 hR3 ⊢
  have l3 := h3.blk.lt
  have k3 := hB3.lt
  have m3 := hC3.lt
  clear hWe q0 hB2 h2 hR1 h1 hB0 hb1 hb2 hcon l2 c0 l0 h hR
  have c3 := hB3.cell
  have d3 := hC3.cell
  have f3 := h3.blk.cell
  simp only [lgL] at f3
  go_quiet (fail)
  go_wp2_with fail
  have hV := below_drewN (Below.refl W.heap.size W) nq
  have h5 := h3.below hV
  have hB5 := hB3.below hV k3
  have hC5 := hC3.below hV m3
  have hR5 := hR3.below hV
  have hbV := bl_tr hbW hV
  clear hV
  obtain ⟨V, hVe⟩ : ∃ V, V = W.drewN nq := ⟨_, rfl⟩
  rw [← hVe] at h5 hB5 hC5 hR5 hbV ⊢
  clear hVe h3 hB3 hC3 hR3 hbW l3 k3 m3 c3 d3 f3
  have l5 := h5.blk.lt
  have k5 := hB5.lt
  have m5 := hC5.lt
  have d5 := hC5.cell
  have f5 := h5.blk.cell
  simp only [lgL] at f5
  have hds := Lib.hid (show ∀ st, lookI L.m p = some st → st.ds.length ≤ 4611686018427387904 from fun st e => by have := (h5.good.m.look e).2.2; omega)
  go_region_held3 (fun w' => (∀ b o, b < V.heap.size → w'.cell? ⟨b, o, none⟩ = V.cell? ⟨b, o, none⟩) ∧ Below V.heap.size V w')
    (first | exact keep_drew V | exact keep_step ‹_› ‹_›)
    ((go_at_call 27; refine (decide_any tb mb nn L.m k p ep s t A c rs _ (h5.below (keep_drew V).2).tab (h5.below (keep_drew V).2).im (hR5.below (keep_drew V).2) hs hds.out).mono ?_; rw [HD.out]; rintro e w6 ⟨rfl, hb6⟩))
  obtain ⟨d1, d2, d3⟩ := D
  dsimp only at hd ⊢
  by_cases he : d3 = 0
  · subst he
    have hd2 : d2 = true := by simpa using hd
    subst hd2
    go_wp2_with fail
    go_ret3
    exact ⟨rfl, bl_tr (bl_drew hbV) hb6⟩
  · clear hd
    have he1 : (d3 != 0) = true := by simpa using he
    have he2 : (d3 == 0) = false := by simpa using he
    go_wp2_with fail
    go_ret3
    exact ⟨rfl, bl_tr (bl_drew hbV) hb6⟩
theorem decide_tail {x : En} (hx : rightB x = true) (hk : x.kind = 1) {d1 : Int} (hd : decideF (lookI L.m x.b.p) x.b.k x.b.p x.b.ep x.b.s x.b.t x.b.rs = (d1, false, 0)) : L.decide x =
    if x.b.k ≠ 1 ∧ (txnI L.opn x.b.p).isSome = false ∧ knowsB L.m x.b.p x.b.ep = true then (-1, true, 0) else
    if x.b.k = 1 ∧ (txnI L.opn x.b.p).isSome = true ∧ x.b.t = false then (0, false, 54) else
    if 281474976710656 - L.fin < lenB (isM x.b.k) x.b.rs.length then (0, false, 53) else (L.fin, false, 0) := by
  unfold Lg.decide; rw [if_neg (by simp [hx]), if_neg (by simp [hk]), if_neg (by simp [hk]), if_neg (by simp [hk])]
  simp only [hd]
  rw [if_neg (by simp)]
theorem fi_true {o : List Tx} {p : Int} (hp : 0 ≤ p) (h : (txnI o p).isSome = true) : (0 ≤ fiI (o.findIdx? (hitT p))) = True := by
  unfold txnI at h
  rw [if_neg (by omega)] at h
  cases e : o.findIdx? (hitT p) with
  | none => have e2 : o.findIdx? (fun t => t.prod == p) = none := e; rw [e2] at h; cases h
  | some i => simp [fiI]
theorem fi_false {o : List Tx} {p : Int} (hp : 0 ≤ p) (h : (txnI o p).isSome = false) : (0 ≤ fiI (o.findIdx? (hitT p))) = False := by
  unfold txnI at h
  rw [if_neg (by omega)] at h
  cases e : o.findIdx? (hitT p) with
  | none => simp [fiI]
  | some i => have e2 : o.findIdx? (fun t => t.prod == p) = some i := e; rw [e2] at h; cases h
set_option maxRecDepth 100000 in
set_option maxHeartbeats 2000000 in
theorem decide_p0 (h : LgAt w n0 lb tb mb nn rA rc oA oc gA gc L) (hn : nn ≤ 1000000000) (x : En) (A : Option Addr) (c : Nat) (hR : RecsAt w A x.b.rs) (hs : okI x.b.s) (hx : rightB x = true) (hk : x.kind = 1) (d1 : Int) (hd : decideF (lookI L.m x.b.p) x.b.k x.b.p x.b.ep x.b.s x.b.t x.b.rs = (d1, false, 0)) (hp : x.b.p < 0) (hk1 : x.b.k = 1) :
    Calls Try.prog 12 #[.pointer (some ⟨lb, 0, none⟩), .agg #[.int .i64 x.kind, .int .i64 x.n, .int .i64 x.b.k, .int .i64 x.b.p, .int .i64 x.b.ep, .int .i64 x.b.s, .bool x.b.t, .slice A x.b.rs.length c]] w fun e w' =>
      e = .returned (.tuple #[.int .i64 (L.decide x).1, .bool (L.decide x).2.1, .int .i64 (L.decide x).2.2]) ∧ Below w.heap.size w w' := by
  rw [decide_tail hx hk hd, if_neg (by simp [hk1]), if_neg (by simp [txnI, hp])]
  have HD := Lib.hid hd
  clear hd
  obtain ⟨kind, n, k, p, ep, s, t, rs⟩ := x
  dsimp only at hR hs hx hk HD hp hk1 ⊢
  have hcon := right_any ⟨kind, n, k, p, ep, s, t, rs⟩ A c _ (hR.below (bl_alloc (Below.refl w.heap.size w) (.cells #[.int .i64 kind, .int .i64 n, .int .i64 k, .int .i64 p, .int .i64 ep, .int .i64 s, .bool t, .slice A rs.length c] 32))) hs
  rw [hx] at hcon
  subst hk
  have ka : (k == 1) = true := by simpa using hk1
  have kb : (k != 1) = false := by simpa using hk1
  clear hk1
  have hpn : (0 ≤ p) = False := by simp; omega
  have c0 := h.c0
  have l0 := h.blk.lt
  have hB0 : Blk (w.alloc (.cells #[.int .i64 1, .int .i64 n, .int .i64 k, .int .i64 p, .int .i64 ep, .int .i64 s, .bool t, .slice A rs.length c] 32)) w.heap.size [.int .i64 1, .int .i64 n, .int .i64 k, .int .i64 p, .int .i64 ep, .int .i64 s, .bool t, .slice A rs.length c] := Blk.new' _ _ rfl
  have hb1 := bl_alloc (Below.refl w.heap.size w) (.cells #[.int .i64 1, .int .i64 n, .int .i64 k, .int .i64 p, .int .i64 ep, .int .i64 s, .bool t, .slice A rs.length c] 32)
  have h1 := h.below hb1
  have hR1 := hR.below hb1
  dsimp only at hcon
  replace hcon := Lib.hid hcon
  clear hx
  go_enter Try.func12, Try.ntmps12
  go_wp2_with (first | (go_at_call 24; refine (lnone_any lb tb _ (by first | exact c0 | exact h1.c0)).mono ?_; rintro e w' ⟨rfl, rfl⟩) | (go_at_call 25; refine hcon.out.mono ?_; rintro e w2 ⟨rfl, hb2⟩; have h2 := h1.below hb2; have hB2 := hB0.below hb2 hB0.lt; have q0 := hB2.cell; have l2 := hB2.lt))
  have h3 := h2.alloc (.cells #[.int .i64 k, .int .i64 p, .int .i64 ep, .int .i64 s, .bool t, .slice A rs.length c] 30)
  have hB3 := hB2.alloc (.cells #[.int .i64 k, .int .i64 p, .int .i64 ep, .int .i64 s, .bool t, .slice A rs.length c] 30)
  have hbW := bl_alloc (bl_tr hb1 hb2) (.cells #[.int .i64 k, .int .i64 p, .int .i64 ep, .int .i64 s, .bool t, .slice A rs.length c] 30)
  have hC3 : Blk (w2.alloc (.cells #[.int .i64 k, .int .i64 p, .int .i64 ep, .int .i64 s, .bool t, .slice A rs.length c] 30)) w2.heap.size [.int .i64 k, .int .i64 p, .int .i64 ep, .int .i64 s, .bool t, .slice A rs.length c] := Blk.new' _ _ rfl
  have hR3 := (hR1.below hb2).below (bl_alloc (Below.refl _ _) (.cells #[.int .i64 k, .int .i64 p, .int .i64 ep, .int .i64 s, .bool t, .slice A rs.length c] 30))
  obtain ⟨W, hWe⟩ : ∃ W, W = w2.alloc (.cells #[.int .i64 k, .int .i64 p, .int .i64 ep, .int .i64 s, .bool t, .slice A rs.length c] 30) := ⟨_, rfl⟩
  rw [← hWe] at h3 hB3 hbW hC3 hR3 ⊢
  have l3 := h3.blk.lt
  have k3 := hB3.lt
  have m3 := hC3.lt
  clear hWe q0 hB2 h2 hR1 h1 hB0 hb1 hb2 hcon l2 c0 l0 h hR
  have c3 := hB3.cell
  have d3 := hC3.cell
  have f3 := h3.blk.cell
  simp only [lgL] at f3
  go_quiet (fail)
  go_wp2_with fail
  have hV := below_drewN (Below.refl W.heap.size W) nq
  have h5 := h3.below hV
  have hB5 := hB3.below hV k3
  have hC5 := hC3.below hV m3
  have hR5 := hR3.below hV
  have hbV := bl_tr hbW hV
  clear hV
  obtain ⟨V, hVe⟩ : ∃ V, V = W.drewN nq := ⟨_, rfl⟩
  rw [← hVe] at h5 hB5 hC5 hR5 hbV ⊢
  clear hVe h3 hB3 hC3 hR3 hbW l3 k3 m3 c3 d3 f3
  have l5 := h5.blk.lt
  have k5 := hB5.lt
  have m5 := hC5.lt
  have d5 := hC5.cell
  have f5 := h5.blk.cell
  simp only [lgL] at f5
  have hds := Lib.hid (show ∀ st, lookI L.m p = some st → st.ds.length ≤ 4611686018427387904 from fun st e => by have := (h5.good.m.look e).2.2; omega)
  go_region_held3 (fun w' => (∀ b o, b < V.heap.size → w'.cell? ⟨b, o, none⟩ = V.cell? ⟨b, o, none⟩) ∧ Below V.heap.size V w')
    (first | exact keep_drew V | exact keep_step ‹_› ‹_›)
    ((go_at_call 27; refine (decide_any tb mb nn L.m k p ep s t A c rs _ (h5.below (keep_drew V).2).tab (h5.below (keep_drew V).2).im (hR5.below (keep_drew V).2) hs hds.out).mono ?_; rw [HD.out]; rintro e w6 ⟨rfl, hb6⟩))
  have h6 := (h5.below (keep_drew V).2).below hb6
  have hB6 := (hB5.below (keep_drew V).2 k5).below hb6 k5
  have hC6 := (hC5.below (keep_drew V).2 m5).below hb6 m5
  have hb7 := bl_tr (bl_drew hbV) hb6
  have d6 := hC6.cell
  have l6 := h6.blk.lt
  have m6 := hC6.lt
  have ff := h6.good.ff
  have fs := h6.good.s0
  have fss := h6.good.sf
  have hol := h6.good.ol
  have f6 := h6.blk.cell
  simp only [lgL] at f6
  clear hC5 hB5 hR5 hbV
  go_wp2_with fail
  have hwr : IntKind.i64.wrap (281474976710656 - L.fin) = 281474976710656 - L.fin := IntWalk.i64_in _ (by omega)
  obtain ⟨X, hX⟩ : ∃ X, X = w6 := ⟨_, rfl⟩
  rw [← hX] at h6 hC6 hb7 ⊢
  have f9 := h6.blk.cell
  simp only [lgL] at f9
  have d9 := hC6.cell
  have l9 := h6.blk.lt
  have m9 := hC6.lt
  replace hX := Lib.hid hX
  go_region_held3 (fun w' => (∀ b o, b < X.heap.size → w'.cell? ⟨b, o, none⟩ = X.cell? ⟨b, o, none⟩) ∧ Below X.heap.size X w')
    (first | exact keep_drew X | exact keep_step ‹_› ‹_›)
    ((go_at_call 30; refine (len_any k p ep s t A rs.length c _).mono ?_; rintro e w9 ⟨rfl, hb12⟩))
  by_cases hov : 281474976710656 - L.fin < lenB (isM k) rs.length
  · go_wp2_with fail
    go_ret3
    exact ⟨rfl, bl_tr (bl_drew hb7) hb12⟩
  · have hov2 : decide (281474976710656 - L.fin < lenB (isM k) rs.length) = false := by simpa using hov
    have h10 := (h6.below (keep_drew X).2).below hb12
    have f10 := h10.blk.cell
    simp only [lgL] at f10
    have l10 := h10.blk.lt
    go_wp2_with fail
    go_ret3
    exact ⟨rfl, bl_tr (bl_drew hb7) hb12⟩
set_option maxRecDepth 100000 in
set_option maxHeartbeats 2000000 in
theorem decide_1 (h : LgAt w n0 lb tb mb nn rA rc oA oc gA gc L) (hn : nn ≤ 1000000000) (x : En) (A : Option Addr) (c : Nat) (hR : RecsAt w A x.b.rs) (hs : okI x.b.s) (hx : rightB x = true) (hk : x.kind = 1) (d1 : Int) (hd : decideF (lookI L.m x.b.p) x.b.k x.b.p x.b.ep x.b.s x.b.t x.b.rs = (d1, false, 0)) (hp : 0 ≤ x.b.p) (hk1 : x.b.k = 1) (ho : (txnI L.opn x.b.p).isSome = true) (ht : x.b.t = false) :
    Calls Try.prog 12 #[.pointer (some ⟨lb, 0, none⟩), .agg #[.int .i64 x.kind, .int .i64 x.n, .int .i64 x.b.k, .int .i64 x.b.p, .int .i64 x.b.ep, .int .i64 x.b.s, .bool x.b.t, .slice A x.b.rs.length c]] w fun e w' =>
      e = .returned (.tuple #[.int .i64 (L.decide x).1, .bool (L.decide x).2.1, .int .i64 (L.decide x).2.2]) ∧ Below w.heap.size w w' := by
  rw [decide_tail hx hk hd, if_neg (by simp [hk1]), if_pos ⟨hk1, ho, ht⟩]
  have HD := Lib.hid hd
  clear hd
  obtain ⟨kind, n, k, p, ep, s, t, rs⟩ := x
  dsimp only at hR hs hx hk HD hp hk1 ho ht ⊢
  have hcon := right_any ⟨kind, n, k, p, ep, s, t, rs⟩ A c _ (hR.below (bl_alloc (Below.refl w.heap.size w) (.cells #[.int .i64 kind, .int .i64 n, .int .i64 k, .int .i64 p, .int .i64 ep, .int .i64 s, .bool t, .slice A rs.length c] 32))) hs
  rw [hx] at hcon
  subst hk
  have ka : (k == 1) = true := by simpa using hk1
  have kb : (k != 1) = false := by simpa using hk1
  clear hk1
  have hoo := fi_true hp ho
  replace ho := Lib.hid ho
  have htn : (!t) = true := by simp [ht]
  replace ht := Lib.hid ht
  have c0 := h.c0
  have l0 := h.blk.lt
  have hB0 : Blk (w.alloc (.cells #[.int .i64 1, .int .i64 n, .int .i64 k, .int .i64 p, .int .i64 ep, .int .i64 s, .bool t, .slice A rs.length c] 32)) w.heap.size [.int .i64 1, .int .i64 n, .int .i64 k, .int .i64 p, .int .i64 ep, .int .i64 s, .bool t, .slice A rs.length c] := Blk.new' _ _ rfl
  have hb1 := bl_alloc (Below.refl w.heap.size w) (.cells #[.int .i64 1, .int .i64 n, .int .i64 k, .int .i64 p, .int .i64 ep, .int .i64 s, .bool t, .slice A rs.length c] 32)
  have h1 := h.below hb1
  have hR1 := hR.below hb1
  dsimp only at hcon
  replace hcon := Lib.hid hcon
  clear hx
  go_enter Try.func12, Try.ntmps12
  go_wp2_with (first | (go_at_call 24; refine (lnone_any lb tb _ (by first | exact c0 | exact h1.c0)).mono ?_; rintro e w' ⟨rfl, rfl⟩) | (go_at_call 25; refine hcon.out.mono ?_; rintro e w2 ⟨rfl, hb2⟩; have h2 := h1.below hb2; have hB2 := hB0.below hb2 hB0.lt; have q0 := hB2.cell; have l2 := hB2.lt))
  have h3 := h2.alloc (.cells #[.int .i64 k, .int .i64 p, .int .i64 ep, .int .i64 s, .bool t, .slice A rs.length c] 30)
  have hB3 := hB2.alloc (.cells #[.int .i64 k, .int .i64 p, .int .i64 ep, .int .i64 s, .bool t, .slice A rs.length c] 30)
  have hbW := bl_alloc (bl_tr hb1 hb2) (.cells #[.int .i64 k, .int .i64 p, .int .i64 ep, .int .i64 s, .bool t, .slice A rs.length c] 30)
  have hC3 : Blk (w2.alloc (.cells #[.int .i64 k, .int .i64 p, .int .i64 ep, .int .i64 s, .bool t, .slice A rs.length c] 30)) w2.heap.size [.int .i64 k, .int .i64 p, .int .i64 ep, .int .i64 s, .bool t, .slice A rs.length c] := Blk.new' _ _ rfl
  have hR3 := (hR1.below hb2).below (bl_alloc (Below.refl _ _) (.cells #[.int .i64 k, .int .i64 p, .int .i64 ep, .int .i64 s, .bool t, .slice A rs.length c] 30))
  obtain ⟨W, hWe⟩ : ∃ W, W = w2.alloc (.cells #[.int .i64 k, .int .i64 p, .int .i64 ep, .int .i64 s, .bool t, .slice A rs.length c] 30) := ⟨_, rfl⟩
  rw [← hWe] at h3 hB3 hbW hC3 hR3 ⊢
  have l3 := h3.blk.lt
  have k3 := hB3.lt
  have m3 := hC3.lt
  clear hWe q0 hB2 h2 hR1 h1 hB0 hb1 hb2 hcon l2 c0 l0 h hR
  have c3 := hB3.cell
  have d3 := hC3.cell
  have f3 := h3.blk.cell
  simp only [lgL] at f3
  go_quiet (fail)
  go_wp2_with fail
  have hV := below_drewN (Below.refl W.heap.size W) nq
  have h5 := h3.below hV
  have hB5 := hB3.below hV k3
  have hC5 := hC3.below hV m3
  have hR5 := hR3.below hV
  have hbV := bl_tr hbW hV
  clear hV
  obtain ⟨V, hVe⟩ : ∃ V, V = W.drewN nq := ⟨_, rfl⟩
  rw [← hVe] at h5 hB5 hC5 hR5 hbV ⊢
  clear hVe h3 hB3 hC3 hR3 hbW l3 k3 m3 c3 d3 f3
  have l5 := h5.blk.lt
  have k5 := hB5.lt
  have m5 := hC5.lt
  have d5 := hC5.cell
  have f5 := h5.blk.cell
  simp only [lgL] at f5
  have hds := Lib.hid (show ∀ st, lookI L.m p = some st → st.ds.length ≤ 4611686018427387904 from fun st e => by have := (h5.good.m.look e).2.2; omega)
  go_region_held3 (fun w' => (∀ b o, b < V.heap.size → w'.cell? ⟨b, o, none⟩ = V.cell? ⟨b, o, none⟩) ∧ Below V.heap.size V w')
    (first | exact keep_drew V | exact keep_step ‹_› ‹_›)
    ((go_at_call 27; refine (decide_any tb mb nn L.m k p ep s t A c rs _ (h5.below (keep_drew V).2).tab (h5.below (keep_drew V).2).im (hR5.below (keep_drew V).2) hs hds.out).mono ?_; rw [HD.out]; rintro e w6 ⟨rfl, hb6⟩))
  have h6 := (h5.below (keep_drew V).2).below hb6
  have hB6 := (hB5.below (keep_drew V).2 k5).below hb6 k5
  have hC6 := (hC5.below (keep_drew V).2 m5).below hb6 m5
  have hb7 := bl_tr (bl_drew hbV) hb6
  have d6 := hC6.cell
  have l6 := h6.blk.lt
  have m6 := hC6.lt
  have ff := h6.good.ff
  have fs := h6.good.s0
  have fss := h6.good.sf
  have hol := h6.good.ol
  have f6 := h6.blk.cell
  simp only [lgL] at f6
  clear hC5 hB5 hR5 hbV
  go_wp2_with (go_at_call 28; refine (txn_any p lb tb _ _ _ _ _ _ L.opn _ h6.blk h6.opnAt (by omega)).mono ?_; rintro e w7 ⟨rfl, hb8⟩; have h7 := h6.below hb8; have hC7 := hC6.below hb8 m6; have d7 := hC7.cell; have l7 := h7.blk.lt; have m7 := hC7.lt; have hb9 := bl_tr hb7 hb8)
  go_ret3
  exact ⟨rfl, hb9⟩
set_option maxRecDepth 100000 in
set_option maxHeartbeats 2000000 in
theorem decide_2 (h : LgAt w n0 lb tb mb nn rA rc oA oc gA gc L) (hn : nn ≤ 1000000000) (x : En) (A : Option Addr) (c : Nat) (hR : RecsAt w A x.b.rs) (hs : okI x.b.s) (hx : rightB x = true) (hk : x.kind = 1) (d1 : Int) (hd : decideF (lookI L.m x.b.p) x.b.k x.b.p x.b.ep x.b.s x.b.t x.b.rs = (d1, false, 0)) (hp : 0 ≤ x.b.p) (hk1 : x.b.k = 1) (ho : (txnI L.opn x.b.p).isSome = true) (ht : x.b.t = true) :
    Calls Try.prog 12 #[.pointer (some ⟨lb, 0, none⟩), .agg #[.int .i64 x.kind, .int .i64 x.n, .int .i64 x.b.k, .int .i64 x.b.p, .int .i64 x.b.ep, .int .i64 x.b.s, .bool x.b.t, .slice A x.b.rs.length c]] w fun e w' =>
      e = .returned (.tuple #[.int .i64 (L.decide x).1, .bool (L.decide x).2.1, .int .i64 (L.decide x).2.2]) ∧ Below w.heap.size w w' := by
  rw [decide_tail hx hk hd, if_neg (by simp [hk1]), if_neg (by simp [ht])]
  have HD := Lib.hid hd
  clear hd
  obtain ⟨kind, n, k, p, ep, s, t, rs⟩ := x
  dsimp only at hR hs hx hk HD hp hk1 ho ht ⊢
  have hcon := right_any ⟨kind, n, k, p, ep, s, t, rs⟩ A c _ (hR.below (bl_alloc (Below.refl w.heap.size w) (.cells #[.int .i64 kind, .int .i64 n, .int .i64 k, .int .i64 p, .int .i64 ep, .int .i64 s, .bool t, .slice A rs.length c] 32))) hs
  rw [hx] at hcon
  subst hk
  have ka : (k == 1) = true := by simpa using hk1
  have kb : (k != 1) = false := by simpa using hk1
  clear hk1
  have hoo := fi_true hp ho
  replace ho := Lib.hid ho
  have htn : (!t) = false := by simp [ht]
  replace ht := Lib.hid ht
  have c0 := h.c0
  have l0 := h.blk.lt
  have hB0 : Blk (w.alloc (.cells #[.int .i64 1, .int .i64 n, .int .i64 k, .int .i64 p, .int .i64 ep, .int .i64 s, .bool t, .slice A rs.length c] 32)) w.heap.size [.int .i64 1, .int .i64 n, .int .i64 k, .int .i64 p, .int .i64 ep, .int .i64 s, .bool t, .slice A rs.length c] := Blk.new' _ _ rfl
  have hb1 := bl_alloc (Below.refl w.heap.size w) (.cells #[.int .i64 1, .int .i64 n, .int .i64 k, .int .i64 p, .int .i64 ep, .int .i64 s, .bool t, .slice A rs.length c] 32)
  have h1 := h.below hb1
  have hR1 := hR.below hb1
  dsimp only at hcon
  replace hcon := Lib.hid hcon
  clear hx
  go_enter Try.func12, Try.ntmps12
  go_wp2_with (first | (go_at_call 24; refine (lnone_any lb tb _ (by first | exact c0 | exact h1.c0)).mono ?_; rintro e w' ⟨rfl, rfl⟩) | (go_at_call 25; refine hcon.out.mono ?_; rintro e w2 ⟨rfl, hb2⟩; have h2 := h1.below hb2; have hB2 := hB0.below hb2 hB0.lt; have q0 := hB2.cell; have l2 := hB2.lt))
  have h3 := h2.alloc (.cells #[.int .i64 k, .int .i64 p, .int .i64 ep, .int .i64 s, .bool t, .slice A rs.length c] 30)
  have hB3 := hB2.alloc (.cells #[.int .i64 k, .int .i64 p, .int .i64 ep, .int .i64 s, .bool t, .slice A rs.length c] 30)
  have hbW := bl_alloc (bl_tr hb1 hb2) (.cells #[.int .i64 k, .int .i64 p, .int .i64 ep, .int .i64 s, .bool t, .slice A rs.length c] 30)
  have hC3 : Blk (w2.alloc (.cells #[.int .i64 k, .int .i64 p, .int .i64 ep, .int .i64 s, .bool t, .slice A rs.length c] 30)) w2.heap.size [.int .i64 k, .int .i64 p, .int .i64 ep, .int .i64 s, .bool t, .slice A rs.length c] := Blk.new' _ _ rfl
  have hR3 := (hR1.below hb2).below (bl_alloc (Below.refl _ _) (.cells #[.int .i64 k, .int .i64 p, .int .i64 ep, .int .i64 s, .bool t, .slice A rs.length c] 30))
  obtain ⟨W, hWe⟩ : ∃ W, W = w2.alloc (.cells #[.int .i64 k, .int .i64 p, .int .i64 ep, .int .i64 s, .bool t, .slice A rs.length c] 30) := ⟨_, rfl⟩
  rw [← hWe] at h3 hB3 hbW hC3 hR3 ⊢
  have l3 := h3.blk.lt
  have k3 := hB3.lt
  have m3 := hC3.lt
  clear hWe q0 hB2 h2 hR1 h1 hB0 hb1 hb2 hcon l2 c0 l0 h hR
  have c3 := hB3.cell
  have d3 := hC3.cell
  have f3 := h3.blk.cell
  simp only [lgL] at f3
  go_quiet (fail)
  go_wp2_with fail
  have hV := below_drewN (Below.refl W.heap.size W) nq
  have h5 := h3.below hV
  have hB5 := hB3.below hV k3
  have hC5 := hC3.below hV m3
  have hR5 := hR3.below hV
  have hbV := bl_tr hbW hV
  clear hV
  obtain ⟨V, hVe⟩ : ∃ V, V = W.drewN nq := ⟨_, rfl⟩
  rw [← hVe] at h5 hB5 hC5 hR5 hbV ⊢
  clear hVe h3 hB3 hC3 hR3 hbW l3 k3 m3 c3 d3 f3
  have l5 := h5.blk.lt
  have k5 := hB5.lt
  have m5 := hC5.lt
  have d5 := hC5.cell
  have f5 := h5.blk.cell
  simp only [lgL] at f5
  have hds := Lib.hid (show ∀ st, lookI L.m p = some st → st.ds.length ≤ 4611686018427387904 from fun st e => by have := (h5.good.m.look e).2.2; omega)
  go_region_held3 (fun w' => (∀ b o, b < V.heap.size → w'.cell? ⟨b, o, none⟩ = V.cell? ⟨b, o, none⟩) ∧ Below V.heap.size V w')
    (first | exact keep_drew V | exact keep_step ‹_› ‹_›)
    ((go_at_call 27; refine (decide_any tb mb nn L.m k p ep s t A c rs _ (h5.below (keep_drew V).2).tab (h5.below (keep_drew V).2).im (hR5.below (keep_drew V).2) hs hds.out).mono ?_; rw [HD.out]; rintro e w6 ⟨rfl, hb6⟩))
  have h6 := (h5.below (keep_drew V).2).below hb6
  have hB6 := (hB5.below (keep_drew V).2 k5).below hb6 k5
  have hC6 := (hC5.below (keep_drew V).2 m5).below hb6 m5
  have hb7 := bl_tr (bl_drew hbV) hb6
  have d6 := hC6.cell
  have l6 := h6.blk.lt
  have m6 := hC6.lt
  have ff := h6.good.ff
  have fs := h6.good.s0
  have fss := h6.good.sf
  have hol := h6.good.ol
  have f6 := h6.blk.cell
  simp only [lgL] at f6
  clear hC5 hB5 hR5 hbV
  go_wp2_with (go_at_call 28; refine (txn_any p lb tb _ _ _ _ _ _ L.opn _ h6.blk h6.opnAt (by omega)).mono ?_; rintro e w7 ⟨rfl, hb8⟩; have h7 := h6.below hb8; have hC7 := hC6.below hb8 m6; have d7 := hC7.cell; have l7 := h7.blk.lt; have m7 := hC7.lt; have hb9 := bl_tr hb7 hb8)
  have hwr : IntKind.i64.wrap (281474976710656 - L.fin) = 281474976710656 - L.fin := IntWalk.i64_in _ (by omega)
  obtain ⟨X, hX⟩ : ∃ X, X = w7 := ⟨_, rfl⟩
  rw [← hX] at h7 hC7 hb9 ⊢
  have f9 := h7.blk.cell
  simp only [lgL] at f9
  have d9 := hC7.cell
  have l9 := h7.blk.lt
  have m9 := hC7.lt
  replace hX := Lib.hid hX
  go_region_held3 (fun w' => (∀ b o, b < X.heap.size → w'.cell? ⟨b, o, none⟩ = X.cell? ⟨b, o, none⟩) ∧ Below X.heap.size X w')
    (first | exact keep_drew X | exact keep_step ‹_› ‹_›)
    ((go_at_call 30; refine (len_any k p ep s t A rs.length c _).mono ?_; rintro e w9 ⟨rfl, hb12⟩))
  by_cases hov : 281474976710656 - L.fin < lenB (isM k) rs.length
  · go_wp2_with fail
    go_ret3
    exact ⟨rfl, bl_tr (bl_drew hb9) hb12⟩
  · have hov2 : decide (281474976710656 - L.fin < lenB (isM k) rs.length) = false := by simpa using hov
    have h10 := (h7.below (keep_drew X).2).below hb12
    have f10 := h10.blk.cell
    simp only [lgL] at f10
    have l10 := h10.blk.lt
    go_wp2_with fail
    go_ret3
    exact ⟨rfl, bl_tr (bl_drew hb9) hb12⟩
set_option maxRecDepth 100000 in
set_option maxHeartbeats 2000000 in
theorem decide_3 (h : LgAt w n0 lb tb mb nn rA rc oA oc gA gc L) (hn : nn ≤ 1000000000) (x : En) (A : Option Addr) (c : Nat) (hR : RecsAt w A x.b.rs) (hs : okI x.b.s) (hx : rightB x = true) (hk : x.kind = 1) (d1 : Int) (hd : decideF (lookI L.m x.b.p) x.b.k x.b.p x.b.ep x.b.s x.b.t x.b.rs = (d1, false, 0)) (hp : 0 ≤ x.b.p) (hk1 : x.b.k = 1) (ho : (txnI L.opn x.b.p).isSome = false) :
    Calls Try.prog 12 #[.pointer (some ⟨lb, 0, none⟩), .agg #[.int .i64 x.kind, .int .i64 x.n, .int .i64 x.b.k, .int .i64 x.b.p, .int .i64 x.b.ep, .int .i64 x.b.s, .bool x.b.t, .slice A x.b.rs.length c]] w fun e w' =>
      e = .returned (.tuple #[.int .i64 (L.decide x).1, .bool (L.decide x).2.1, .int .i64 (L.decide x).2.2]) ∧ Below w.heap.size w w' := by
  rw [decide_tail hx hk hd, if_neg (by simp [hk1]), if_neg (by simp [ho])]
  have HD := Lib.hid hd
  clear hd
  obtain ⟨kind, n, k, p, ep, s, t, rs⟩ := x
  dsimp only at hR hs hx hk HD hp hk1 ho ⊢
  have hcon := right_any ⟨kind, n, k, p, ep, s, t, rs⟩ A c _ (hR.below (bl_alloc (Below.refl w.heap.size w) (.cells #[.int .i64 kind, .int .i64 n, .int .i64 k, .int .i64 p, .int .i64 ep, .int .i64 s, .bool t, .slice A rs.length c] 32))) hs
  rw [hx] at hcon
  subst hk
  have ka : (k == 1) = true := by simpa using hk1
  have kb : (k != 1) = false := by simpa using hk1
  clear hk1
  have hoo := fi_false hp ho
  replace ho := Lib.hid ho
  have c0 := h.c0
  have l0 := h.blk.lt
  have hB0 : Blk (w.alloc (.cells #[.int .i64 1, .int .i64 n, .int .i64 k, .int .i64 p, .int .i64 ep, .int .i64 s, .bool t, .slice A rs.length c] 32)) w.heap.size [.int .i64 1, .int .i64 n, .int .i64 k, .int .i64 p, .int .i64 ep, .int .i64 s, .bool t, .slice A rs.length c] := Blk.new' _ _ rfl
  have hb1 := bl_alloc (Below.refl w.heap.size w) (.cells #[.int .i64 1, .int .i64 n, .int .i64 k, .int .i64 p, .int .i64 ep, .int .i64 s, .bool t, .slice A rs.length c] 32)
  have h1 := h.below hb1
  have hR1 := hR.below hb1
  dsimp only at hcon
  replace hcon := Lib.hid hcon
  clear hx
  go_enter Try.func12, Try.ntmps12
  go_wp2_with (first | (go_at_call 24; refine (lnone_any lb tb _ (by first | exact c0 | exact h1.c0)).mono ?_; rintro e w' ⟨rfl, rfl⟩) | (go_at_call 25; refine hcon.out.mono ?_; rintro e w2 ⟨rfl, hb2⟩; have h2 := h1.below hb2; have hB2 := hB0.below hb2 hB0.lt; have q0 := hB2.cell; have l2 := hB2.lt))
  have h3 := h2.alloc (.cells #[.int .i64 k, .int .i64 p, .int .i64 ep, .int .i64 s, .bool t, .slice A rs.length c] 30)
  have hB3 := hB2.alloc (.cells #[.int .i64 k, .int .i64 p, .int .i64 ep, .int .i64 s, .bool t, .slice A rs.length c] 30)
  have hbW := bl_alloc (bl_tr hb1 hb2) (.cells #[.int .i64 k, .int .i64 p, .int .i64 ep, .int .i64 s, .bool t, .slice A rs.length c] 30)
  have hC3 : Blk (w2.alloc (.cells #[.int .i64 k, .int .i64 p, .int .i64 ep, .int .i64 s, .bool t, .slice A rs.length c] 30)) w2.heap.size [.int .i64 k, .int .i64 p, .int .i64 ep, .int .i64 s, .bool t, .slice A rs.length c] := Blk.new' _ _ rfl
  have hR3 := (hR1.below hb2).below (bl_alloc (Below.refl _ _) (.cells #[.int .i64 k, .int .i64 p, .int .i64 ep, .int .i64 s, .bool t, .slice A rs.length c] 30))
  obtain ⟨W, hWe⟩ : ∃ W, W = w2.alloc (.cells #[.int .i64 k, .int .i64 p, .int .i64 ep, .int .i64 s, .bool t, .slice A rs.length c] 30) := ⟨_, rfl⟩
  rw [← hWe] at h3 hB3 hbW hC3 hR3 ⊢
  have l3 := h3.blk.lt
  have k3 := hB3.lt
  have m3 := hC3.lt
  clear hWe q0 hB2 h2 hR1 h1 hB0 hb1 hb2 hcon l2 c0 l0 h hR
  have c3 := hB3.cell
  have d3 := hC3.cell
  have f3 := h3.blk.cell
  simp only [lgL] at f3
  go_quiet (fail)
  go_wp2_with fail
  have hV := below_drewN (Below.refl W.heap.size W) nq
  have h5 := h3.below hV
  have hB5 := hB3.below hV k3
  have hC5 := hC3.below hV m3
  have hR5 := hR3.below hV
  have hbV := bl_tr hbW hV
  clear hV
  obtain ⟨V, hVe⟩ : ∃ V, V = W.drewN nq := ⟨_, rfl⟩
  rw [← hVe] at h5 hB5 hC5 hR5 hbV ⊢
  clear hVe h3 hB3 hC3 hR3 hbW l3 k3 m3 c3 d3 f3
  have l5 := h5.blk.lt
  have k5 := hB5.lt
  have m5 := hC5.lt
  have d5 := hC5.cell
  have f5 := h5.blk.cell
  simp only [lgL] at f5
  have hds := Lib.hid (show ∀ st, lookI L.m p = some st → st.ds.length ≤ 4611686018427387904 from fun st e => by have := (h5.good.m.look e).2.2; omega)
  go_region_held3 (fun w' => (∀ b o, b < V.heap.size → w'.cell? ⟨b, o, none⟩ = V.cell? ⟨b, o, none⟩) ∧ Below V.heap.size V w')
    (first | exact keep_drew V | exact keep_step ‹_› ‹_›)
    ((go_at_call 27; refine (decide_any tb mb nn L.m k p ep s t A c rs _ (h5.below (keep_drew V).2).tab (h5.below (keep_drew V).2).im (hR5.below (keep_drew V).2) hs hds.out).mono ?_; rw [HD.out]; rintro e w6 ⟨rfl, hb6⟩))
  have h6 := (h5.below (keep_drew V).2).below hb6
  have hB6 := (hB5.below (keep_drew V).2 k5).below hb6 k5
  have hC6 := (hC5.below (keep_drew V).2 m5).below hb6 m5
  have hb7 := bl_tr (bl_drew hbV) hb6
  have d6 := hC6.cell
  have l6 := h6.blk.lt
  have m6 := hC6.lt
  have ff := h6.good.ff
  have fs := h6.good.s0
  have fss := h6.good.sf
  have hol := h6.good.ol
  have f6 := h6.blk.cell
  simp only [lgL] at f6
  clear hC5 hB5 hR5 hbV
  go_wp2_with (go_at_call 28; refine (txn_any p lb tb _ _ _ _ _ _ L.opn _ h6.blk h6.opnAt (by omega)).mono ?_; rintro e w7 ⟨rfl, hb8⟩; have h7 := h6.below hb8; have hC7 := hC6.below hb8 m6; have d7 := hC7.cell; have l7 := h7.blk.lt; have m7 := hC7.lt; have hb9 := bl_tr hb7 hb8)
  have hwr : IntKind.i64.wrap (281474976710656 - L.fin) = 281474976710656 - L.fin := IntWalk.i64_in _ (by omega)
  obtain ⟨X, hX⟩ : ∃ X, X = w7 := ⟨_, rfl⟩
  rw [← hX] at h7 hC7 hb9 ⊢
  have f9 := h7.blk.cell
  simp only [lgL] at f9
  have d9 := hC7.cell
  have l9 := h7.blk.lt
  have m9 := hC7.lt
  replace hX := Lib.hid hX
  go_region_held3 (fun w' => (∀ b o, b < X.heap.size → w'.cell? ⟨b, o, none⟩ = X.cell? ⟨b, o, none⟩) ∧ Below X.heap.size X w')
    (first | exact keep_drew X | exact keep_step ‹_› ‹_›)
    ((go_at_call 30; refine (len_any k p ep s t A rs.length c _).mono ?_; rintro e w9 ⟨rfl, hb12⟩))
  by_cases hov : 281474976710656 - L.fin < lenB (isM k) rs.length
  · go_wp2_with fail
    go_ret3
    exact ⟨rfl, bl_tr (bl_drew hb9) hb12⟩
  · have hov2 : decide (281474976710656 - L.fin < lenB (isM k) rs.length) = false := by simpa using hov
    have h10 := (h7.below (keep_drew X).2).below hb12
    have f10 := h10.blk.cell
    simp only [lgL] at f10
    have l10 := h10.blk.lt
    go_wp2_with fail
    go_ret3
    exact ⟨rfl, bl_tr (bl_drew hb9) hb12⟩
set_option maxRecDepth 100000 in
set_option maxHeartbeats 2000000 in
theorem decide_4 (h : LgAt w n0 lb tb mb nn rA rc oA oc gA gc L) (hn : nn ≤ 1000000000) (x : En) (A : Option Addr) (c : Nat) (hR : RecsAt w A x.b.rs) (hs : okI x.b.s) (hx : rightB x = true) (hk : x.kind = 1) (d1 : Int) (hd : decideF (lookI L.m x.b.p) x.b.k x.b.p x.b.ep x.b.s x.b.t x.b.rs = (d1, false, 0)) (hp : 0 ≤ x.b.p) (hk1 : x.b.k ≠ 1) (ho : (txnI L.opn x.b.p).isSome = true) :
    Calls Try.prog 12 #[.pointer (some ⟨lb, 0, none⟩), .agg #[.int .i64 x.kind, .int .i64 x.n, .int .i64 x.b.k, .int .i64 x.b.p, .int .i64 x.b.ep, .int .i64 x.b.s, .bool x.b.t, .slice A x.b.rs.length c]] w fun e w' =>
      e = .returned (.tuple #[.int .i64 (L.decide x).1, .bool (L.decide x).2.1, .int .i64 (L.decide x).2.2]) ∧ Below w.heap.size w w' := by
  rw [decide_tail hx hk hd, if_neg (by simp [ho]), if_neg (by simp [hk1])]
  have HD := Lib.hid hd
  clear hd
  obtain ⟨kind, n, k, p, ep, s, t, rs⟩ := x
  dsimp only at hR hs hx hk HD hp hk1 ho ⊢
  have hcon := right_any ⟨kind, n, k, p, ep, s, t, rs⟩ A c _ (hR.below (bl_alloc (Below.refl w.heap.size w) (.cells #[.int .i64 kind, .int .i64 n, .int .i64 k, .int .i64 p, .int .i64 ep, .int .i64 s, .bool t, .slice A rs.length c] 32))) hs
  rw [hx] at hcon
  subst hk
  have ka : (k == 1) = false := by simpa using hk1
  have kb : (k != 1) = true := by simpa using hk1
  clear hk1
  have hoo := fi_true hp ho
  replace ho := Lib.hid ho
  have c0 := h.c0
  have l0 := h.blk.lt
  have hB0 : Blk (w.alloc (.cells #[.int .i64 1, .int .i64 n, .int .i64 k, .int .i64 p, .int .i64 ep, .int .i64 s, .bool t, .slice A rs.length c] 32)) w.heap.size [.int .i64 1, .int .i64 n, .int .i64 k, .int .i64 p, .int .i64 ep, .int .i64 s, .bool t, .slice A rs.length c] := Blk.new' _ _ rfl
  have hb1 := bl_alloc (Below.refl w.heap.size w) (.cells #[.int .i64 1, .int .i64 n, .int .i64 k, .int .i64 p, .int .i64 ep, .int .i64 s, .bool t, .slice A rs.length c] 32)
  have h1 := h.below hb1
  have hR1 := hR.below hb1
  dsimp only at hcon
  replace hcon := Lib.hid hcon
  clear hx
  go_enter Try.func12, Try.ntmps12
  go_wp2_with (first | (go_at_call 24; refine (lnone_any lb tb _ (by first | exact c0 | exact h1.c0)).mono ?_; rintro e w' ⟨rfl, rfl⟩) | (go_at_call 25; refine hcon.out.mono ?_; rintro e w2 ⟨rfl, hb2⟩; have h2 := h1.below hb2; have hB2 := hB0.below hb2 hB0.lt; have q0 := hB2.cell; have l2 := hB2.lt))
  have h3 := h2.alloc (.cells #[.int .i64 k, .int .i64 p, .int .i64 ep, .int .i64 s, .bool t, .slice A rs.length c] 30)
  have hB3 := hB2.alloc (.cells #[.int .i64 k, .int .i64 p, .int .i64 ep, .int .i64 s, .bool t, .slice A rs.length c] 30)
  have hbW := bl_alloc (bl_tr hb1 hb2) (.cells #[.int .i64 k, .int .i64 p, .int .i64 ep, .int .i64 s, .bool t, .slice A rs.length c] 30)
  have hC3 : Blk (w2.alloc (.cells #[.int .i64 k, .int .i64 p, .int .i64 ep, .int .i64 s, .bool t, .slice A rs.length c] 30)) w2.heap.size [.int .i64 k, .int .i64 p, .int .i64 ep, .int .i64 s, .bool t, .slice A rs.length c] := Blk.new' _ _ rfl
  have hR3 := (hR1.below hb2).below (bl_alloc (Below.refl _ _) (.cells #[.int .i64 k, .int .i64 p, .int .i64 ep, .int .i64 s, .bool t, .slice A rs.length c] 30))
  obtain ⟨W, hWe⟩ : ∃ W, W = w2.alloc (.cells #[.int .i64 k, .int .i64 p, .int .i64 ep, .int .i64 s, .bool t, .slice A rs.length c] 30) := ⟨_, rfl⟩
  rw [← hWe] at h3 hB3 hbW hC3 hR3 ⊢
  have l3 := h3.blk.lt
  have k3 := hB3.lt
  have m3 := hC3.lt
  clear hWe q0 hB2 h2 hR1 h1 hB0 hb1 hb2 hcon l2 c0 l0 h hR
  have c3 := hB3.cell
  have d3 := hC3.cell
  have f3 := h3.blk.cell
  simp only [lgL] at f3
  go_quiet (fail)
  go_wp2_with fail
  have hV := below_drewN (Below.refl W.heap.size W) nq
  have h5 := h3.below hV
  have hB5 := hB3.below hV k3
  have hC5 := hC3.below hV m3
  have hR5 := hR3.below hV
  have hbV := bl_tr hbW hV
  clear hV
  obtain ⟨V, hVe⟩ : ∃ V, V = W.drewN nq := ⟨_, rfl⟩
  rw [← hVe] at h5 hB5 hC5 hR5 hbV ⊢
  clear hVe h3 hB3 hC3 hR3 hbW l3 k3 m3 c3 d3 f3
  have l5 := h5.blk.lt
  have k5 := hB5.lt
  have m5 := hC5.lt
  have d5 := hC5.cell
  have f5 := h5.blk.cell
  simp only [lgL] at f5
  have hds := Lib.hid (show ∀ st, lookI L.m p = some st → st.ds.length ≤ 4611686018427387904 from fun st e => by have := (h5.good.m.look e).2.2; omega)
  go_region_held3 (fun w' => (∀ b o, b < V.heap.size → w'.cell? ⟨b, o, none⟩ = V.cell? ⟨b, o, none⟩) ∧ Below V.heap.size V w')
    (first | exact keep_drew V | exact keep_step ‹_› ‹_›)
    ((go_at_call 27; refine (decide_any tb mb nn L.m k p ep s t A c rs _ (h5.below (keep_drew V).2).tab (h5.below (keep_drew V).2).im (hR5.below (keep_drew V).2) hs hds.out).mono ?_; rw [HD.out]; rintro e w6 ⟨rfl, hb6⟩))
  have h6 := (h5.below (keep_drew V).2).below hb6
  have hB6 := (hB5.below (keep_drew V).2 k5).below hb6 k5
  have hC6 := (hC5.below (keep_drew V).2 m5).below hb6 m5
  have hb7 := bl_tr (bl_drew hbV) hb6
  have d6 := hC6.cell
  have l6 := h6.blk.lt
  have m6 := hC6.lt
  have ff := h6.good.ff
  have fs := h6.good.s0
  have fss := h6.good.sf
  have hol := h6.good.ol
  have f6 := h6.blk.cell
  simp only [lgL] at f6
  clear hC5 hB5 hR5 hbV
  go_wp2_with (go_at_call 28; refine (txn_any p lb tb _ _ _ _ _ _ L.opn _ h6.blk h6.opnAt (by omega)).mono ?_; rintro e w7 ⟨rfl, hb8⟩; have h7 := h6.below hb8; have hC7 := hC6.below hb8 m6; have d7 := hC7.cell; have l7 := h7.blk.lt; have m7 := hC7.lt; have hb9 := bl_tr hb7 hb8)
  have hwr : IntKind.i64.wrap (281474976710656 - L.fin) = 281474976710656 - L.fin := IntWalk.i64_in _ (by omega)
  obtain ⟨X, hX⟩ : ∃ X, X = w7 := ⟨_, rfl⟩
  rw [← hX] at h7 hC7 hb9 ⊢
  have f9 := h7.blk.cell
  simp only [lgL] at f9
  have d9 := hC7.cell
  have l9 := h7.blk.lt
  have m9 := hC7.lt
  replace hX := Lib.hid hX
  go_region_held3 (fun w' => (∀ b o, b < X.heap.size → w'.cell? ⟨b, o, none⟩ = X.cell? ⟨b, o, none⟩) ∧ Below X.heap.size X w')
    (first | exact keep_drew X | exact keep_step ‹_› ‹_›)
    ((go_at_call 30; refine (len_any k p ep s t A rs.length c _).mono ?_; rintro e w9 ⟨rfl, hb12⟩))
  by_cases hov : 281474976710656 - L.fin < lenB (isM k) rs.length
  · go_wp2_with fail
    go_ret3
    exact ⟨rfl, bl_tr (bl_drew hb9) hb12⟩
  · have hov2 : decide (281474976710656 - L.fin < lenB (isM k) rs.length) = false := by simpa using hov
    have h10 := (h7.below (keep_drew X).2).below hb12
    have f10 := h10.blk.cell
    simp only [lgL] at f10
    have l10 := h10.blk.lt
    go_wp2_with fail
    go_ret3
    exact ⟨rfl, bl_tr (bl_drew hb9) hb12⟩
set_option maxRecDepth 100000 in
set_option maxHeartbeats 2000000 in
theorem decide_5 (h : LgAt w n0 lb tb mb nn rA rc oA oc gA gc L) (hn : nn ≤ 1000000000) (x : En) (A : Option Addr) (c : Nat) (hR : RecsAt w A x.b.rs) (hs : okI x.b.s) (hx : rightB x = true) (hk : x.kind = 1) (d1 : Int) (hd : decideF (lookI L.m x.b.p) x.b.k x.b.p x.b.ep x.b.s x.b.t x.b.rs = (d1, false, 0)) (hp : 0 ≤ x.b.p) (hk1 : x.b.k ≠ 1) (ho : (txnI L.opn x.b.p).isSome = false) (HK : Hid (knowsB L.m x.b.p x.b.ep = true)) :
    Calls Try.prog 12 #[.pointer (some ⟨lb, 0, none⟩), .agg #[.int .i64 x.kind, .int .i64 x.n, .int .i64 x.b.k, .int .i64 x.b.p, .int .i64 x.b.ep, .int .i64 x.b.s, .bool x.b.t, .slice A x.b.rs.length c]] w fun e w' =>
      e = .returned (.tuple #[.int .i64 (L.decide x).1, .bool (L.decide x).2.1, .int .i64 (L.decide x).2.2]) ∧ Below w.heap.size w w' := by
  rw [decide_tail hx hk hd, if_pos ⟨hk1, ho, HK.out⟩]
  have HD := Lib.hid hd
  clear hd
  obtain ⟨kind, n, k, p, ep, s, t, rs⟩ := x
  dsimp only at hR hs hx hk HD hp hk1 ho HK ⊢
  have hcon := right_any ⟨kind, n, k, p, ep, s, t, rs⟩ A c _ (hR.below (bl_alloc (Below.refl w.heap.size w) (.cells #[.int .i64 kind, .int .i64 n, .int .i64 k, .int .i64 p, .int .i64 ep, .int .i64 s, .bool t, .slice A rs.length c] 32))) hs
  rw [hx] at hcon
  subst hk
  have ka : (k == 1) = false := by simpa using hk1
  have kb : (k != 1) = true := by simpa using hk1
  clear hk1
  have hoo := fi_false hp ho
  replace ho := Lib.hid ho
  have c0 := h.c0
  have l0 := h.blk.lt
  have hB0 : Blk (w.alloc (.cells #[.int .i64 1, .int .i64 n, .int .i64 k, .int .i64 p, .int .i64 ep, .int .i64 s, .bool t, .slice A rs.length c] 32)) w.heap.size [.int .i64 1, .int .i64 n, .int .i64 k, .int .i64 p, .int .i64 ep, .int .i64 s, .bool t, .slice A rs.length c] := Blk.new' _ _ rfl
  have hb1 := bl_alloc (Below.refl w.heap.size w) (.cells #[.int .i64 1, .int .i64 n, .int .i64 k, .int .i64 p, .int .i64 ep, .int .i64 s, .bool t, .slice A rs.length c] 32)
  have h1 := h.below hb1
  have hR1 := hR.below hb1
  dsimp only at hcon
  replace hcon := Lib.hid hcon
  clear hx
  go_enter Try.func12, Try.ntmps12
  go_wp2_with (first | (go_at_call 24; refine (lnone_any lb tb _ (by first | exact c0 | exact h1.c0)).mono ?_; rintro e w' ⟨rfl, rfl⟩) | (go_at_call 25; refine hcon.out.mono ?_; rintro e w2 ⟨rfl, hb2⟩; have h2 := h1.below hb2; have hB2 := hB0.below hb2 hB0.lt; have q0 := hB2.cell; have l2 := hB2.lt))
  have h3 := h2.alloc (.cells #[.int .i64 k, .int .i64 p, .int .i64 ep, .int .i64 s, .bool t, .slice A rs.length c] 30)
  have hB3 := hB2.alloc (.cells #[.int .i64 k, .int .i64 p, .int .i64 ep, .int .i64 s, .bool t, .slice A rs.length c] 30)
  have hbW := bl_alloc (bl_tr hb1 hb2) (.cells #[.int .i64 k, .int .i64 p, .int .i64 ep, .int .i64 s, .bool t, .slice A rs.length c] 30)
  have hC3 : Blk (w2.alloc (.cells #[.int .i64 k, .int .i64 p, .int .i64 ep, .int .i64 s, .bool t, .slice A rs.length c] 30)) w2.heap.size [.int .i64 k, .int .i64 p, .int .i64 ep, .int .i64 s, .bool t, .slice A rs.length c] := Blk.new' _ _ rfl
  have hR3 := (hR1.below hb2).below (bl_alloc (Below.refl _ _) (.cells #[.int .i64 k, .int .i64 p, .int .i64 ep, .int .i64 s, .bool t, .slice A rs.length c] 30))
  obtain ⟨W, hWe⟩ : ∃ W, W = w2.alloc (.cells #[.int .i64 k, .int .i64 p, .int .i64 ep, .int .i64 s, .bool t, .slice A rs.length c] 30) := ⟨_, rfl⟩
  rw [← hWe] at h3 hB3 hbW hC3 hR3 ⊢
  have l3 := h3.blk.lt
  have k3 := hB3.lt
  have m3 := hC3.lt
  clear hWe q0 hB2 h2 hR1 h1 hB0 hb1 hb2 hcon l2 c0 l0 h hR
  have c3 := hB3.cell
  have d3 := hC3.cell
  have f3 := h3.blk.cell
  simp only [lgL] at f3
  go_quiet (fail)
  go_wp2_with fail
  have hV := below_drewN (Below.refl W.heap.size W) nq
  have h5 := h3.below hV
  have hB5 := hB3.below hV k3
  have hC5 := hC3.below hV m3
  have hR5 := hR3.below hV
  have hbV := bl_tr hbW hV
  clear hV
  obtain ⟨V, hVe⟩ : ∃ V, V = W.drewN nq := ⟨_, rfl⟩
  rw [← hVe] at h5 hB5 hC5 hR5 hbV ⊢
  clear hVe h3 hB3 hC3 hR3 hbW l3 k3 m3 c3 d3 f3
  have l5 := h5.blk.lt
  have k5 := hB5.lt
  have m5 := hC5.lt
  have d5 := hC5.cell
  have f5 := h5.blk.cell
  simp only [lgL] at f5
  have hds := Lib.hid (show ∀ st, lookI L.m p = some st → st.ds.length ≤ 4611686018427387904 from fun st e => by have := (h5.good.m.look e).2.2; omega)
  go_region_held3 (fun w' => (∀ b o, b < V.heap.size → w'.cell? ⟨b, o, none⟩ = V.cell? ⟨b, o, none⟩) ∧ Below V.heap.size V w')
    (first | exact keep_drew V | exact keep_step ‹_› ‹_›)
    ((go_at_call 27; refine (decide_any tb mb nn L.m k p ep s t A c rs _ (h5.below (keep_drew V).2).tab (h5.below (keep_drew V).2).im (hR5.below (keep_drew V).2) hs hds.out).mono ?_; rw [HD.out]; rintro e w6 ⟨rfl, hb6⟩))
  have h6 := (h5.below (keep_drew V).2).below hb6
  have hB6 := (hB5.below (keep_drew V).2 k5).below hb6 k5
  have hC6 := (hC5.below (keep_drew V).2 m5).below hb6 m5
  have hb7 := bl_tr (bl_drew hbV) hb6
  have d6 := hC6.cell
  have l6 := h6.blk.lt
  have m6 := hC6.lt
  have ff := h6.good.ff
  have fs := h6.good.s0
  have fss := h6.good.sf
  have hol := h6.good.ol
  have f6 := h6.blk.cell
  simp only [lgL] at f6
  clear hC5 hB5 hR5 hbV
  have hgd := Lib.hid h6.good.m
  go_wp2_with (first | (go_at_call 28; refine (txn_any p lb tb _ _ _ _ _ _ L.opn _ h6.blk h6.opnAt (by omega)).mono ?_; rintro e w7 ⟨rfl, hb8⟩; have h7 := h6.below hb8; have hC7 := hC6.below hb8 m6; have d7 := hC7.cell; have l7 := h7.blk.lt; have m7 := hC7.lt; have hb9 := bl_tr hb7 hb8) | (go_at_call 29; refine (knowsB_any k p ep s t _ lb tb mb nn L.m _ _ _ _ _ _ h7.blk h7.tab h7.im hgd.out (by omega)).mono ?_; rw [HK.out]; rintro e w8 ⟨rfl, hb10⟩; have h8 := h7.below hb10; have hC8 := hC7.below hb10 m7; have d8 := hC8.cell; have l8 := h8.blk.lt; have m8 := hC8.lt; have hb11 := bl_tr hb9 hb10))
  go_ret3
  exact ⟨rfl, hb11⟩
set_option maxRecDepth 100000 in
set_option maxHeartbeats 2000000 in
theorem decide_6 (h : LgAt w n0 lb tb mb nn rA rc oA oc gA gc L) (hn : nn ≤ 1000000000) (x : En) (A : Option Addr) (c : Nat) (hR : RecsAt w A x.b.rs) (hs : okI x.b.s) (hx : rightB x = true) (hk : x.kind = 1) (d1 : Int) (hd : decideF (lookI L.m x.b.p) x.b.k x.b.p x.b.ep x.b.s x.b.t x.b.rs = (d1, false, 0)) (hp : 0 ≤ x.b.p) (hk1 : x.b.k ≠ 1) (ho : (txnI L.opn x.b.p).isSome = false) (HK : Hid (knowsB L.m x.b.p x.b.ep = false)) :
    Calls Try.prog 12 #[.pointer (some ⟨lb, 0, none⟩), .agg #[.int .i64 x.kind, .int .i64 x.n, .int .i64 x.b.k, .int .i64 x.b.p, .int .i64 x.b.ep, .int .i64 x.b.s, .bool x.b.t, .slice A x.b.rs.length c]] w fun e w' =>
      e = .returned (.tuple #[.int .i64 (L.decide x).1, .bool (L.decide x).2.1, .int .i64 (L.decide x).2.2]) ∧ Below w.heap.size w w' := by
  rw [decide_tail hx hk hd, if_neg (by simp [HK.out]), if_neg (by simp [hk1])]
  have HD := Lib.hid hd
  clear hd
  obtain ⟨kind, n, k, p, ep, s, t, rs⟩ := x
  dsimp only at hR hs hx hk HD hp hk1 ho HK ⊢
  have hcon := right_any ⟨kind, n, k, p, ep, s, t, rs⟩ A c _ (hR.below (bl_alloc (Below.refl w.heap.size w) (.cells #[.int .i64 kind, .int .i64 n, .int .i64 k, .int .i64 p, .int .i64 ep, .int .i64 s, .bool t, .slice A rs.length c] 32))) hs
  rw [hx] at hcon
  subst hk
  have ka : (k == 1) = false := by simpa using hk1
  have kb : (k != 1) = true := by simpa using hk1
  clear hk1
  have hoo := fi_false hp ho
  replace ho := Lib.hid ho
  have c0 := h.c0
  have l0 := h.blk.lt
  have hB0 : Blk (w.alloc (.cells #[.int .i64 1, .int .i64 n, .int .i64 k, .int .i64 p, .int .i64 ep, .int .i64 s, .bool t, .slice A rs.length c] 32)) w.heap.size [.int .i64 1, .int .i64 n, .int .i64 k, .int .i64 p, .int .i64 ep, .int .i64 s, .bool t, .slice A rs.length c] := Blk.new' _ _ rfl
  have hb1 := bl_alloc (Below.refl w.heap.size w) (.cells #[.int .i64 1, .int .i64 n, .int .i64 k, .int .i64 p, .int .i64 ep, .int .i64 s, .bool t, .slice A rs.length c] 32)
  have h1 := h.below hb1
  have hR1 := hR.below hb1
  dsimp only at hcon
  replace hcon := Lib.hid hcon
  clear hx
  go_enter Try.func12, Try.ntmps12
  go_wp2_with (first | (go_at_call 24; refine (lnone_any lb tb _ (by first | exact c0 | exact h1.c0)).mono ?_; rintro e w' ⟨rfl, rfl⟩) | (go_at_call 25; refine hcon.out.mono ?_; rintro e w2 ⟨rfl, hb2⟩; have h2 := h1.below hb2; have hB2 := hB0.below hb2 hB0.lt; have q0 := hB2.cell; have l2 := hB2.lt))
  have h3 := h2.alloc (.cells #[.int .i64 k, .int .i64 p, .int .i64 ep, .int .i64 s, .bool t, .slice A rs.length c] 30)
  have hB3 := hB2.alloc (.cells #[.int .i64 k, .int .i64 p, .int .i64 ep, .int .i64 s, .bool t, .slice A rs.length c] 30)
  have hbW := bl_alloc (bl_tr hb1 hb2) (.cells #[.int .i64 k, .int .i64 p, .int .i64 ep, .int .i64 s, .bool t, .slice A rs.length c] 30)
  have hC3 : Blk (w2.alloc (.cells #[.int .i64 k, .int .i64 p, .int .i64 ep, .int .i64 s, .bool t, .slice A rs.length c] 30)) w2.heap.size [.int .i64 k, .int .i64 p, .int .i64 ep, .int .i64 s, .bool t, .slice A rs.length c] := Blk.new' _ _ rfl
  have hR3 := (hR1.below hb2).below (bl_alloc (Below.refl _ _) (.cells #[.int .i64 k, .int .i64 p, .int .i64 ep, .int .i64 s, .bool t, .slice A rs.length c] 30))
  obtain ⟨W, hWe⟩ : ∃ W, W = w2.alloc (.cells #[.int .i64 k, .int .i64 p, .int .i64 ep, .int .i64 s, .bool t, .slice A rs.length c] 30) := ⟨_, rfl⟩
  rw [← hWe] at h3 hB3 hbW hC3 hR3 ⊢
  have l3 := h3.blk.lt
  have k3 := hB3.lt
  have m3 := hC3.lt
  clear hWe q0 hB2 h2 hR1 h1 hB0 hb1 hb2 hcon l2 c0 l0 h hR
  have c3 := hB3.cell
  have d3 := hC3.cell
  have f3 := h3.blk.cell
  simp only [lgL] at f3
  go_quiet (fail)
  go_wp2_with fail
  have hV := below_drewN (Below.refl W.heap.size W) nq
  have h5 := h3.below hV
  have hB5 := hB3.below hV k3
  have hC5 := hC3.below hV m3
  have hR5 := hR3.below hV
  have hbV := bl_tr hbW hV
  clear hV
  obtain ⟨V, hVe⟩ : ∃ V, V = W.drewN nq := ⟨_, rfl⟩
  rw [← hVe] at h5 hB5 hC5 hR5 hbV ⊢
  clear hVe h3 hB3 hC3 hR3 hbW l3 k3 m3 c3 d3 f3
  have l5 := h5.blk.lt
  have k5 := hB5.lt
  have m5 := hC5.lt
  have d5 := hC5.cell
  have f5 := h5.blk.cell
  simp only [lgL] at f5
  have hds := Lib.hid (show ∀ st, lookI L.m p = some st → st.ds.length ≤ 4611686018427387904 from fun st e => by have := (h5.good.m.look e).2.2; omega)
  go_region_held3 (fun w' => (∀ b o, b < V.heap.size → w'.cell? ⟨b, o, none⟩ = V.cell? ⟨b, o, none⟩) ∧ Below V.heap.size V w')
    (first | exact keep_drew V | exact keep_step ‹_› ‹_›)
    ((go_at_call 27; refine (decide_any tb mb nn L.m k p ep s t A c rs _ (h5.below (keep_drew V).2).tab (h5.below (keep_drew V).2).im (hR5.below (keep_drew V).2) hs hds.out).mono ?_; rw [HD.out]; rintro e w6 ⟨rfl, hb6⟩))
  have h6 := (h5.below (keep_drew V).2).below hb6
  have hB6 := (hB5.below (keep_drew V).2 k5).below hb6 k5
  have hC6 := (hC5.below (keep_drew V).2 m5).below hb6 m5
  have hb7 := bl_tr (bl_drew hbV) hb6
  have d6 := hC6.cell
  have l6 := h6.blk.lt
  have m6 := hC6.lt
  have ff := h6.good.ff
  have fs := h6.good.s0
  have fss := h6.good.sf
  have hol := h6.good.ol
  have f6 := h6.blk.cell
  simp only [lgL] at f6
  clear hC5 hB5 hR5 hbV
  have hgd := Lib.hid h6.good.m
  go_wp2_with (first | (go_at_call 28; refine (txn_any p lb tb _ _ _ _ _ _ L.opn _ h6.blk h6.opnAt (by omega)).mono ?_; rintro e w7 ⟨rfl, hb8⟩; have h7 := h6.below hb8; have hC7 := hC6.below hb8 m6; have d7 := hC7.cell; have l7 := h7.blk.lt; have m7 := hC7.lt; have hb9 := bl_tr hb7 hb8) | (go_at_call 29; refine (knowsB_any k p ep s t _ lb tb mb nn L.m _ _ _ _ _ _ h7.blk h7.tab h7.im hgd.out (by omega)).mono ?_; rw [HK.out]; rintro e w8 ⟨rfl, hb10⟩; have h8 := h7.below hb10; have hC8 := hC7.below hb10 m7; have d8 := hC8.cell; have l8 := h8.blk.lt; have m8 := hC8.lt; have hb11 := bl_tr hb9 hb10))
  have hwr : IntKind.i64.wrap (281474976710656 - L.fin) = 281474976710656 - L.fin := IntWalk.i64_in _ (by omega)
  obtain ⟨X, hX⟩ : ∃ X, X = w8 := ⟨_, rfl⟩
  rw [← hX] at h8 hC8 hb11 ⊢
  have f9 := h8.blk.cell
  simp only [lgL] at f9
  have d9 := hC8.cell
  have l9 := h8.blk.lt
  have m9 := hC8.lt
  replace hX := Lib.hid hX
  go_region_held3 (fun w' => (∀ b o, b < X.heap.size → w'.cell? ⟨b, o, none⟩ = X.cell? ⟨b, o, none⟩) ∧ Below X.heap.size X w')
    (first | exact keep_drew X | exact keep_step ‹_› ‹_›)
    ((go_at_call 30; refine (len_any k p ep s t A rs.length c _).mono ?_; rintro e w9 ⟨rfl, hb12⟩))
  by_cases hov : 281474976710656 - L.fin < lenB (isM k) rs.length
  · go_wp2_with fail
    go_ret3
    exact ⟨rfl, bl_tr (bl_drew hb11) hb12⟩
  · have hov2 : decide (281474976710656 - L.fin < lenB (isM k) rs.length) = false := by simpa using hov
    have h10 := (h8.below (keep_drew X).2).below hb12
    have f10 := h10.blk.cell
    simp only [lgL] at f10
    have l10 := h10.blk.lt
    go_wp2_with fail
    go_ret3
    exact ⟨rfl, bl_tr (bl_drew hb11) hb12⟩

/-- Decide, whatever the entry. -/
theorem ldecide_any (h : LgAt w n0 lb tb mb nn rA rc oA oc gA gc L) (hn : nn ≤ 1000000000) (x : En) (A : Option Addr) (c : Nat) (hR : RecsAt w A x.b.rs) (hs : okI x.b.s) :
    Calls Try.prog 12 #[.pointer (some ⟨lb, 0, none⟩), .agg #[.int .i64 x.kind, .int .i64 x.n, .int .i64 x.b.k, .int .i64 x.b.p, .int .i64 x.b.ep, .int .i64 x.b.s, .bool x.b.t, .slice A x.b.rs.length c]] w fun e w' =>
      e = .returned (.tuple #[.int .i64 (L.decide x).1, .bool (L.decide x).2.1, .int .i64 (L.decide x).2.2]) ∧ Below w.heap.size w w' := by
  cases hx : rightB x with
  | false => exact decide_wrong h hn x A c hR hs hx
  | true =>
    by_cases hk : x.kind = 1
    · by_cases hd : (decideF (lookI L.m x.b.p) x.b.k x.b.p x.b.ep x.b.s x.b.t x.b.rs).2.2 ≠ 0 ∨ (decideF (lookI L.m x.b.p) x.b.k x.b.p x.b.ep x.b.s x.b.t x.b.rs).2.1 = true
      · exact decide_batch0 h hn x A c hR hs hx hk hd
      · obtain ⟨d1, hd1⟩ : ∃ d1, decideF (lookI L.m x.b.p) x.b.k x.b.p x.b.ep x.b.s x.b.t x.b.rs = (d1, false, 0) := by
          generalize decideF (lookI L.m x.b.p) x.b.k x.b.p x.b.ep x.b.s x.b.t x.b.rs = D at hd
          obtain ⟨d1, d2, d3⟩ := D
          simp at hd
          exact ⟨d1, by rw [hd.1, hd.2]⟩
        by_cases hp : x.b.p < 0
        · have hk1 : x.b.k = 1 := by
            have hc : checkE x.b.k x.b.p x.b.ep x.b.s x.b.t x.b.rs = 0 := by
              by_cases e : checkE x.b.k x.b.p x.b.ep x.b.s x.b.t x.b.rs = 0
              · exact e
              · unfold decideF at hd1; rw [if_pos (.inl e)] at hd1; simp at hd1; exact absurd hd1.2 e
            unfold checkE at hc
            repeat' split at hc
            all_goals first | (exfalso; omega) | skip
            all_goals simp [q1, q2, q3, q4] at *
            all_goals (simp_all [isM] <;> omega)
          exact decide_p0 h hn x A c hR hs hx hk d1 hd1 hp hk1
        · have hp0 : 0 ≤ x.b.p := by omega
          cases ho : (txnI L.opn x.b.p).isSome with
          | true =>
            by_cases hk1 : x.b.k = 1
            · cases ht : x.b.t with
              | false => exact ht ▸ decide_1 h hn x A c hR hs hx hk d1 hd1 hp0 hk1 ho ht
              | true => exact ht ▸ decide_2 h hn x A c hR hs hx hk d1 hd1 hp0 hk1 ho ht
            · exact decide_4 h hn x A c hR hs hx hk d1 hd1 hp0 hk1 ho
          | false =>
            by_cases hk1 : x.b.k = 1
            · exact decide_3 h hn x A c hR hs hx hk d1 hd1 hp0 hk1 ho
            · cases hK : knowsB L.m x.b.p x.b.ep with
              | true => exact decide_5 h hn x A c hR hs hx hk d1 hd1 hp0 hk1 ho (Lib.hid hK)
              | false => exact decide_6 h hn x A c hR hs hx hk d1 hd1 hp0 hk1 ho (Lib.hid hK)
    · by_cases hst : L.stable < x.n
      · exact decide_range h hn x A c hR hs hx hk hst
      · rcases right_kind hx with e | e | e
        · exact absurd e hk
        · exact decide_retain h hn x A c hR hs hx e (by omega)
        · exact decide_compact h hn x A c hR hs hx e (by omega)
end
end Go.Proofs.Ytejjiiakficafaa
