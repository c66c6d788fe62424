/- Ledger.Apply. -/
import Derived.Test.YtejjiiakficafaaGl
namespace Go.Proofs.Ytejjiiakficafaa
open Go Go.RowKit Go.Shelf Go.Maps
attribute [local go_sem] Oper.semAt_some

set_option maxHeartbeats 400000 in
theorem apply1_any (r : Rw) (kind n k p ep s : Int) (t : Bool) (v : Value) (B : Nat) (w : World) (h : Blk w B [.int .i64 kind, .int .i64 n, .int .i64 k, .int .i64 p, .int .i64 ep, .int .i64 s, .bool t, v]) :
    Calls Try.prog 33 #[.agg #[.int .i64 r.off, .int .i64 r.prod, .bool r.tx, .string r.rc.key, .string r.rc.val, .bool r.rc.dead], .pointer (some ⟨B, 0, none⟩)] w fun e w' => e = .returned (.bool (decide (n ≤ r.off))) ∧ Below w.heap.size w w' := by
  have q := h.cell
  have l := h.lt
  go_enter Try.func33, Try.ntmps33
  go_wp2
  go_ret
  exact ⟨rfl, bl_alloc (Below.refl _ _) _⟩
set_option maxHeartbeats 400000 in
theorem apply2_any (r : Gn) (kind n k p ep s : Int) (t : Bool) (v : Value) (B : Nat) (w : World) (h : Blk w B [.int .i64 kind, .int .i64 n, .int .i64 k, .int .i64 p, .int .i64 ep, .int .i64 s, .bool t, v]) :
    Calls Try.prog 35 #[.agg #[.int .i64 r.prod, .int .i64 r.first, .int .i64 r.last], .pointer (some ⟨B, 0, none⟩)] w fun e w' => e = .returned (.bool (decide (n ≤ r.last))) ∧ Below w.heap.size w w' := by
  have q := h.cell
  have l := h.lt
  go_enter Try.func35, Try.ntmps35
  go_wp2
  go_ret
  exact ⟨rfl, bl_alloc (Below.refl _ _) _⟩

section
variable {w : World} {n0 lb tb mb nn rc oc gc : Nat} {rA oA gA : Option Addr} {L : Lg}
theorem LgNext.below {w' : World} (h : LgAt w n0 lb tb mb nn rA rc oA oc gA gc L) (hb : Below w.heap.size w w') {k : Nat} (hk : nn ≤ k) : LgNext w n0 lb tb mb k rA oA gA L w' :=
  ⟨_, _, _, _, _, _, (h.mem.below hb).mono hk, FrL.of_below hb⟩
theorem LgNext.after {w1 w' : World} (hb : Below w.heap.size w w1) {L' : Lg} {k : Nat} (h : LgNext w1 n0 lb tb mb k rA oA gA L' w') : LgNext w n0 lb tb mb k rA oA gA L' w' := by
  obtain ⟨rA', rc', oA', oc', gA', gc', h1, h2⟩ := h
  exact ⟨_, _, _, _, _, _, h1, (FrL.of_below hb).tr h2⟩

set_option maxRecDepth 100000 in
set_option maxHeartbeats 4000000 in
theorem apply_any (h : LgAt w n0 lb tb mb nn rA rc oA oc gA gc L) (hn : nn < 1000000000) (x : En) (A : Option Addr) (c : Nat) (hR : RecsT w A x.b.rs) (hs : okI x.b.s) :
    Calls Try.prog 13 #[.pointer (some ⟨lb, 0, none⟩), .agg #[.int .i64 x.kind, .int .i64 x.n, .int .i64 x.b.k, .int .i64 x.b.p, .int .i64 x.b.ep, .int .i64 x.b.s, .bool x.b.t, .slice A x.b.rs.length c]] w fun e w' =>
      e = .returned (.tuple #[.int .i64 (L.said x).1, .int .i64 (L.said x).2]) ∧ LgNext w n0 lb tb mb (nn + 1) rA oA gA (L.apply x) w' := by
  have hmf : ∀ (fn : Fn) (first cap : Array Value) (w : World), (Instr.makeFunc fn first cap).run Try.prog w = .ok (.func fn first cap) w := fun _ _ _ _ => rfl
  have hb1 := bl_alloc (Below.refl w.heap.size w) (.cells #[.int .i64 x.kind, .int .i64 x.n, .int .i64 x.b.k, .int .i64 x.b.p, .int .i64 x.b.ep, .int .i64 x.b.s, .bool x.b.t, .slice A x.b.rs.length c] 32)
  have hdec := ldecide_any (h.below hb1) (by omega) x A c (hR.1.below hb1) hs
  have hX := Lib.hid (show L.apply x = if (L.decide x).2.2 ≠ 0 ∨ (L.decide x).2.1 = true then L else if x.kind = 1 then L.put x.b else
    if x.kind = 2 then { L with start := x.n, rows := L.rows.filter (fun r => Decidable.decide (x.n ≤ r.off)), gone := L.gone.filter (fun g => Decidable.decide (x.n ≤ g.last)) } else { L with rows := L.kept x.n } from rfl)
  have hsd := Lib.hid (show L.said x = (if (L.decide x).2.2 ≠ 0 then 0 else (L.decide x).1, (L.decide x).2.2) from rfl)
  have hgo := Lib.hid (@decide_go L x)
  have hBx : Blk (w.alloc (.cells #[.int .i64 x.kind, .int .i64 x.n, .int .i64 x.b.k, .int .i64 x.b.p, .int .i64 x.b.ep, .int .i64 x.b.s, .bool x.b.t, .slice A x.b.rs.length c] 32)) w.heap.size [.int .i64 x.kind, .int .i64 x.n, .int .i64 x.b.k, .int .i64 x.b.p, .int .i64 x.b.ep, .int .i64 x.b.s, .bool x.b.t, .slice A x.b.rs.length c] := Blk.new' _ _ rfl
  have hTx : TyAt (w.alloc (.cells #[.int .i64 x.kind, .int .i64 x.n, .int .i64 x.b.k, .int .i64 x.b.p, .int .i64 x.b.ep, .int .i64 x.b.s, .bool x.b.t, .slice A x.b.rs.length c] 32)) w.heap.size 32 := ty_new _ _ _
  obtain ⟨D, hD⟩ : ∃ D, L.decide x = D := ⟨_, rfl⟩
  rw [hD] at hdec hX hsd hgo
  clear hD
  obtain ⟨d1, d2, d3⟩ := D
  dsimp only at hdec
  replace hdec := Lib.hid hdec
  go_enter Try.func13, Try.ntmps13
  go_wp2_with fail
  refine hdec.out.mono ?_
  rintro e w2 ⟨rfl, hb2⟩
  clear hdec
  have h2 := (h.below hb1).below hb2
  have hB2 := hBx.below hb2 hBx.lt
  have hT2 := hTx.of_heap (hb2.block _ hBx.lt)
  have hR2 := (hR.below hb1).below hb2
  have hbb := bl_tr hb1 hb2
  have hh := Lib.hid h
  clear hb1 hb2 hBx hTx hR h
  have q2 := hB2.cell
  have m2 := hB2.lt
  have l2 := h2.blk.lt
  by_cases hd3 : d3 = 0
  · cases d2
    · subst hd3
      obtain ⟨r1, r2, r3⟩ := hgo.out rfl rfl
      by_cases hk1 : x.kind = 1
      · have hck : checkE x.b.k x.b.p x.b.ep x.b.s x.b.t x.b.rs = 0 := by simp [rightB, hk1] at r1; exact r1.2
        have hX2 := Lib.hid (show L.apply x = L.put x.b by rw [hX.out, if_neg (by simp), if_pos hk1])
        have ka : (x.kind == 1) = true := by simpa using hk1
        replace hck := Lib.hid hck
        clear hX hgo r1 r2 r3 hk1
        go_wp2_with (go_at_call 31; refine (lput_any h2 hn x.b A c hR2 hs hck.out).mono ?_; rintro e w3 ⟨rfl, hN⟩)
        go_ret2
        refine ⟨by rw [hsd.out]; rfl, ?_⟩
        rw [hX2.out]
        exact hN.after hbb
      · have ka : (x.kind == 1) = false := by simpa using hk1
        by_cases hk2 : x.kind = 2
        · have hX2 := Lib.hid (show L.apply x = { L with start := x.n, rows := L.rows.filter (fun r => Decidable.decide (x.n ≤ r.off)), gone := L.gone.filter (fun g => Decidable.decide (x.n ≤ g.last)) } by rw [hX.out, if_neg (by simp), if_neg hk1, if_pos hk2])
          have kb : (x.kind == 2) = true := by simpa using hk2
          clear hX hgo r1 r2 r3 hk1 hk2
          have f2 := h2.blk.cell
          simp only [lgL] at f2
          have u2 := h2.blk.unf
          have hrl := h2.good.rl
          have hgl := h2.good.gl
          have hm3 := h2.mem.setN 1 (.int .i64 x.n) (s := x.n) (f := L.fin) rfl
          have hf3 : FrL w2 (w2.setCell ⟨lb, 1, none⟩ (.int .i64 x.n)) lb mb rA oA gA rA oA gA := FrL.of_set 1 _
          have hB3 := hB2.of_heap (hf3.ty h2.mem hT2 (by decide))
          have hT3 := hT2.of_heap (hf3.ty h2.mem hT2 (by decide))
          go_upto_region 10 with (fail)
          obtain ⟨W3, hW3⟩ : ∃ W3, W3 = w2.setCell ⟨lb, 1, none⟩ (.int .i64 x.n) := ⟨_, rfl⟩
          rw [← hW3] at hm3 hf3 hB3 hT3 ⊢
          clear hW3 f2 u2 q2 l2 m2 hR2
          have f3 := hm3.blk.cell
          simp only [lgL] at f3
          have l3 := hm3.blk.lt
          have hcl := Lib.hid (fun (y : Rw) (hy : y ∈ L.rows) (W : World) (hW : Below W3.heap.size W3 W) => apply1_any y x.kind x.n x.b.k x.b.p x.b.ep x.b.s x.b.t (.slice A x.b.rs.length c) w.heap.size W (hB3.below hW hB3.lt))
          have hra := LAt.of_own rwL_len hm3.rows rfl
          go_wp2_with fail
          refine (keep33_any rA rc L.rows (fun r => decide (x.n ≤ r.off)) _ _ hra (by omega) hcl.out).mono ?_
          rintro e w4 ⟨A4, c4, rfl, hown4, hb4⟩
          have f4 := (hm3.below hb4).blk.cell
          simp only [lgL] at f4
          have u4 := (hm3.below hb4).blk.unf
          have l4 := (hm3.below hb4).blk.lt
          have hm5 := hm3.setR (gr_below hb4 _) (ownsRow_le hown4 hm3.low.2.2.2)
          have hf5 := hm3.frR (gr_below hb4 _) (A := A4) (.inr fun g e => ownsRow_base hown4 (own_block e)) (.slice A4 (L.rows.filter (fun r => decide (x.n ≤ r.off))).length c4)
          have hB5 := hB3.of_heap (hf5.ty hm3 hT3 (by decide))
          have hT5 := hT3.of_heap (hf5.ty hm3 hT3 (by decide))
          have hf35 := hf3.tr hf5
          clear hcl hra
          go_upto_region 11 with (fail)
          obtain ⟨W5, hW5⟩ : ∃ W5, W5 = w4.setCell ⟨lb, 3, none⟩ (.slice A4 (L.rows.filter (fun r => decide (x.n ≤ r.off))).length c4) := ⟨_, rfl⟩
          rw [← hW5] at hm5 hf5 hB5 hT5 hf35 ⊢
          clear hW5 f3 f4 u4 l3 l4 hown4 hb4 hB3 hT3
          have f5 := hm5.blk.cell
          simp only [lgL] at f5
          have l5 := hm5.blk.lt
          have hcl := Lib.hid (fun (y : Gn) (hy : y ∈ L.gone) (W : World) (hW : Below W5.heap.size W5 W) => apply2_any y x.kind x.n x.b.k x.b.p x.b.ep x.b.s x.b.t (.slice A x.b.rs.length c) w.heap.size W (hB5.below hW hB5.lt))
          have hra := LAt.of_own gnL_len hm5.gone rfl
          go_wp2_with fail
          refine (keep35_any gA gc L.gone (fun r => decide (x.n ≤ r.last)) _ _ hra (by omega) hcl.out).mono ?_
          rintro e w6 ⟨A6, c6, rfl, hown6, hb6⟩
          have f6 := (hm5.below hb6).blk.cell
          simp only [lgL] at f6
          have u6 := (hm5.below hb6).blk.unf
          have l6 := (hm5.below hb6).blk.lt
          have hm7 := hm5.setG (gr_below hb6 _) (ownsRow_le hown6 hm5.low.2.2.2)
          have hf7 := hm5.frG (gr_below hb6 _) (A := A6) (.inr fun g e => ownsRow_base hown6 (own_block e)) (.slice A6 (L.gone.filter (fun r => decide (x.n ≤ r.last))).length c6)
          have hf37 := hf35.tr hf7
          clear hcl hra
          go_wp2_with fail
          go_ret2
          refine ⟨by rw [hsd.out]; rfl, ?_⟩
          rw [hX2.out]
          exact ⟨_, _, _, _, _, _, hm7.mono (by omega), (FrL.of_below hbb).tr hf37⟩
        · have hX2 := Lib.hid (show L.apply x = { L with rows := L.kept x.n } by rw [hX.out, if_neg (by simp), if_neg hk1, if_neg hk2])
          have kb : (x.kind == 2) = false := by simpa using hk2
          have f2 := h2.blk.cell
          simp only [lgL] at f2
          have hrl := h2.good.rl
          have hgl := h2.good.gl
          have hky := Lib.hid h2.good.key
          clear hX hgo r1 r2 r3 hk1 hk2
          go_wp2_with (go_at_call 26; refine (kept_any x.n lb tb _ _ _ _ _ L.rows _ _ L.gone _ h2.blk h2.rowsAt h2.goneAt (by omega) (by omega) hky.out).mono ?_; rintro e w3 ⟨A3, c3, rfl, hown3, hb3⟩; have h3 := h2.below hb3; have f3 := h3.blk.cell; simp only [lgL] at f3; have u3 := h3.blk.unf; have l3 := h3.blk.lt)
          go_ret2
          refine ⟨by rw [hsd.out]; rfl, ?_⟩
          rw [hX2.out]
          have hm4 := h2.mem.setR (gr_below hb3 _) (l := L.kept x.n) (ownsRow_le hown3 h2.low.2.2.2)
          have hf4 := h2.mem.frR (gr_below hb3 _) (A := A3) (.inr fun g e => ownsRow_base hown3 (own_block e)) (.slice A3 (L.kept x.n).length c3)
          exact ⟨_, _, _, _, _, _, hm4.mono (by omega), (FrL.of_below hbb).tr hf4⟩
    · have hX2 := Lib.hid (show L.apply x = L by rw [hX.out, if_pos (.inr rfl)])
      subst hd3
      clear hX hgo
      go_wp2_with fail
      go_ret2
      refine ⟨by rw [hsd.out]; rfl, ?_⟩
      rw [hX2.out]
      exact LgNext.below hh.out hbb (by omega)
  · have hX2 := Lib.hid (show L.apply x = L by rw [hX.out, if_pos (.inl hd3)])
    have hs2 := Lib.hid (show L.said x = (0, d3) by rw [hsd.out, if_pos hd3])
    have ka : (d3 != 0) = true := by simpa using hd3
    clear hX hgo hd3
    go_wp2_with fail
    go_ret2
    refine ⟨by rw [hs2.out]; rfl, ?_⟩
    rw [hX2.out]
    exact LgNext.below hh.out hbb (by omega)
end
end Go.Proofs.Ytejjiiakficafaa
