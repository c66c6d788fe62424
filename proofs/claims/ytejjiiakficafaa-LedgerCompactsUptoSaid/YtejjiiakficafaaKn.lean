/- A ledger that a law has made, and the laws' sure answers: knows. -/
import Derived.Test.YtejjiiakficafaaOw
namespace Go.Proofs.Ytejjiiakficafaa
open Go Go.RowKit Go.Shelf Go.Maps
attribute [local go_sem] Oper.semAt_some

section
variable {a w w1 w' : World} {n0 lb tb mb nn rc oc gc B : Nat} {rA oA gA rA' oA' gA' : Option Addr} {L : Lg}
theorem FrL.bel (hf : FrL w w' lb mb rA oA gA rA' oA' gA') (h : LgM w n0 lb tb mb nn rA rc oA oc gA gc L) (hb : Below B a w) (h1 : B ≤ lb) (h2 : B ≤ mb) (h3 : B ≤ n0) : Below B a w' := by
  refine ⟨hf.os.trans hb.os, hf.tape.trans hb.tape, hf.output.trans hb.output, Nat.le_trans hb.size hf.size, fun b hB => (hf.block b ?_ (by omega) (by omega) (fun e => ?_) (fun e => ?_) (fun e => ?_)).trans (hb.block b hB)⟩
  · have := h.low.2.2.2; omega
  · have := ownsRow_base h.rows (own_block e); omega
  · have := ownsRow_base h.opn (own_block e); omega
  · have := ownsRow_base h.gone (own_block e); omega

/-- A ledger of the law's own. -/
def Led (a : World) (n0 lb tb mb nn : Nat) (L : Lg) (w : World) : Prop := (a.heap.size ≤ lb ∧ a.heap.size ≤ mb ∧ a.heap.size ≤ n0) ∧ ∃ rA rc oA oc gA gc, LgAt w n0 lb tb mb nn rA rc oA oc gA gc L ∧ Below a.heap.size a w
theorem Led.below (h : Led a n0 lb tb mb nn L w) (hb : Below w.heap.size w w1) : Led a n0 lb tb mb nn L w1 := by
  obtain ⟨h0, rA, rc, oA, oc, gA, gc, h1, h2⟩ := h
  exact ⟨h0, rA, rc, oA, oc, gA, gc, h1.below hb, bl_tr h2 hb⟩
theorem Led.bel (h : Led a n0 lb tb mb nn L w) : Below a.heap.size a w := by
  obtain ⟨h0, rA, rc, oA, oc, gA, gc, h1, h2⟩ := h
  exact h2
theorem Led.good (h : Led a n0 lb tb mb nn L w) : GoodL L nn := by
  obtain ⟨h0, rA, rc, oA, oc, gA, gc, h1, h2⟩ := h
  exact h1.good
theorem Led.drew (h : Led a n0 lb tb mb nn L w) : Led a n0 lb tb mb nn L w.drew := h.below (Below.refl _ _).drew
theorem Led.drewN (h : Led a n0 lb tb mb nn L w) (k : Nat) : Led a n0 lb tb mb nn L (w.drewN k) := h.below (below_drewN (Below.refl _ _) k)
theorem Led.alloc (h : Led a n0 lb tb mb nn L w) (o : Obj) : Led a n0 lb tb mb nn L (w.alloc o) := h.below (bl_alloc (Below.refl _ _) o)

theorem led_new (w : World) (hs : a = w) : Led a (w.heap.size + 3) (w.heap.size + 1 + 1) (w.heap.size + 1) w.heap.size 0 lg0 (((w.alloc (.map #[] 0)).alloc (.cells #[.map (some w.heap.size)] 88)).alloc (.cells #[.pointer (some ⟨w.heap.size + 1, 0, none⟩), .int .i64 0, .int .i64 0, .slice none 0 0, .slice none 0 0, .slice none 0 0] 64)) := by
  subst hs
  exact ⟨⟨by omega, by omega, by omega⟩, none, 0, none, 0, none, 0, LgAt.new rfl, bl_alloc (bl_alloc (bl_alloc (Below.refl _ _) _) _) _⟩

theorem recs_key {A : Option Addr} {rs : List Rec} (h : RecsAt w A rs) : ∀ r ∈ rs, r.key.size ≤ 140737488351232 := fun r hr => by
  obtain ⟨i, hi, rfl⟩ := List.getElem_of_mem hr
  obtain ⟨_, _, _, _, _, _, _, h1, _⟩ := h.2 i hi
  exact h1

theorem apply_led (h : Led a n0 lb tb mb nn L w) (hn : nn < 1000000000) (x : En) (A : Option Addr) (c : Nat) (hR : RecsT w A x.b.rs) (hs : okI x.b.s) :
    Calls Try.prog 13 #[.pointer (some ⟨lb, 0, none⟩), .agg #[.int .i64 x.kind, .int .i64 x.n, .int .i64 x.b.k, .int .i64 x.b.p, .int .i64 x.b.ep, .int .i64 x.b.s, .bool x.b.t, .slice A x.b.rs.length c]] w fun e w' =>
      e = .returned (.tuple #[.int .i64 (L.said x).1, .int .i64 (L.said x).2]) ∧ Led a n0 lb tb mb (nn + 1) (L.apply x) w' := by
  obtain ⟨h0, rA, rc, oA, oc, gA, gc, h1, h2⟩ := h
  refine (apply_any h1 hn x A c hR hs).mono fun e w' he => ⟨he.1, h0, ?_⟩
  obtain ⟨rA', rc', oA', oc', gA', gc', k1, k2⟩ := he.2
  exact ⟨_, _, _, _, _, _, k1.good (h1.good.apply x (recs_key hR.1)), k2.bel h1.mem h2 h0.1 h0.2.1 h0.2.2⟩
theorem decide_led (h : Led a n0 lb tb mb nn L w) (hn : nn ≤ 1000000000) (x : En) (A : Option Addr) (c : Nat) (hR : RecsAt w A x.b.rs) (hs : okI x.b.s) :
    Calls Try.prog 12 #[.pointer (some ⟨lb, 0, none⟩), .agg #[.int .i64 x.kind, .int .i64 x.n, .int .i64 x.b.k, .int .i64 x.b.p, .int .i64 x.b.ep, .int .i64 x.b.s, .bool x.b.t, .slice A x.b.rs.length c]] w fun e w' =>
      e = .returned (.tuple #[.int .i64 (L.decide x).1, .bool (L.decide x).2.1, .int .i64 (L.decide x).2.2]) ∧ Below w.heap.size w w' := by
  obtain ⟨h0, rA, rc, oA, oc, gA, gc, h1, h2⟩ := h
  exact ldecide_any h1 hn x A c hR hs
theorem stable_led (h : Led a n0 lb tb mb nn L w) (hn : nn ≤ 1000000000) : Calls Try.prog 16 #[.pointer (some ⟨lb, 0, none⟩)] w fun e w' => e = .returned (.int .i64 L.stable) ∧ Below w.heap.size w w' := by
  obtain ⟨h0, rA, rc, oA, oc, gA, gc, h1, h2⟩ := h
  exact stable_any h1 hn
theorem start_led (h : Led a n0 lb tb mb nn L w) : Calls Try.prog 17 #[.pointer (some ⟨lb, 0, none⟩)] w fun e w' => e = .returned (.int .i64 L.start) ∧ w = w' := by
  obtain ⟨h0, rA, rc, oA, oc, gA, gc, h1, h2⟩ := h
  exact start_any h1
theorem end_led (h : Led a n0 lb tb mb nn L w) : Calls Try.prog 11 #[.pointer (some ⟨lb, 0, none⟩)] w fun e w' => e = .returned (.int .i64 L.fin) ∧ w = w' := by
  obtain ⟨h0, rA, rc, oA, oc, gA, gc, h1, h2⟩ := h
  exact end_any h1
theorem fetch_led (h : Led a n0 lb tb mb nn L w) (hn : nn ≤ 1000000000) (frm most : Int) (co : Bool) (hf : okI frm) (hm : okI most) :
    Calls Try.prog 15 #[.pointer (some ⟨lb, 0, none⟩), .int .i64 frm, .int .i64 most, .bool co] w fun e w' => Fetched w (L.fetch frm most co) e w' := by
  obtain ⟨h0, rA, rc, oA, oc, gA, gc, h1, h2⟩ := h
  exact fetch_any h1 hn frm most co hf hm
theorem rows_led (h : Led a n0 lb tb mb nn L w) (hn : nn ≤ 1000000000) : Calls Try.prog 18 #[.pointer (some ⟨lb, 0, none⟩)] w fun e w' => ∃ A' c', e = .returned (.slice A' L.rows.length c') ∧ LAt w' A' 6 rwL L.rows ∧ NewR w.heap.size A' L.rows ∧ Below w.heap.size w w' := by
  obtain ⟨h0, rA, rc, oA, oc, gA, gc, h1, h2⟩ := h
  exact (rows_any h1 hn).mono fun e w' ⟨A', c', e1, e2, e3⟩ => ⟨A', c', e1, LAt.of_own rwL_len e2 rfl, fun b o _ e => ownsRow_base e2 (by rw [e]; rfl), e3⟩
/-- Apply leaves what was made since the ledger was seen. -/
theorem apply_led2 {w0 : World} (h : Led a n0 lb tb mb nn L w0) (hb : Below w0.heap.size w0 w) (hn : nn < 1000000000) (x : En) (A : Option Addr) (c : Nat) (hR : RecsT w A x.b.rs) (hs : okI x.b.s) :
    Calls Try.prog 13 #[.pointer (some ⟨lb, 0, none⟩), .agg #[.int .i64 x.kind, .int .i64 x.n, .int .i64 x.b.k, .int .i64 x.b.p, .int .i64 x.b.ep, .int .i64 x.b.s, .bool x.b.t, .slice A x.b.rs.length c]] w fun e w' =>
      e = .returned (.tuple #[.int .i64 (L.said x).1, .int .i64 (L.said x).2]) ∧ Led a n0 lb tb mb (nn + 1) (L.apply x) w' ∧ ∀ b, w0.heap.size ≤ b → b < w.heap.size → w'.heap[b]? = w.heap[b]? := by
  obtain ⟨h0, rA, rc, oA, oc, gA, gc, h1, h2⟩ := h
  have h3 := h1.below hb
  refine (apply_any h3 hn x A c hR hs).mono fun e w' he => ⟨he.1, ⟨h0, ?_⟩, ?_⟩
  · obtain ⟨rA', rc', oA', oc', gA', gc', k1, k2⟩ := he.2
    exact ⟨_, _, _, _, _, _, k1.good (h1.good.apply x (recs_key hR.1)), k2.bel h3.mem (bl_tr h2 hb) h0.1 h0.2.1 h0.2.2⟩
  · obtain ⟨rA', rc', oA', oc', gA', gc', k1, k2⟩ := he.2
    intro b hb1 hb2
    refine k2.block b hb2 ?_ ?_ (fun e => ?_) (fun e => ?_) (fun e => ?_)
    · have := h1.blk.lt; omega
    · have := h1.im.lt; omega
    · have := h1.lt (.inr (.inr (.inr (.inl e)))); omega
    · have := h1.lt (.inr (.inr (.inr (.inr (.inl e))))); omega
    · have := h1.lt (.inr (.inr (.inr (.inr (.inr e))))); omega
/-- Rows in new memory stay over it. -/
theorem rows_over {w0 w' : World} {A : Option Addr} {l : List Rw} (h : LAt w A 6 rwL l) (hn : NewR w0.heap.size A l) (hk : ∀ b, w0.heap.size ≤ b → b < w.heap.size → w'.heap[b]? = w.heap[b]?) : LAt w' A 6 rwL l := fun i hi => by
  obtain ⟨b, o, hA, hlt, hc⟩ := h i hi
  have e := hk b (hn b o (by rintro rfl; simp at hi) hA) hlt
  refine ⟨b, o, hA, ?_, fun j u hu => (World.cell?_of_block (w := w) (w' := w') (a := ⟨b, _, none⟩) e).trans (hc j u hu)⟩
  rw [Array.getElem?_eq_getElem hlt] at e
  exact (Array.getElem?_eq_some_iff.1 e).1
end

set_option maxRecDepth 100000 in
set_option maxHeartbeats 2000000 in
theorem lknows_any (w : World) : Calls Try.prog 9 #[] w fun e w' => e = .returned (.bool true) ∧ Below w.heap.size w w' := by
  have hL0 := led_new (a := w) w rfl
  have hok : okI 0 ∧ okI 9 := by unfold okI; omega
  go_enter Try.func9, Try.ntmps9
  go_wp2_with (go_at_call 8; refine (lnew_any _).mono ?_; rintro e w' ⟨rfl, rfl⟩)
  obtain ⟨W, hW⟩ : ∃ W, W = ((w.alloc (.map #[] 0)).alloc (.cells #[.map (some w.heap.size)] 88)).alloc (.cells #[.pointer (some ⟨w.heap.size + 1, 0, none⟩), .int .i64 0, .int .i64 0, .slice none 0 0, .slice none 0 0, .slice none 0 0] 64) := ⟨_, rfl⟩
  rw [← hW] at hL0 ⊢
  clear hW
  refine (inTxn_any 1 0 2 W (by omega)).mono ?_
  rintro e w1 ⟨A1, c1, rfl, hR1, hb1⟩
  have hL1 := hL0.below hb1
  clear hL0 hb1
  have c1 := apply_led hL1 (by omega) kx1 A1 c1 hR1 hok.1
  rw [ks1] at c1
  go_wp2_with fail
  refine Calls.mono c1 ?_
  clear c1
  rintro e w2 ⟨rfl, hL2⟩
  have c2 := stable_led hL2 (by omega)
  rw [show (lg0.apply kx1).stable = 0 from ks2] at c2
  go_wp2_with fail
  refine Calls.mono c2 ?_
  clear c2 hL1
  rintro e w3 ⟨rfl, hb3⟩
  have hL3 := hL2.below hb3
  clear hL2 hb3
  go_wp2_with fail
  refine (fetch_led hL3 (by omega) 0 9 true hok.1 hok.2).mono ?_
  rintro e w4 ⟨A4, c4, rfl, hcap4, hat4, _, hb4⟩
  rw [show ((lg0.apply kx1).fetch 0 9 true).2 = (0, 0) from ks3]
  have hL4 := hL3.below hb4
  clear hL3 hb4 hat4 hcap4
  generalize ((lg0.apply kx1).fetch 0 9 true).1.length = zz
  have c5 := apply_led hL4 (by omega) kx2 none 0 ⟨⟨by simp [kx2], fun i hi => by simp [kx2] at hi⟩, fun b o hn => absurd rfl hn⟩ hok.1
  rw [show (lg0.apply kx1).said kx2 = (2, 0) from ks4] at c5
  go_wp2_with fail
  refine Calls.mono c5 ?_
  clear c5
  rintro e w5 ⟨rfl, hL5⟩
  go_wp2_with fail
  refine (fetch_led hL5 (by omega) 0 9 true hok.1 hok.2).mono ?_
  rintro e w6 ⟨A6, c6, rfl, hcap6, hat6, _, hb6⟩
  rw [show (((lg0.apply kx1).apply kx2).fetch 0 9 true).2 = (3, 0) from ks5.2, show (((lg0.apply kx1).apply kx2).fetch 0 9 true).1.length = 2 from ks5.1]
  have hL6 := hL5.below hb6
  clear hL5 hb6 hat6 hcap6 hL4
  have c7 := stable_led hL6 (by omega)
  rw [show ((lg0.apply kx1).apply kx2).stable = 3 from ks6] at c7
  replace c7 := Lib.hid c7
  go_wp2_with (first | (go_at_call 14; refine (num_any _ _).mono ?_; rintro e w' ⟨rfl, rfl⟩) | (go_at_call 16; refine c7.out.mono ?_; rintro e w7 ⟨rfl, hb7⟩))
  go_ret
  exact ⟨rfl, bl_tr hL6.bel hb7⟩
end Go.Proofs.Ytejjiiakficafaa
