/- How a ledger in memory turns: its slices set anew; what is not the ledger's stays. -/
import Derived.Test.YtejjiiakficafaaLm
namespace Go.Proofs.Ytejjiiakficafaa
open Go.RowKit Go.Shelf Go.Maps

/-- The memory of a ledger, whatever its numbers. -/
structure LgM (w : World) (n0 lb tb mb nn : Nat) (rA : Option Addr) (rc : Nat) (oA : Option Addr) (oc : Nat) (gA : Option Addr) (gc : Nat) (L : Lg) : Prop where
  blk : Blk w lb (lgL tb L.start L.fin (.slice rA L.rows.length rc) (.slice oA L.opn.length oc) (.slice gA L.gone.length gc))
  lty : TyAt w lb 64
  tab : Blk w tb [.map (some mb)]
  tty : TyAt w tb 88
  im : IM Try.prog 3 w mb nn stV L.m
  rows : w.ownsRow n0 51 6 (.slice rA L.rows.length rc) L.rows.length (L.rows.flatMap rwL)
  opn : w.ownsRow n0 82 2 (.slice oA L.opn.length oc) L.opn.length (L.opn.flatMap txL)
  gone : w.ownsRow n0 79 3 (.slice gA L.gone.length gc) L.gone.length (L.gone.flatMap gnL)
  low : lb < n0 ∧ tb < n0 ∧ mb < n0 ∧ n0 ≤ w.heap.size

/-- What is not the ledger's is as it was; its slices lie where they lay, or anew. -/
structure FrL (w w' : World) (lb mb : Nat) (rA oA gA rA' oA' gA' : Option Addr) : Prop where
  os : w'.os = w.os
  tape : w'.tape = w.tape
  output : w'.output = w.output
  size : w.heap.size ≤ w'.heap.size
  block : ∀ b, b < w.heap.size → b ≠ lb → b ≠ mb → rA ≠ some ⟨b, 0, none⟩ → oA ≠ some ⟨b, 0, none⟩ → gA ≠ some ⟨b, 0, none⟩ → w'.heap[b]? = w.heap[b]?
  r : rA' = rA ∨ ∀ g, rA' = some ⟨g, 0, none⟩ → w.heap.size ≤ g
  o : oA' = oA ∨ ∀ g, oA' = some ⟨g, 0, none⟩ → w.heap.size ≤ g
  g : gA' = gA ∨ ∀ g, gA' = some ⟨g, 0, none⟩ → w.heap.size ≤ g

theorem FrL.of_below {w w' : World} {lb mb : Nat} {rA oA gA : Option Addr} (h : Below w.heap.size w w') : FrL w w' lb mb rA oA gA rA oA gA :=
  ⟨h.os, h.tape, h.output, h.size, fun b hb _ _ _ _ _ => h.block b hb, .inl rfl, .inl rfl, .inl rfl⟩
theorem FrL.tr {w w1 w2 : World} {lb mb : Nat} {rA oA gA rA1 oA1 gA1 rA2 oA2 gA2 : Option Addr} (h : FrL w w1 lb mb rA oA gA rA1 oA1 gA1) (k : FrL w1 w2 lb mb rA1 oA1 gA1 rA2 oA2 gA2) : FrL w w2 lb mb rA oA gA rA2 oA2 gA2 := by
  have hs := h.size
  refine ⟨k.os.trans h.os, k.tape.trans h.tape, k.output.trans h.output, Nat.le_trans hs k.size, fun b hb h1 h2 h3 h4 h5 => ?_, ?_, ?_, ?_⟩
  · refine (k.block b (by omega) h1 h2 ?_ ?_ ?_).trans (h.block b hb h1 h2 h3 h4 h5)
    · rcases h.r with e | e
      · rw [e]; exact h3
      · intro e2; have := e _ e2; omega
    · rcases h.o with e | e
      · rw [e]; exact h4
      · intro e2; have := e _ e2; omega
    · rcases h.g with e | e
      · rw [e]; exact h5
      · intro e2; have := e _ e2; omega
  · rcases k.r with e | e
    · rw [e]; exact h.r
    · exact .inr fun g e2 => Nat.le_trans hs (e g e2)
  · rcases k.o with e | e
    · rw [e]; exact h.o
    · exact .inr fun g e2 => Nat.le_trans hs (e g e2)
  · rcases k.g with e | e
    · rw [e]; exact h.g
    · exact .inr fun g e2 => Nat.le_trans hs (e g e2)

section
variable {w w1 w' : World} {n0 lb tb mb nn rc oc gc : Nat} {rA oA gA : Option Addr} {L : Lg}
theorem LgAt.mem (h : LgAt w n0 lb tb mb nn rA rc oA oc gA gc L) : LgM w n0 lb tb mb nn rA rc oA oc gA gc L := ⟨h.blk, h.lty, h.tab, h.tty, h.im, h.rows, h.opn, h.gone, h.low⟩
theorem LgM.good (h : LgM w n0 lb tb mb nn rA rc oA oc gA gc L) (hg : GoodL L nn) : LgAt w n0 lb tb mb nn rA rc oA oc gA gc L := ⟨h.blk, h.lty, h.tab, h.tty, h.im, h.rows, h.opn, h.gone, h.low, hg⟩
theorem LgM.lt (h : LgM w n0 lb tb mb nn rA rc oA oc gA gc L) {b : Nat} (hb : isOf lb tb mb rA oA gA b) : b < w.heap.size := by
  rcases hb with rfl | rfl | rfl | hb | hb | hb
  · exact h.blk.lt
  · exact h.tab.lt
  · exact h.im.lt
  · exact ownsRow_lt h.rows (own_block hb)
  · exact ownsRow_lt h.opn (own_block hb)
  · exact ownsRow_lt h.gone (own_block hb)
theorem LgM.keep (h : LgM w n0 lb tb mb nn rA rc oA oc gA gc L) (hk : ∀ b, isOf lb tb mb rA oA gA b → w'.heap[b]? = w.heap[b]?) (hs : w.heap.size ≤ w'.heap.size) : LgM w' n0 lb tb mb nn rA rc oA oc gA gc L :=
  ⟨h.blk.of_heap (hk _ (.inl rfl)), h.lty.of_heap (hk _ (.inl rfl)), h.tab.of_heap (hk _ (.inr (.inl rfl))), h.tty.of_heap (hk _ (.inr (.inl rfl))), h.im.of_heap (hk _ (.inr (.inr (.inl rfl)))),
    ownsRow_keep h.rows (fun _ e => hk _ (.inr (.inr (.inr (.inl (own_at h.rows e)))))), ownsRow_keep h.opn (fun _ e => hk _ (.inr (.inr (.inr (.inr (.inl (own_at h.opn e))))))), ownsRow_keep h.gone (fun _ e => hk _ (.inr (.inr (.inr (.inr (.inr (own_at h.gone e))))))),
    ⟨h.low.1, h.low.2.1, h.low.2.2.1, Nat.le_trans h.low.2.2.2 hs⟩⟩
theorem LgM.below (h : LgM w n0 lb tb mb nn rA rc oA oc gA gc L) (hb : Below w.heap.size w w') : LgM w' n0 lb tb mb nn rA rc oA oc gA gc L :=
  h.keep (fun b hh => hb.block b (h.lt hh)) hb.size
theorem LgM.mono (h : LgM w n0 lb tb mb nn rA rc oA oc gA gc L) {k : Nat} (hk : nn ≤ k) : LgM w n0 lb tb mb k rA rc oA oc gA gc L := ⟨h.blk, h.lty, h.tab, h.tty, h.im.mono hk, h.rows, h.opn, h.gone, h.low⟩

/-- The blocks of a ledger are all different. -/
theorem LgM.ne_lt (h : LgM w n0 lb tb mb nn rA rc oA oc gA gc L) : lb ≠ tb ∧ lb ≠ mb ∧ tb ≠ mb := by
  refine ⟨h.lty.ne h.tty (by decide), ?_, ?_⟩
  · exact h.im.ne_ty h.lty
  · exact h.im.ne_ty h.tty
theorem LgM.ne_r (h : LgM w n0 lb tb mb nn rA rc oA oc gA gc L) {g : Nat} (hg : rA = some ⟨g, 0, none⟩) : g ≠ lb ∧ g ≠ tb ∧ g ≠ mb ∧ oA ≠ some ⟨g, 0, none⟩ ∧ gA ≠ some ⟨g, 0, none⟩ := by
  have ht := ownsRow_ty h.rows (own_block hg)
  refine ⟨ht.ne h.lty (by decide), ht.ne h.tty (by decide), h.im.ne_ty ht, fun e => ?_, fun e => ?_⟩
  · exact ht.ne (ownsRow_ty h.opn (own_block e)) (by decide) rfl
  · exact ht.ne (ownsRow_ty h.gone (own_block e)) (by decide) rfl
theorem LgM.ne_o (h : LgM w n0 lb tb mb nn rA rc oA oc gA gc L) {g : Nat} (hg : oA = some ⟨g, 0, none⟩) : g ≠ lb ∧ g ≠ tb ∧ g ≠ mb ∧ rA ≠ some ⟨g, 0, none⟩ ∧ gA ≠ some ⟨g, 0, none⟩ := by
  have ht := ownsRow_ty h.opn (own_block hg)
  refine ⟨ht.ne h.lty (by decide), ht.ne h.tty (by decide), h.im.ne_ty ht, fun e => ?_, fun e => ?_⟩
  · exact ht.ne (ownsRow_ty h.rows (own_block e)) (by decide) rfl
  · exact ht.ne (ownsRow_ty h.gone (own_block e)) (by decide) rfl
theorem LgM.ne_g (h : LgM w n0 lb tb mb nn rA rc oA oc gA gc L) {g : Nat} (hg : gA = some ⟨g, 0, none⟩) : g ≠ lb ∧ g ≠ tb ∧ g ≠ mb ∧ rA ≠ some ⟨g, 0, none⟩ ∧ oA ≠ some ⟨g, 0, none⟩ := by
  have ht := ownsRow_ty h.gone (own_block hg)
  refine ⟨ht.ne h.lty (by decide), ht.ne h.tty (by decide), h.im.ne_ty ht, fun e => ?_, fun e => ?_⟩
  · exact ht.ne (ownsRow_ty h.rows (own_block e)) (by decide) rfl
  · exact ht.ne (ownsRow_ty h.opn (own_block e)) (by decide) rfl

theorem set_keep {w : World} {lb k : Nat} {v : Value} {b : Nat} (h : b ≠ lb) : (w.setCell ⟨lb, k, none⟩ v).heap[b]? = w.heap[b]? := Below.heap_setCell w ⟨lb, k, none⟩ v b h
theorem set_size (w : World) (a : Addr) (v : Value) : (w.setCell a v).heap.size = w.heap.size := by simp [World.setCell]

/-- The rows set anew. -/
theorem LgM.setR (h : LgM w n0 lb tb mb nn rA rc oA oc gA gc L) (hg : w.grownBy w1 (Value.slice rA L.rows.length rc).ownBlock) {A : Option Addr} {c : Nat} {l : List Rw} (hown : w1.ownsRow n0 51 6 (.slice A l.length c) l.length (l.flatMap rwL)) :
    LgM (w1.setCell ⟨lb, 3, none⟩ (.slice A l.length c)) n0 lb tb mb nn A c oA oc gA gc { L with rows := l } := by
  have hk : ∀ b, b < w.heap.size → b ≠ lb → rA ≠ some ⟨b, 0, none⟩ → (w1.setCell ⟨lb, 3, none⟩ (.slice A l.length c)).heap[b]? = w.heap[b]? := fun b hb h1 h2 =>
    (set_keep h1).trans (hg.block b hb (fun e => h2 (own_at h.rows e.symm)))
  have hl : w1.heap[lb]? = w.heap[lb]? := hg.block lb h.blk.lt (fun e => (h.ne_r (own_at h.rows e.symm)).1 rfl)
  obtain ⟨d1, d2, d3⟩ := h.ne_lt
  refine ⟨(h.blk.of_heap hl).set_same 3 _, (h.lty.of_heap hl).setCell _ _, h.tab.of_heap (hk _ h.tab.lt d1.symm (fun e => (h.ne_r e).2.1 rfl)), h.tty.of_heap (hk _ h.tab.lt d1.symm (fun e => (h.ne_r e).2.1 rfl)),
    h.im.of_heap (hk _ h.im.lt d2.symm (fun e => (h.ne_r e).2.2.1 rfl)), ?_, ?_, ?_, ⟨h.low.1, h.low.2.1, h.low.2.2.1, ?_⟩⟩
  · refine ownsRow_keep hown fun g e => set_keep ?_
    exact (ownsRow_ty hown e).ne (h.lty.of_heap hl) (by decide)
  · exact ownsRow_keep h.opn fun g e => hk g (ownsRow_lt h.opn e) (h.ne_o (own_at h.opn e)).1 (h.ne_o (own_at h.opn e)).2.2.2.1
  · exact ownsRow_keep h.gone fun g e => hk g (ownsRow_lt h.gone e) (h.ne_g (own_at h.gone e)).1 (h.ne_g (own_at h.gone e)).2.2.2.1
  · rw [set_size]; exact Nat.le_trans h.low.2.2.2 hg.size
theorem LgM.frR (h : LgM w n0 lb tb mb nn rA rc oA oc gA gc L) (hg : w.grownBy w1 (Value.slice rA L.rows.length rc).ownBlock) {A : Option Addr} (hA : A = rA ∨ ∀ g, A = some ⟨g, 0, none⟩ → w.heap.size ≤ g) (v : Value) : FrL w (w1.setCell ⟨lb, 3, none⟩ v) lb mb rA oA gA A oA gA :=
  ⟨hg.os, hg.tape, hg.output, by rw [set_size]; exact hg.size, fun b hb h1 _ h3 _ _ => (set_keep h1).trans (hg.block b hb (fun e => h3 (own_at h.rows e.symm))), hA, .inl rfl, .inl rfl⟩
/-- The open transactions set anew. -/
theorem LgM.setO (h : LgM w n0 lb tb mb nn rA rc oA oc gA gc L) (hg : w.grownBy w1 (Value.slice oA L.opn.length oc).ownBlock) {A : Option Addr} {c : Nat} {l : List Tx} (hown : w1.ownsRow n0 82 2 (.slice A l.length c) l.length (l.flatMap txL)) :
    LgM (w1.setCell ⟨lb, 4, none⟩ (.slice A l.length c)) n0 lb tb mb nn rA rc A c gA gc { L with opn := l } := by
  have hk : ∀ b, b < w.heap.size → b ≠ lb → oA ≠ some ⟨b, 0, none⟩ → (w1.setCell ⟨lb, 4, none⟩ (.slice A l.length c)).heap[b]? = w.heap[b]? := fun b hb h1 h2 =>
    (set_keep h1).trans (hg.block b hb (fun e => h2 (own_at h.opn e.symm)))
  have hl : w1.heap[lb]? = w.heap[lb]? := hg.block lb h.blk.lt (fun e => (h.ne_o (own_at h.opn e.symm)).1 rfl)
  obtain ⟨d1, d2, d3⟩ := h.ne_lt
  refine ⟨(h.blk.of_heap hl).set_same 4 _, (h.lty.of_heap hl).setCell _ _, h.tab.of_heap (hk _ h.tab.lt d1.symm (fun e => (h.ne_o e).2.1 rfl)), h.tty.of_heap (hk _ h.tab.lt d1.symm (fun e => (h.ne_o e).2.1 rfl)),
    h.im.of_heap (hk _ h.im.lt d2.symm (fun e => (h.ne_o e).2.2.1 rfl)), ?_, ?_, ?_, ⟨h.low.1, h.low.2.1, h.low.2.2.1, ?_⟩⟩
  · exact ownsRow_keep h.rows fun g e => hk g (ownsRow_lt h.rows e) (h.ne_r (own_at h.rows e)).1 (h.ne_r (own_at h.rows e)).2.2.2.1
  · refine ownsRow_keep hown fun g e => set_keep ?_
    exact (ownsRow_ty hown e).ne (h.lty.of_heap hl) (by decide)
  · exact ownsRow_keep h.gone fun g e => hk g (ownsRow_lt h.gone e) (h.ne_g (own_at h.gone e)).1 (h.ne_g (own_at h.gone e)).2.2.2.2
  · rw [set_size]; exact Nat.le_trans h.low.2.2.2 hg.size
theorem LgM.frO (h : LgM w n0 lb tb mb nn rA rc oA oc gA gc L) (hg : w.grownBy w1 (Value.slice oA L.opn.length oc).ownBlock) {A : Option Addr} (hA : A = oA ∨ ∀ g, A = some ⟨g, 0, none⟩ → w.heap.size ≤ g) (v : Value) : FrL w (w1.setCell ⟨lb, 4, none⟩ v) lb mb rA oA gA rA A gA :=
  ⟨hg.os, hg.tape, hg.output, by rw [set_size]; exact hg.size, fun b hb h1 _ _ h4 _ => (set_keep h1).trans (hg.block b hb (fun e => h4 (own_at h.opn e.symm))), .inl rfl, hA, .inl rfl⟩
/-- The aborted ones set anew. -/
theorem LgM.setG (h : LgM w n0 lb tb mb nn rA rc oA oc gA gc L) (hg : w.grownBy w1 (Value.slice gA L.gone.length gc).ownBlock) {A : Option Addr} {c : Nat} {l : List Gn} (hown : w1.ownsRow n0 79 3 (.slice A l.length c) l.length (l.flatMap gnL)) :
    LgM (w1.setCell ⟨lb, 5, none⟩ (.slice A l.length c)) n0 lb tb mb nn rA rc oA oc A c { L with gone := l } := by
  have hk : ∀ b, b < w.heap.size → b ≠ lb → gA ≠ some ⟨b, 0, none⟩ → (w1.setCell ⟨lb, 5, none⟩ (.slice A l.length c)).heap[b]? = w.heap[b]? := fun b hb h1 h2 =>
    (set_keep h1).trans (hg.block b hb (fun e => h2 (own_at h.gone e.symm)))
  have hl : w1.heap[lb]? = w.heap[lb]? := hg.block lb h.blk.lt (fun e => (h.ne_g (own_at h.gone e.symm)).1 rfl)
  obtain ⟨d1, d2, d3⟩ := h.ne_lt
  refine ⟨(h.blk.of_heap hl).set_same 5 _, (h.lty.of_heap hl).setCell _ _, h.tab.of_heap (hk _ h.tab.lt d1.symm (fun e => (h.ne_g e).2.1 rfl)), h.tty.of_heap (hk _ h.tab.lt d1.symm (fun e => (h.ne_g e).2.1 rfl)),
    h.im.of_heap (hk _ h.im.lt d2.symm (fun e => (h.ne_g e).2.2.1 rfl)), ?_, ?_, ?_, ⟨h.low.1, h.low.2.1, h.low.2.2.1, ?_⟩⟩
  · exact ownsRow_keep h.rows fun g e => hk g (ownsRow_lt h.rows e) (h.ne_r (own_at h.rows e)).1 (h.ne_r (own_at h.rows e)).2.2.2.2
  · exact ownsRow_keep h.opn fun g e => hk g (ownsRow_lt h.opn e) (h.ne_o (own_at h.opn e)).1 (h.ne_o (own_at h.opn e)).2.2.2.2
  · refine ownsRow_keep hown fun g e => set_keep ?_
    exact (ownsRow_ty hown e).ne (h.lty.of_heap hl) (by decide)
  · rw [set_size]; exact Nat.le_trans h.low.2.2.2 hg.size
theorem LgM.frG (h : LgM w n0 lb tb mb nn rA rc oA oc gA gc L) (hg : w.grownBy w1 (Value.slice gA L.gone.length gc).ownBlock) {A : Option Addr} (hA : A = gA ∨ ∀ g, A = some ⟨g, 0, none⟩ → w.heap.size ≤ g) (v : Value) : FrL w (w1.setCell ⟨lb, 5, none⟩ v) lb mb rA oA gA rA oA A :=
  ⟨hg.os, hg.tape, hg.output, by rw [set_size]; exact hg.size, fun b hb h1 _ _ _ h5 => (set_keep h1).trans (hg.block b hb (fun e => h5 (own_at h.gone e.symm))), .inl rfl, .inl rfl, hA⟩
/-- The table's map has turned. -/
theorem LgM.setM (h : LgM w n0 lb tb mb nn rA rc oA oc gA gc L) (hg : w.grownBy w1 (some mb)) {k : Nat} {m : List (Int × St)} (hM : IM Try.prog 3 w1 mb k stV m) : LgM w1 n0 lb tb mb k rA rc oA oc gA gc { L with m := m } := by
  have hk : ∀ b, b < w.heap.size → b ≠ mb → w1.heap[b]? = w.heap[b]? := fun b hb h1 => hg.block b hb (by simpa using h1)
  obtain ⟨d1, d2, d3⟩ := h.ne_lt
  exact ⟨h.blk.of_heap (hk _ h.blk.lt d2), h.lty.of_heap (hk _ h.blk.lt d2), h.tab.of_heap (hk _ h.tab.lt d3), h.tty.of_heap (hk _ h.tab.lt d3), hM,
    ownsRow_keep h.rows (fun g e => hk g (ownsRow_lt h.rows e) (h.ne_r (own_at h.rows e)).2.2.1), ownsRow_keep h.opn (fun g e => hk g (ownsRow_lt h.opn e) (h.ne_o (own_at h.opn e)).2.2.1), ownsRow_keep h.gone (fun g e => hk g (ownsRow_lt h.gone e) (h.ne_g (own_at h.gone e)).2.2.1),
    ⟨h.low.1, h.low.2.1, h.low.2.2.1, Nat.le_trans h.low.2.2.2 hg.size⟩⟩
theorem FrL.of_map (hg : w.grownBy w1 (some mb)) : FrL w w1 lb mb rA oA gA rA oA gA :=
  ⟨hg.os, hg.tape, hg.output, hg.size, fun b hb _ h2 _ _ _ => hg.block b hb (by simpa using h2), .inl rfl, .inl rfl, .inl rfl⟩
/-- A number of the ledger set. -/
theorem LgM.setN (h : LgM w n0 lb tb mb nn rA rc oA oc gA gc L) (k : Nat) (v : Value) {s f : Int}
    (he : (lgL tb L.start L.fin (.slice rA L.rows.length rc) (.slice oA L.opn.length oc) (.slice gA L.gone.length gc)).set k v = lgL tb s f (.slice rA L.rows.length rc) (.slice oA L.opn.length oc) (.slice gA L.gone.length gc)) :
    LgM (w.setCell ⟨lb, k, none⟩ v) n0 lb tb mb nn rA rc oA oc gA gc { L with start := s, fin := f } := by
  obtain ⟨d1, d2, d3⟩ := h.ne_lt
  exact ⟨blk_eq (h.blk.set_same k v) he, h.lty.setCell _ _, h.tab.of_heap (set_keep d1.symm), h.tty.of_heap (set_keep d1.symm), h.im.of_heap (set_keep d2.symm),
    ownsRow_keep h.rows (fun g e => set_keep (h.ne_r (own_at h.rows e)).1), ownsRow_keep h.opn (fun g e => set_keep (h.ne_o (own_at h.opn e)).1), ownsRow_keep h.gone (fun g e => set_keep (h.ne_g (own_at h.gone e)).1),
    ⟨h.low.1, h.low.2.1, h.low.2.2.1, by rw [set_size]; exact h.low.2.2.2⟩⟩
theorem FrL.of_set (k : Nat) (v : Value) : FrL w (w.setCell ⟨lb, k, none⟩ v) lb mb rA oA gA rA oA gA :=
  ⟨rfl, rfl, rfl, by rw [set_size]; exact Nat.le_refl _, fun b _ h1 _ _ _ _ => set_keep h1, .inl rfl, .inl rfl, .inl rfl⟩
/-- A block that is not the ledger's. -/
theorem FrL.blk' {rA' oA' gA' : Option Addr} (hf : FrL w w1 lb mb rA oA gA rA' oA' gA') {b : Nat} {vs : List Value} (hB : Blk w b vs) (h1 : b ≠ lb) (h2 : b ≠ mb) (h3 : rA ≠ some ⟨b, 0, none⟩) (h4 : oA ≠ some ⟨b, 0, none⟩) (h5 : gA ≠ some ⟨b, 0, none⟩) : Blk w1 b vs :=
  hB.of_heap (hf.block b hB.lt h1 h2 h3 h4 h5)
end
end Go.Proofs.Ytejjiiakficafaa
