/- The document's disk in memory: its box, its row of blocks, their texts and versions in rows of their own. -/
import Derived.Test.YteaenhmiomoocaaSp
import Derived.Test.YteaenhmiomoocaaTr
namespace Go.Proofs.Yteaenhmiomoocaa
open Go.RowKit Go.Shelf

/-- Block b is a row of elements of type T. -/
def TyAt (w : World) (b : Nat) (T : TypeId) : Prop := ∃ cs fz, w.heap[b]? = some (.cells cs T fz)
theorem TyAt.of_heap {w w' : World} {b : Nat} {T : TypeId} (h : TyAt w b T) (hh : w'.heap[b]? = w.heap[b]?) : TyAt w' b T := by
  obtain ⟨cs, fz, e⟩ := h
  exact ⟨cs, fz, hh.trans e⟩
theorem TyAt.lt {w : World} {b : Nat} {T : TypeId} (h : TyAt w b T) : b < w.heap.size := by
  obtain ⟨cs, fz, e⟩ := h
  exact (Array.getElem?_eq_some_iff.1 e).1
theorem TyAt.ne {w : World} {b b' : Nat} {T T' : TypeId} (h : TyAt w b T) (h' : TyAt w b' T') (hne : T ≠ T') : b ≠ b' := by
  rintro rfl
  obtain ⟨cs, fz, e⟩ := h
  obtain ⟨cs', fz', e'⟩ := h'
  rw [e] at e'
  simp only [Option.some.injEq, Obj.cells.injEq] at e'
  exact hne e'.2.1
theorem TyAt.setCell {w : World} {b : Nat} {T : TypeId} (h : TyAt w b T) (a : Addr) (v : Value) : TyAt (w.setCell a v) b T := by
  obtain ⟨cs, fz, e⟩ := h
  by_cases hb : a.block = b
  · subst hb
    refine ⟨if a.spot.isSome then cs else cs.setIfInBounds a.off v, fz, ?_⟩
    simp [World.setCell, Array.getElem?_modify, e]
  · exact ⟨cs, fz, by rw [Below.heap_setCell _ _ _ _ (Ne.symm hb)]; exact e⟩
theorem TyAt.alloc {w : World} {b : Nat} {T : TypeId} (h : TyAt w b T) (o : Obj) : TyAt (w.alloc o) b T := h.of_heap (Below.heap_alloc w o b h.lt)
theorem TyAt.new (w : World) (cs : Array Value) (T : TypeId) : TyAt (w.alloc (.cells cs T)) w.heap.size T := ⟨cs, _, by rw [World.alloc_heap_new]⟩
theorem TyAt.below {w w' : World} {b : Nat} {T : TypeId} (h : TyAt w b T) (hb : Below w.heap.size w w') : TyAt w' b T := h.of_heap (hb.block b h.lt)
theorem ownsRow_ty {w : World} {base : Nat} {e : TypeId} {size : Nat} {v : Value} {n : Nat} {xs : List Value} (h : w.ownsRow base e size v n xs) {g : Nat} (hg : v.ownBlock = some g) : TyAt w g e := by
  obtain ⟨_, ⟨rfl, _⟩ | ⟨g', cap, cur, rfl, hb, hh, _⟩⟩ := h
  · cases hg
  · simp [Value.ownBlock] at hg
    subst hg
    exact ⟨_, _, hh⟩
/-- A cell of a row, set. -/
theorem ownsRow_set {w : World} {base : Nat} {e : TypeId} {size g n cap : Nat} {xs : List Value} (h : w.ownsRow base e size (.slice (some ⟨g, 0, none⟩) n cap) n xs) (j : Nat) (v : Value) :
    (w.setCell ⟨g, j, none⟩ v).ownsRow base e size (.slice (some ⟨g, 0, none⟩) n cap) n (xs.set j v) := by
  obtain ⟨h1, ⟨h2, _⟩ | ⟨g', cap', cur, h2, hg, hh, hn, hc, hs, ht⟩⟩ := h
  · cases h2
  · cases h2
    refine ⟨by simpa using h1, .inr ⟨g, cap, cur.setIfInBounds j v, rfl, hg, by simp [World.setCell, Array.getElem?_modify, hh], hn, hc, by simpa using hs, ?_⟩⟩
    rw [Array.toList_setIfInBounds, List.take_set, ht]
theorem ownsRow_unf {w : World} {base : Nat} {e : TypeId} {size g n n' c : Nat} {xs : List Value} (h : w.ownsRow base e size (.slice (some ⟨g, 0, none⟩) n c) n' xs) : ∀ j, w.frozen? ⟨g, j, none⟩ = false := by
  obtain ⟨_, ⟨h2, _⟩ | ⟨g', cap', cur, h2, hg, hh, _⟩⟩ := h
  · cases h2
  · cases h2
    intro j
    simp [World.frozen?, hh]

/-- One block, as the document's disk has it. -/
structure Bk where
  tv : Value
  bad : Bool
  vv : Value
deriving Inhabited
def bkL (b : Bk) : List Value := [b.tv, .bool b.bad, b.vv]
def bkC (l : List Bk) : List Value := l.flatMap bkL
theorem bkC_length (l : List Bk) : (bkC l).length = l.length * 3 := by
  induction l with
  | nil => rfl
  | cons b l ih => simp only [bkC, List.flatMap_cons, List.length_append, bkL, List.length_cons, List.length_nil] at *; omega
theorem bkC_get : ∀ (l : List Bk) j (h : j < l.length), (bkC l)[j * 3]? = some l[j].tv ∧ (bkC l)[j * 3 + 1]? = some (.bool l[j].bad) ∧ (bkC l)[j * 3 + 2]? = some l[j].vv
  | b :: l, 0, _ => ⟨rfl, rfl, rfl⟩
  | b :: l, j + 1, h => by
    obtain ⟨h1, h2, h3⟩ := bkC_get l j (by simpa using h)
    have e : ∀ k, (bkC (b :: l))[(j + 1) * 3 + k]? = (bkC l)[j * 3 + k]? := fun k => by
      rw [show (j + 1) * 3 + k = 3 + (j * 3 + k) from by omega]
      show (bkL b ++ bkC l)[3 + (j * 3 + k)]? = _
      rw [List.getElem?_append_right (by simp [bkL])]
      simp [bkL]
    exact ⟨(e 0).trans h1, (e 1).trans h2, (e 2).trans h3⟩
theorem bkC_set : ∀ (l : List Bk) j (h : j < l.length) (v : Value), (bkC l).set (j * 3) v = bkC (l.set j { l[j] with tv := v }) ∧ (bkC l).set (j * 3 + 2) v = bkC (l.set j { l[j] with vv := v })
  | b :: l, 0, _, v => ⟨rfl, rfl⟩
  | b :: l, j + 1, h, v => by
    obtain ⟨h1, h2⟩ := bkC_set l j (by simpa using h) v
    have e : ∀ k, (bkC (b :: l)).set ((j + 1) * 3 + k) v = bkL b ++ (bkC l).set (j * 3 + k) v := fun k => by
      rw [show (j + 1) * 3 + k = j * 3 + k + 3 from by omega]
      rfl
    refine ⟨(e 0).trans ?_, (e 2).trans ?_⟩
    · rw [Nat.add_zero, h1]; rfl
    · rw [h2]; rfl
theorem bkC_setb : ∀ (l : List Bk) j (h : j < l.length) (v : Bool), (bkC l).set (j * 3 + 1) (.bool v) = bkC (l.set j { l[j] with bad := v })
  | b :: l, 0, _, v => rfl
  | b :: l, j + 1, h, v => by
    have h1 := bkC_setb l j (by simpa using h) v
    rw [show (j + 1) * 3 + 1 = j * 3 + 1 + 3 from by omega]
    show bkL b ++ (bkC l).set (j * 3 + 1) (.bool v) = _
    rw [h1]; rfl

/-- v is a buffer of the text t. -/
def BufT (F : Nat → Prop) (w : World) (v : Value) (t : Tx) : Prop := ∃ b c, v = .slice (some ⟨b, 0, none⟩) t.length c ∧ TyAt w b 5 ∧ w.rangeAt b 0 (tC t) ∧ ¬ F b
theorem BufT.keepF {F : Nat → Prop} {w w' : World} {v : Value} {t : Tx} (h : BufT F w v t) (hk : ∀ b, TyAt w b 5 → ¬ F b → w'.heap[b]? = w.heap[b]?) : BufT F w' v t := by
  obtain ⟨b, c, e, ht, hr, hF⟩ := h
  exact ⟨b, c, e, ht.of_heap (hk b ht hF), fun j x hx => (World.cell?_of_block (w := w) (a := ⟨b, 0 + j, none⟩) (hk b ht hF)).trans (hr j x hx), hF⟩
theorem BufT.keep {F : Nat → Prop} {w w' : World} {v : Value} {t : Tx} (h : BufT F w v t) (hk : ∀ b, TyAt w b 5 → w'.heap[b]? = w.heap[b]?) : BufT F w' v t := h.keepF fun b hb _ => hk b hb
theorem BufT.below {F : Nat → Prop} {w w' : World} {v : Value} {t : Tx} (h : BufT F w v t) (hb : Below w.heap.size w w') : BufT F w' v t := h.keep fun b ht => hb.block b ht.lt

/-- The versions of block j. -/
def vsOf (d : Dsk) (j : Nat) : List Tx := (lookI d.vs (j : Int)).getD []

/-- w holds the document's disk d. -/
structure RfAt (F : Nat → Prop) (w : World) (n0 rb g c : Nat) (bs : List Bk) (d : Dsk) : Prop where
  box : Blk w rb [.slice (some ⟨g, 0, none⟩) bs.length c, .bool d.off, .int .i64 d.fuse]
  boxT : TyAt w rb 65
  row : w.ownsRow n0 67 3 (.slice (some ⟨g, 0, none⟩) bs.length c) bs.length (bkC bs)
  len : bs.length = d.ts.length
  bad : ∀ j (h : j < bs.length), bs[j].bad = (lookI d.bad (j : Int)).getD false
  txt : ∀ j (h : j < bs.length), bs[j].bad = false → BufT F w bs[j].tv (d.ts[j]?.getD [])
  ver : ∀ j (h : j < bs.length), ∃ hs : List Value, w.ownsRow n0 30 1 bs[j].vv (vsOf d j).length hs ∧ ∀ (k : Nat) (x : Tx), (vsOf d j)[k]? = some x → ∃ v, hs[k]? = some v ∧ BufT F w v x
  sep : ∀ (i j : Nat) (hi : i < bs.length) (hj : j < bs.length), i ≠ j → ∀ q, bs[i].vv.ownBlock = some q → bs[j].vv.ownBlock ≠ some q
  sl : ∀ x ∈ bs, ∃ A n c, x.tv = .slice A n c

section
variable {w w' : World} {n0 rb g c : Nat} {bs : List Bk} {d : Dsk}
theorem RfAt.gl {F : Nat → Prop} (h : RfAt F w n0 rb g c bs d) : n0 ≤ g ∧ TyAt w g 67 := ⟨ownsRow_base h.row rfl, ownsRow_ty h.row rfl⟩
theorem RfAt.own {F : Nat → Prop} (h : RfAt F w n0 rb g c bs d) {x : Bk} (hx : x ∈ bs) {q : Nat} (hq : x.vv.ownBlock = some q) : n0 ≤ q ∧ TyAt w q 30 := by
  obtain ⟨j, hj, rfl⟩ := List.getElem_of_mem hx
  obtain ⟨hs, hr, _⟩ := h.ver j hj
  exact ⟨ownsRow_base hr hq, ownsRow_ty hr hq⟩
theorem RfAt.lt {F : Nat → Prop} (h : RfAt F w n0 rb g c bs d) {b : Nat} (hb : b = rb ∨ b = g ∨ TyAt w b 5 ∨ ∃ x ∈ bs, x.vv.ownBlock = some b) : b < w.heap.size := by
  rcases hb with rfl | rfl | hb | ⟨x, hx, hq⟩
  · exact h.box.lt
  · exact h.gl.2.lt
  · exact hb.lt
  · exact (h.own hx hq).2.lt
theorem RfAt.keepF {F : Nat → Prop} (h : RfAt F w n0 rb g c bs d) (hk : ∀ b, b = rb ∨ b = g ∨ (TyAt w b 5 ∧ ¬ F b) ∨ (∃ x ∈ bs, x.vv.ownBlock = some b) → w'.heap[b]? = w.heap[b]?) : RfAt F w' n0 rb g c bs d :=
  ⟨h.box.of_heap (hk _ (.inl rfl)), h.boxT.of_heap (hk _ (.inl rfl)), ownsRow_keep h.row (fun q e => hk q (.inr (.inl (by simpa [Value.ownBlock] using e.symm)))), h.len, h.bad,
    fun j hj hb => (h.txt j hj hb).keepF fun b ht hF => hk b (.inr (.inr (.inl ⟨ht, hF⟩))),
    fun j hj => by
      obtain ⟨hs, hr, hx⟩ := h.ver j hj
      exact ⟨hs, ownsRow_keep hr (fun q e => hk q (.inr (.inr (.inr ⟨_, List.getElem_mem hj, e⟩)))), fun k x hk' => by
        obtain ⟨v, e, hb⟩ := hx k x hk'
        exact ⟨v, e, hb.keepF fun b ht hF => hk b (.inr (.inr (.inl ⟨ht, hF⟩)))⟩⟩, h.sep, h.sl⟩
theorem RfAt.keep {F : Nat → Prop} (h : RfAt F w n0 rb g c bs d) (hk : ∀ b, b = rb ∨ b = g ∨ TyAt w b 5 ∨ (∃ x ∈ bs, x.vv.ownBlock = some b) → w'.heap[b]? = w.heap[b]?) : RfAt F w' n0 rb g c bs d := h.keepF fun b hb => hk b (by
    rcases hb with h | h | h | h
    · exact .inl h
    · exact .inr (.inl h)
    · exact .inr (.inr (.inl h.1))
    · exact .inr (.inr (.inr h)))
theorem RfAt.below {F : Nat → Prop} (h : RfAt F w n0 rb g c bs d) (hb : Below w.heap.size w w') : RfAt F w' n0 rb g c bs d := h.keep fun b hh => hb.block b (h.lt hh)
theorem RfAt.cells {F : Nat → Prop} (h : RfAt F w n0 rb g c bs d) {j : Nat} (hj : j < bs.length) : w.cell? ⟨g, j * 3, none⟩ = some bs[j].tv ∧ w.cell? ⟨g, j * 3 + 1, none⟩ = some (.bool bs[j].bad) ∧ w.cell? ⟨g, j * 3 + 2, none⟩ = some bs[j].vv := by
  obtain ⟨A2, c2, e, htl⟩ := ownsRow_tells h.row
  cases e
  obtain ⟨g', e, _, _, hc⟩ := htl (by omega)
  cases e
  obtain ⟨h1, h2, h3⟩ := bkC_get bs j hj
  exact ⟨hc _ _ h1, hc _ _ h2, hc _ _ h3⟩
theorem RfAt.vlen {F : Nat → Prop} (h : RfAt F w n0 rb g c bs d) {j : Nat} (hj : j < bs.length) : ∃ A c', bs[j].vv = .slice A (vsOf d j).length c' := by
  obtain ⟨hs, hr, _⟩ := h.ver j hj
  obtain ⟨A, c', e, _⟩ := ownsRow_tells hr
  exact ⟨A, c', e⟩
/-- No text of it lies in a block to come; fewer blocks barred. -/
theorem RfAt.bar {F F' : Nat → Prop} (h : RfAt F w n0 rb g c bs d) (hF : ∀ b, F' b → F b ∨ w.heap.size ≤ b) : RfAt F' w n0 rb g c bs d := by
  have hb : ∀ {v : Value} {t : Tx}, BufT F w v t → BufT F' w v t := fun ⟨b, c, e, ht, hr, hn⟩ => ⟨b, c, e, ht, hr, fun h => by
    rcases hF b h with h | h
    · exact hn h
    · have := ht.lt; omega⟩
  exact ⟨h.box, h.boxT, h.row, h.len, h.bad, fun j hj hbd => hb (h.txt j hj hbd), fun j hj => by
    obtain ⟨hs, hr, hx⟩ := h.ver j hj
    exact ⟨hs, hr, fun k x hk => (hx k x hk).imp fun v hv => ⟨hv.1, hb hv.2⟩⟩, h.sep, h.sl⟩
/-- Its box alone turns. -/
theorem RfAt.turn {F : Nat → Prop} (h : RfAt F w n0 rb g c bs d) (hrb : rb < n0) (off : Bool) (fuse : Int) (hb : Blk w' rb [.slice (some ⟨g, 0, none⟩) bs.length c, .bool off, .int .i64 fuse]) (hg : w.grownBy w' (some rb)) (hT : TyAt w' rb 65) :
    RfAt F w' n0 rb g c bs { d with off := off, fuse := fuse } := by
  have hg0 := h.gl.1
  have hgt := h.gl.2
  have k5 : ∀ b, TyAt w b 5 → w'.heap[b]? = w.heap[b]? := fun b ht => hg.block b ht.lt (by intro e; simp only [Option.some.injEq] at e; exact ht.ne h.boxT (by decide) e)
  refine ⟨hb, hT, ownsRow_keep h.row (fun q e => hg.block q (by simp [Value.ownBlock] at e; have := hgt.lt; omega) (by intro e2; simp [Value.ownBlock] at e e2; omega)), h.len, h.bad, fun j hj hbd => (h.txt j hj hbd).keep k5, fun j hj => ?_, h.sep, h.sl⟩
  obtain ⟨hs, hr, hx⟩ := h.ver j hj
  exact ⟨hs, ownsRow_keep hr (fun q e => hg.block q (h.own (List.getElem_mem hj) e).2.lt (by intro e2; simp only [Option.some.injEq] at e2; have := (h.own (List.getElem_mem hj) e).1; omega)), fun k x hk' => by
    obtain ⟨v, e, hb⟩ := hx k x hk'
    exact ⟨v, e, hb.keep k5⟩⟩
end

/-- From w to w' nothing is written but the disk's box, its row, and its versions' rows. -/
structure FrB (w w' : World) (rb g : Nat) (bs bs' : List Bk) : Prop where
  os : w'.os = w.os
  tape : w'.tape = w.tape
  output : w'.output = w.output
  size : w.heap.size ≤ w'.heap.size
  block : ∀ b, b < w.heap.size → b ≠ rb → b ≠ g → (∀ x ∈ bs, x.vv.ownBlock ≠ some b) → w'.heap[b]? = w.heap[b]?
  sub : ∀ x ∈ bs', ∀ q, x.vv.ownBlock = some q → (∃ y ∈ bs, y.vv.ownBlock = some q) ∨ w.heap.size ≤ q
theorem FrB.of_below {w w' : World} (h : Below w.heap.size w w') (rb g : Nat) (bs : List Bk) : FrB w w' rb g bs bs := ⟨h.os, h.tape, h.output, h.size, fun b hb _ _ _ => h.block b hb, fun x hx q hq => .inl ⟨x, hx, hq⟩⟩
theorem FrB.of_box {w w' : World} {rb : Nat} (h : w.grownBy w' (some rb)) (g : Nat) (bs : List Bk) : FrB w w' rb g bs bs := ⟨h.os, h.tape, h.output, h.size, fun b hb h1 _ _ => h.block b hb (by simpa using h1), fun x hx q hq => .inl ⟨x, hx, hq⟩⟩
theorem FrB.trans {w w1 w2 : World} {rb g : Nat} {bs bs1 bs2 : List Bk} (a : FrB w w1 rb g bs bs1) (b : FrB w1 w2 rb g bs1 bs2) : FrB w w2 rb g bs bs2 :=
  ⟨b.os.trans a.os, b.tape.trans a.tape, b.output.trans a.output, Nat.le_trans a.size b.size, fun q hq h1 h2 h3 =>
    (b.block q (Nat.lt_of_lt_of_le hq a.size) h1 h2 (fun x hx e => by
      rcases a.sub x hx q e with ⟨y, hy, e2⟩ | hge
      · exact h3 y hy e2
      · omega)).trans (a.block q hq h1 h2 h3), fun x hx q e => by
    rcases b.sub x hx q e with ⟨y, hy, e2⟩ | hge
    · exact a.sub y hy q e2
    · exact .inr (Nat.le_trans a.size hge)⟩
end Go.Proofs.Yteaenhmiomoocaa
