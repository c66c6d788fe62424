/- The document's table in memory: its box, its row of entries, and their batches in rows of their own. -/
import Derived.Test.YtjpmdjjihdicdaaRefP
namespace Go.Proofs.Ytjpmdjjihdicdaa
open Go.RowKit Go.Shelf

/-- Block b is a row of elements of type T. -/
def TyAt (w : World) (b : Nat) (T : TypeId) : Prop := ∃ cs fz, w.heap[b]? = some (.cells cs T fz)
theorem TyAt.of_heap {w w' : World} {b : Nat} {T : TypeId} (h : TyAt w b T) (hh : w'.heap[b]? = w.heap[b]?) : TyAt w' b T := by
  obtain ⟨cs, fz, e⟩ := h
  exact ⟨cs, fz, hh.trans e⟩
theorem TyAt.lt {w : World} {b : Nat} {T : TypeId} (h : TyAt w b T) : b < w.heap.size := by
  obtain ⟨cs, fz, e⟩ := h
  exact (Array.getElem?_eq_some_iff.1 e).1
theorem TyAt.ne {w : World} {b b' : Nat} {T T' : TypeId} (h : TyAt w b T) (h' : TyAt w b' T') (hne : T ≠ T') : b ≠ b' := by
  rintro rfl
  obtain ⟨cs, fz, e⟩ := h
  obtain ⟨cs', fz', e'⟩ := h'
  rw [e] at e'
  simp only [Option.some.injEq, Obj.cells.injEq] at e'
  exact hne e'.2.1
theorem TyAt.setCell {w : World} {b : Nat} {T : TypeId} (h : TyAt w b T) (a : Addr) (v : Value) : TyAt (w.setCell a v) b T := by
  obtain ⟨cs, fz, e⟩ := h
  by_cases hb : a.block = b
  · subst hb
    refine ⟨if a.spot.isSome then cs else cs.setIfInBounds a.off v, fz, ?_⟩
    simp [World.setCell, Array.getElem?_modify, e]
  · exact ⟨cs, fz, by rw [Below.heap_setCell _ _ _ _ (Ne.symm hb)]; exact e⟩
theorem ownsRow_ty {w : World} {base : Nat} {e : TypeId} {size : Nat} {v : Value} {n : Nat} {xs : List Value} (h : w.ownsRow base e size v n xs) {g : Nat} (hg : v.ownBlock = some g) : TyAt w g e := by
  obtain ⟨_, ⟨rfl, _⟩ | ⟨g', cap, cur, rfl, hb, hh, _⟩⟩ := h
  · cases hg
  · simp [Value.ownBlock] at hg
    subst hg
    exact ⟨_, _, hh⟩
theorem ownsRow_keep {w w' : World} {base : Nat} {e : TypeId} {size : Nat} {v : Value} {n : Nat} {xs : List Value} (h : w.ownsRow base e size v n xs) (hk : ∀ g, v.ownBlock = some g → w'.heap[g]? = w.heap[g]?) : w'.ownsRow base e size v n xs := by
  obtain ⟨h1, h2 | ⟨g, cap, cur, rfl, hg, hh, r⟩⟩ := h
  · exact ⟨h1, .inl h2⟩
  · exact ⟨h1, .inr ⟨g, cap, cur, rfl, hg, (hk g rfl).trans hh, r⟩⟩
/-- A cell of a row, set. -/
theorem ownsRow_set {w : World} {base : Nat} {e : TypeId} {size g n cap : Nat} {xs : List Value} (h : w.ownsRow base e size (.slice (some ⟨g, 0, none⟩) n cap) n xs) (j : Nat) (v : Value) :
    (w.setCell ⟨g, j, none⟩ v).ownsRow base e size (.slice (some ⟨g, 0, none⟩) n cap) n (xs.set j v) := by
  obtain ⟨h1, ⟨h2, _⟩ | ⟨g', cap', cur, h2, hg, hh, hn, hc, hs, ht⟩⟩ := h
  · cases h2
  · cases h2
    refine ⟨by simpa using h1, .inr ⟨g, cap, cur.setIfInBounds j v, rfl, hg, by simp [World.setCell, Array.getElem?_modify, hh], hn, hc, by simpa using hs, ?_⟩⟩
    rw [Array.toList_setIfInBounds, List.take_set, ht]

/-- From A on w holds the batches ds, in a row of theirs. -/
def DnsT (w : World) (A : Option Addr) (ds : List Dn) : Prop :=
  ∀ i (h : i < ds.length), ∃ b o, A = some ⟨b, o, none⟩ ∧ TyAt w b 93 ∧ w.cell? ⟨b, o + i * 3, none⟩ = some (.int .i64 ds[i].seq) ∧ w.cell? ⟨b, o + i * 3 + 1, none⟩ = some (.int .i64 ds[i].len) ∧ w.cell? ⟨b, o + i * 3 + 2, none⟩ = some (.int .i64 ds[i].off)
theorem DnsT.at' {w : World} {A : Option Addr} {ds : List Dn} (h : DnsT w A ds) : DnsAt w A ds := fun i hi => by
  obtain ⟨b, o, hA, ht, c⟩ := h i hi
  exact ⟨b, o, hA, ht.lt, c⟩
theorem DnsT.keep {w w' : World} {A : Option Addr} {ds : List Dn} (h : DnsT w A ds) (hk : ∀ b, TyAt w b 93 → w'.heap[b]? = w.heap[b]?) : DnsT w' A ds := fun i hi => by
  obtain ⟨b, o, hA, ht, c1, c2, c3⟩ := h i hi
  have e : ∀ j, w'.cell? ⟨b, j, none⟩ = w.cell? ⟨b, j, none⟩ := fun j => World.cell?_of_block (w := w) (a := ⟨b, j, none⟩) (hk b ht)
  exact ⟨b, o, hA, ht.of_heap (hk b ht), by rw [e]; exact c1, by rw [e]; exact c2, by rw [e]; exact c3⟩

/-- w holds the document's table r: its box, and its row if it has one. -/
structure RefAt (w : World) (n0 rb : Nat) (gL : Option Nat) (r : List Ent) (A : Option Addr) (c : Nat) (vs : List Value) : Prop where
  tab : Blk w rb [.slice A r.length c]
  tabT : TyAt w rb 44
  row : w.ownsRow n0 92 4 (.slice A r.length c) r.length (entCells r vs)
  own : (Value.slice A r.length c).ownBlock = gL
  vsl : vs.length = r.length
  dns : ∀ i (h : i < r.length) u, vs[i]? = some u → ∃ A' c', u = .slice A' r[i].last.length c' ∧ DnsT w A' r[i].last

theorem RefAt.keep {w w' : World} {n0 rb : Nat} {gL : Option Nat} {r : List Ent} {A : Option Addr} {c : Nat} {vs : List Value} (h : RefAt w n0 rb gL r A c vs)
    (hk : ∀ b, b = rb ∨ some b = gL ∨ TyAt w b 93 → w'.heap[b]? = w.heap[b]?) : RefAt w' n0 rb gL r A c vs :=
  ⟨h.tab.of_heap (hk rb (.inl rfl)), h.tabT.of_heap (hk rb (.inl rfl)), ownsRow_keep h.row (fun g hg => hk g (.inr (.inl (by rw [← h.own, hg])))), h.own, h.vsl,
    fun i hi u hu => by obtain ⟨A', c', e, hd⟩ := h.dns i hi u hu; exact ⟨A', c', e, hd.keep fun b hb => hk b (.inr (.inr hb))⟩⟩
theorem RefAt.lt {w : World} {n0 rb : Nat} {gL : Option Nat} {r : List Ent} {A : Option Addr} {c : Nat} {vs : List Value} (h : RefAt w n0 rb gL r A c vs)
    {b : Nat} (hb : b = rb ∨ some b = gL ∨ TyAt w b 93) : b < w.heap.size := by
  rcases hb with rfl | hb | hb
  · exact h.tab.lt
  · rw [← h.own] at hb
    exact ownsRow_lt h.row hb.symm
  · exact hb.lt
theorem RefAt.below {w w' : World} {n0 rb : Nat} {gL : Option Nat} {r : List Ent} {A : Option Addr} {c : Nat} {vs : List Value} (h : RefAt w n0 rb gL r A c vs) (hb : Below w.heap.size w w') : RefAt w' n0 rb gL r A c vs :=
  h.keep fun b hh => hb.block b (h.lt hh)
theorem RefAt.base {w : World} {n0 rb : Nat} {gL : Option Nat} {r : List Ent} {A : Option Addr} {c : Nat} {vs : List Value} (h : RefAt w n0 rb gL r A c vs) {g : Nat} (hg : gL = some g) : n0 ≤ g := by
  rw [← h.own] at hg
  exact ownsRow_base h.row hg

theorem entCells_get : ∀ (l : List Ent) (vs : List Value), l.length = vs.length → ∀ K (h : K < l.length) u, vs[K]? = some u → ∀ j x, (entL l[K] u)[j]? = some x → (entCells l vs)[K * 4 + j]? = some x
  | a :: l, b :: vs, hl, 0, h, u, hu, j, x, hx => by
    simp at hu; subst hu
    have hj : j < 4 := by have := (List.getElem?_eq_some_iff.1 hx).1; simpa [entL] using this
    simp only [entCells, Nat.zero_mul, Nat.zero_add]
    rw [List.getElem?_append_left (by simp [entL]; omega)]
    exact hx
  | a :: l, b :: vs, hl, K + 1, h, u, hu, j, x, hx => by
    have := entCells_get l vs (by simpa using hl) K (by simpa using h) u (by simpa using hu) j x hx
    simp only [entCells]
    rw [List.getElem?_append_right (by simp [entL]; omega), ← this]
    congr 1
    simp [entL]; omega

theorem RefAt.ents {w : World} {n0 rb : Nat} {gL : Option Nat} {r : List Ent} {A : Option Addr} {c : Nat} {vs : List Value} (h : RefAt w n0 rb gL r A c vs) : EntsAt w A r := fun i hi => by
  obtain ⟨A2, c2, e2, htl⟩ := ownsRow_tells h.row
  cases e2
  obtain ⟨g, rfl, hg, hlt, hc⟩ := htl (by omega)
  obtain ⟨u, hu⟩ : ∃ u, vs[i]? = some u := ⟨vs[i]'(by rw [h.vsl]; exact hi), by simp [h.vsl, hi]⟩
  obtain ⟨A', c', rfl, hd⟩ := h.dns i hi u hu
  have hcK : ∀ j x, (entL r[i] (.slice A' r[i].last.length c'))[j]? = some x → w.cell? ⟨g, i * 4 + j, none⟩ = some x := fun j x hx => hc _ _ (entCells_get r vs h.vsl.symm i hi _ hu j x hx)
  refine ⟨g, 0, A', c', rfl, hlt, ?_, ?_, ?_, ?_, hd.at'⟩
  · rw [Nat.zero_add]; exact hcK 0 _ rfl
  · rw [Nat.zero_add]; exact hcK 1 _ rfl
  · rw [Nat.zero_add]; exact hcK 2 _ rfl
  · rw [Nat.zero_add]; exact hcK 3 _ rfl

/-- From w to w' nothing is written but the table's box and its row. -/
structure FrR (w w' : World) (rb : Nat) (gL : Option Nat) : Prop where
  os : w'.os = w.os
  tape : w'.tape = w.tape
  output : w'.output = w.output
  size : w.heap.size ≤ w'.heap.size
  block : ∀ b, b < w.heap.size → b ≠ rb → some b ≠ gL → w'.heap[b]? = w.heap[b]?
end Go.Proofs.Ytjpmdjjihdicdaa
