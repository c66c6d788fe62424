/- Rows that a law keeps beside a disk: bytes that were read, numbers. -/
import Derived.Test.YteaenhmiomoocaaOps
import Derived.Laws.BytesString
namespace Go.Proofs.Yteaenhmiomoocaa
open Go.RowKit Go.Shelf Go.Maps

theorem ownsRow_below {w w' : World} {base : Nat} {e : TypeId} {size : Nat} {v : Value} {n : Nat} {xs : List Value} (h : w.ownsRow base e size v n xs) (hb : Below w.heap.size w w') : w'.ownsRow base e size v n xs := by
  obtain ⟨h1, h2 | ⟨g, cap, cur, rfl, hg, hh, r⟩⟩ := h
  · exact ⟨h1, .inl h2⟩
  · exact ⟨h1, .inr ⟨g, cap, cur, rfl, hg, (hb.block g (Array.getElem?_eq_some_iff.1 hh).1).trans hh, r⟩⟩
/-- A row of another type is no such row. -/
theorem ownsRow_type {w w' : World} {base base2 : Nat} {e e2 : TypeId} {size size2 : Nat} {v v2 : Value} {n n2 : Nat} {xs xs2 : List Value} (h : w.ownsRow base e size v n xs) (h2 : w.ownsRow base2 e2 size2 v2 n2 xs2) (hne : e ≠ e2)
    (hg : w.grownBy w' v2.ownBlock) : w'.ownsRow base e size v n xs := by
  refine h.kept hg ?_
  obtain ⟨_, ⟨e1, _⟩ | ⟨g, cap, cur, e1, _, hh, _⟩⟩ := h
  · rw [e1]; exact .inl rfl
  · obtain ⟨_, ⟨e1', _⟩ | ⟨g', cap', cur', e1', _, hh', _⟩⟩ := h2
    · rw [e1, e1']; exact .inr (by simp [Value.ownBlock])
    · rw [e1, e1']; refine .inr ?_
      simp only [Value.ownBlock, ne_eq, Option.some.injEq]
      intro hgg
      rw [hgg, hh'] at hh
      simp only [Option.some.injEq, Obj.cells.injEq] at hh
      exact hne hh.2.1.symm


theorem info30 : (Try.prog.info? 30).map (fun i => (i.zero, i.size, i.bytes)) = some (some (.slice none 0 0), 1, 24) := by kernel_rfl
theorem info3 : (Try.prog.info? 3).map (fun i => (i.zero, i.size, i.bytes)) = some (some (.int .i64 0), 1, 8) := by kernel_rfl

theorem BufAt.slice {base : Nat} {w : World} {v : Value} {t : Tx} (h : BufAt base w v t) : ∃ A c, v = .slice A t.length c := by
  rcases h with ⟨rfl, rfl⟩ | ⟨_, g, c, rfl, _⟩
  · exact ⟨none, 0, rfl⟩
  · exact ⟨_, c, rfl⟩
theorem BufAt.le {base base' : Nat} {w : World} {v : Value} {t : Tx} (h : BufAt base w v t) (hb : base' ≤ base) : BufAt base' w v t := by
  rcases h with h | ⟨h1, g, c, e, hg, hB⟩
  · exact .inl h
  · exact .inr ⟨h1, g, c, e, by omega, hB⟩
/-- A text's block is no block of a row whose first cell is no byte. -/
theorem BufAt.row {base base2 : Nat} {w w' : World} {v v2 : Value} {t : Tx} {e2 : TypeId} {n : Nat} {xs : List Value} (h : BufAt base w v t) (hr : w.ownsRow base2 e2 1 v2 n xs) (hx : ∀ y ∈ xs, ∀ b : UInt8, y ≠ bV b) (hg : w.grownBy w' v2.ownBlock) (hn : v2.ownBlock ≠ none → xs ≠ []) : BufAt base w' v t := by
  rcases h with h | ⟨h1, g, c, e, hgb, hB⟩
  · exact .inl h
  · refine .inr ⟨h1, g, c, e, hgb, hB.grown hg ?_⟩
    intro he
    have hne := hn (by rw [← he]; simp)
    obtain ⟨A, c2, rfl, htl⟩ := ownsRow_tells hr
    have hn0 : n ≠ 0 := by
      rintro rfl
      have := hr.1
      rw [Nat.zero_mul] at this
      exact hne (List.length_eq_zero_iff.1 this)
    obtain ⟨g2, rfl, _, _, hc⟩ := htl hn0
    simp [Value.ownBlock] at he
    subst he
    obtain ⟨y, ys, rfl⟩ : ∃ y ys, xs = y :: ys := by
      cases xs with
      | nil => exact absurd rfl hne
      | cons y ys => exact ⟨y, ys, rfl⟩
    obtain ⟨b, bs, rfl⟩ : ∃ b bs, t = b :: bs := by
      cases t with
      | nil => exact absurd rfl h1
      | cons b bs => exact ⟨b, bs, rfl⟩
    have c0 := hc 0 y rfl
    have c1 : w.cell? ⟨g, 0, none⟩ = some (bV b) := hB.get rfl
    rw [c1] at c0
    cases c0
    exact hx (bV b) (List.mem_cons_self ..) b rfl
theorem ownsRow_nonnil {w : World} {base : Nat} {e : TypeId} {n : Nat} {A : Option Addr} {c : Nat} {xs : List Value} (hr : w.ownsRow base e 1 (.slice A n c) n xs) (h0 : A = none ∨ xs ≠ []) : (Value.slice A n c).ownBlock ≠ none → xs ≠ [] := by
  intro hn
  rcases h0 with rfl | h
  · exact absurd rfl hn
  · exact h
/-- What was read, as a string. -/
theorem conv_buf {base : Nat} {w : World} {v : Value} {t : Tx} (h : BufAt base w v t) : (convert 30 9 v).run Try.prog w = .ok (.string ⟨t.toArray⟩) w := by
  rcases h with ⟨rfl, rfl⟩ | ⟨_, g, c, rfl, _, hB⟩
  · rw [run_convert_bytes_string w 30 9 5 none 0 0 Try.underlying30 Try.underlying5 Try.underlying9]
    simp [Conv.bytesToString]
    rfl
  · exact run_convert_bytes_back (P := Try.prog) w 30 9 5 ⟨g, 0, none⟩ c t Try.underlying30 Try.underlying5 Try.underlying9 (fun j hj => by
      rw [Addr.add_mid, Nat.zero_add]
      exact hB.get (by simp [tC, bV, hj]))

/-- From address A on w holds the numbers l. -/
def NumsAt (w : World) (A : Option Addr) (l : List Int) : Prop := ∀ i (hi : i < l.length), ∃ b o, A = some ⟨b, o, none⟩ ∧ b < w.heap.size ∧ w.cell? ⟨b, o + i, none⟩ = some (.int .i64 l[i]) ∧ okI l[i]
theorem NumsAt.ints {w w' : World} {A : Option Addr} {l : List Int} (h : NumsAt w A l) (hb : Below w.heap.size w w') {hh nb : Nat} {us : List (Int × Value)} {d : Dsk} (D : DkAt w' hh nb us d) (hle : w.heap.size ≤ hh) : IntsAt w' A l hh us := fun i hi => by
  obtain ⟨b, o, hA, hlt, hc, hk⟩ := h i hi
  exact ⟨b, o, hA, Nat.lt_of_lt_of_le hlt hb.size, .inl (by omega), fun j v hv e => by have := (D.base hv e).1; omega, (hb.cell (p := ⟨b, o + i, none⟩) hlt).trans hc, hk⟩
theorem crashD_twice (d : Dsk) (cs more : List Int) : crashD (crashD d cs) more = crashD d cs := rfl
theorem FrD.nil_row {w w' : World} {h : Nat} {us' : List (Int × Value)} (F : FrD w w' h [] us') {g : Nat} (hg : g < w.heap.size) (hh : g < h ∨ h + 3 < g) : w'.heap[g]? = w.heap[g]? := F.block g hg hh (fun i v hv => by simp [lookI] at hv)
theorem FrD.row {w w' : World} {h : Nat} {us' : List (Int × Value)} (F : FrD w w' h [] us') {base : Nat} {e : TypeId} {size : Nat} {v : Value} {n : Nat} {xs : List Value} (hr : w.ownsRow base e size v n xs) (hb : h + 4 ≤ base) : w'.ownsRow base e size v n xs :=
  ownsRow_keep hr fun g hg => F.nil_row (ownsRow_lt hr hg) (.inr (by have := ownsRow_base hr hg; omega))
theorem FrD.buf {w w' : World} {h : Nat} {us' : List (Int × Value)} (F : FrD w w' h [] us') {base : Nat} {v : Value} {t : Tx} (hB : BufAt base w v t) (hb : h + 4 ≤ base) : BufAt base w' v t := by
  rcases hB with h | ⟨h1, g, c, e, hg, hB⟩
  · exact .inl h
  · exact .inr ⟨h1, g, c, e, hg, hB.of_heap (F.nil_row hB.lt (.inr (by omega)))⟩
theorem DkAt.row {w w' : World} {h nb : Nat} {d : Dsk} (D : DkAt w h nb [] d) {base : Nat} {e : TypeId} {size : Nat} {v : Value} {n : Nat} {xs : List Value} (hr : w.ownsRow base e size v n xs) (hb : h + 4 ≤ base) (hg : w.grownBy w' v.ownBlock) : DkAt w' h nb [] d :=
  D.keep fun b hh => hg.block b (by
    rcases hh with hh | ⟨i, v, h1, _⟩
    · have := D.lt; omega
    · simp [lookI] at h1) (by
    rcases hh with hh | ⟨i, v, h1, _⟩
    · intro e; have := ownsRow_base hr e.symm; omega
    · simp [lookI] at h1)
end Go.Proofs.Yteaenhmiomoocaa
