/- A frame: what does not turn but on a set of blocks. Over any program. -/
import Derived.Test.YtbjjhnlifgbpmaaAt
namespace Go.Proofs.Ytbjjhnlifgbpmaa
open Go.RowKit Go.Shelf

/-- All but the blocks of S is as it was. -/
structure FrX (S : Nat → Prop) (w w' : World) : Prop where
  os : w'.os = w.os
  tape : w'.tape = w.tape
  output : w'.output = w.output
  size : w.heap.size ≤ w'.heap.size
  block : ∀ b, b < w.heap.size → ¬ S b → w'.heap[b]? = w.heap[b]?
theorem FrX.refl (S : Nat → Prop) (w : World) : FrX S w w := ⟨rfl, rfl, rfl, Nat.le_refl _, fun _ _ _ => rfl⟩
theorem FrX.of_below {S : Nat → Prop} {w w' : World} (h : Below w.heap.size w w') : FrX S w w' := ⟨h.os, h.tape, h.output, h.size, fun b hb _ => h.block b hb⟩
theorem FrX.of_grown {S : Nat → Prop} {w w' : World} {row : Option Nat} (h : w.grownBy w' row) (hS : ∀ g, row = some g → S g ∨ w.heap.size ≤ g) : FrX S w w' :=
  ⟨h.os, h.tape, h.output, h.size, fun b hb hn => h.block b hb (by intro e; rcases hS b e.symm with k | k; exact hn k; omega)⟩
theorem FrX.tr {S : Nat → Prop} {w w1 w2 : World} (h : FrX S w w1) (k : FrX S w1 w2) : FrX S w w2 :=
  ⟨k.os.trans h.os, k.tape.trans h.tape, k.output.trans h.output, Nat.le_trans h.size k.size, fun b hb hn => (k.block b (Nat.lt_of_lt_of_le hb h.size) hn).trans (h.block b hb hn)⟩
/-- The second one may turn what is new. -/
theorem FrX.tr' {S S' : Nat → Prop} {w w1 w2 : World} (h : FrX S w w1) (k : FrX S' w1 w2) (hS : ∀ b, S' b → S b ∨ w.heap.size ≤ b) : FrX S w w2 :=
  ⟨k.os.trans h.os, k.tape.trans h.tape, k.output.trans h.output, Nat.le_trans h.size k.size, fun b hb hn => (k.block b (Nat.lt_of_lt_of_le hb h.size) (by intro e; rcases hS b e with k | k; exact hn k; omega)).trans (h.block b hb hn)⟩
theorem FrX.mono {S S' : Nat → Prop} {w w' : World} (h : FrX S w w') (hS : ∀ b, S b → S' b) : FrX S' w w' := ⟨h.os, h.tape, h.output, h.size, fun b hb hn => h.block b hb fun k => hn (hS b k)⟩
theorem FrX.set {S : Nat → Prop} {w w1 : World} (h : FrX S w w1) (b j : Nat) (hb : S b ∨ w.heap.size ≤ b) (v : Value) : FrX S w (w1.setCell ⟨b, j, none⟩ v) :=
  h.tr' (S' := fun x => x = b) (FrX.of_grown (row := some b) (gr_set (World.grownBy.refl _ _) _ _) fun g e => .inl (by cases e; rfl)) fun x e => by subst e; exact hb
theorem FrX.alloc {S : Nat → Prop} {w w1 : World} (h : FrX S w w1) (o : Obj) : FrX S w (w1.alloc o) := h.tr (FrX.of_below (bl_alloc (Below.refl _ _) o))
theorem FrX.drew {S : Nat → Prop} {w w1 : World} (h : FrX S w w1) : FrX S w w1.drew := h.tr (FrX.of_below (bl_drew (Below.refl _ _)))
theorem FrX.blk {S : Nat → Prop} {w w' : World} (h : FrX S w w') {b : Nat} {vs : List Value} (hb : Blk w b vs) (hn : ¬ S b) : Blk w' b vs := hb.of_heap (h.block b hb.lt hn)
theorem FrX.own {S : Nat → Prop} {w w' : World} (h : FrX S w w') {base : Nat} {e : TypeId} {size : Nat} {v : Value} {n : Nat} {xs : List Value} (hr : w.ownsRow base e size v n xs) (hn : ∀ g, v.ownBlock = some g → ¬ S g) : w'.ownsRow base e size v n xs := by
  obtain ⟨h1, h2 | ⟨g, cap, cur, rfl, hg, hh, r⟩⟩ := hr
  · exact ⟨h1, .inl h2⟩
  · exact ⟨h1, .inr ⟨g, cap, cur, rfl, hg, (h.block g (Array.getElem?_eq_some_iff.1 hh).1 (hn g rfl)).trans hh, r⟩⟩
theorem FrX.below {S : Nat → Prop} {w0 w w' : World} (h : FrX S w w') {B : Nat} (hb : Below B w0 w) (hS : ∀ b, S b → B ≤ b) (hB : B ≤ w.heap.size) : Below B w0 w' :=
  ⟨h.os.trans hb.os, h.tape.trans hb.tape, h.output.trans hb.output, Nat.le_trans hb.size h.size, fun b hbB => (h.block b (by omega) (fun k => by have := hS b k; omega)).trans (hb.block b hbB)⟩
theorem FrX.lat {α : Type} {k : Nat} {enc : α → List Value} {S : Nat → Prop} {w w' : World} (h : FrX S w w') {A : Option Addr} {l : List α} (hl : LAt w A k enc l) (hn : ∀ b o, A = some ⟨b, o, none⟩ → l ≠ [] → ¬ S b) : LAt w' A k enc l := fun i hi => by
  obtain ⟨b, o, e, hlt, hc⟩ := hl i hi
  have hne : l ≠ [] := by rintro rfl; simp at hi
  refine ⟨b, o, e, Nat.lt_of_lt_of_le hlt h.size, fun j u hu => ?_⟩
  rw [World.cell?_of_block (w := w) (w' := w') (a := ⟨b, _, none⟩) (h.block b hlt (hn b o e hne))]
  exact hc j u hu
theorem bl_set'' {B : Nat} {a w : World} (h : Below B a w) {b : Nat} (hb : B ≤ b) {j : Nat} (v : Value) : Below B a (w.setCell ⟨b, j, none⟩ v) := h.setCell hb v
/-- Behind a step that kept blocks below n: nothing of S lies below n. -/
theorem Below.frX {S : Nat → Prop} {n : Nat} {w w' : World} (h : Below n w w') (hS : ∀ b, n ≤ b → b < w.heap.size → S b) : FrX S w w' :=
  ⟨h.os, h.tape, h.output, h.size, fun b hb hn => by
    by_cases k : b < n
    · exact h.block b k
    · exact absurd (hS b (by omega) hb) hn⟩
theorem ownsRow_len {w : World} {base : Nat} {e : TypeId} {size : Nat} {A : Option Addr} {n n' c : Nat} {xs : List Value} (h : w.ownsRow base e size (.slice A n' c) n xs) : n' = n := by
  rcases h.2 with ⟨e1, e2⟩ | ⟨g, cap, cur, e1, _⟩
  · simp only [Value.slice.injEq] at e1; omega
  · simp only [Value.slice.injEq] at e1; omega
end Go.Proofs.Ytbjjhnlifgbpmaa
