/- Small laws on worlds and blocks, over any program: what a block holds (Blk), carried over new blocks, stores and draws. -/
import Derived.WalkKit
import Derived.WalkSpells
import Derived.WalkLawsBesides
import Derived.Deep.QuietTactic
import Derived.BigQuiet
import Derived.Deep.RegionHeld3
import Derived.Deep.DeepFit
import Derived.KernelRfl
import Derived.Lib.Hide
import Derived.Maps.AppendAt
import Derived.Deep.LoopGhost
import Derived.Laws.EntriesVeiled
import Derived.RangeFuncNested
import Derived.RangeFuncBound
import Derived.RangeFuncCalls
import Derived.RangeFuncLeaves
import Derived.RangeFuncOne
import Derived.Shelf.Abstract
import Derived.Shelf.RegionOpen
import Derived.OwnWalkIn
import Derived.TacticsInMore
import Derived.LoopNIn
import Derived.LoopIn
import Derived.Maps.OwnSet
import Derived.Maps.OwnIn
import Derived.Deep.DeepCutAuto
import Derived.Laws.Tables
import Derived.Deep.WholeRow
import Derived.Deep.MidRow
namespace Go.Proofs.Ytejjiiakficafaa
open Go.RowKit

theorem ret_bool {a b : Bool} (h : a = b) : Ending.returned (.bool a) = .returned (.bool b) := by rw [h]
theorem ret_int {k : IntKind} {a b : Int} (h : a = b) : Ending.returned (.int k a) = .returned (.int k b) := by rw [h]

theorem bcell {W w1 : World} (hb : Below W.heap.size W w1) : (∀ b o, b < W.heap.size → w1.cell? ⟨b, o, none⟩ = W.cell? ⟨b, o, none⟩) ∧ (∀ b o, b < W.heap.size → w1.frozen? ⟨b, o, none⟩ = W.frozen? ⟨b, o, none⟩) :=
  ⟨fun b o h => hb.cell (p := ⟨b, o, none⟩) h, fun b o h => hb.frozen (p := ⟨b, o, none⟩) h⟩

theorem keep_drew (w : World) : (∀ b o, b < w.heap.size → w.drew.cell? ⟨b, o, none⟩ = w.cell? ⟨b, o, none⟩) ∧ Below w.heap.size w w.drew := ⟨fun _ _ _ => rfl, (Below.refl _ _).drew⟩
theorem keep_step {w W w1 : World} (h : (∀ b o, b < w.heap.size → W.cell? ⟨b, o, none⟩ = w.cell? ⟨b, o, none⟩) ∧ Below w.heap.size w W) (hb : Below W.heap.size W w1) :
    (∀ b o, b < w.heap.size → w1.cell? ⟨b, o, none⟩ = w.cell? ⟨b, o, none⟩) ∧ Below w.heap.size w w1 :=
  ⟨(bcell (h.2.trans (hb.mono h.2.size))).1, h.2.trans (hb.mono h.2.size)⟩

theorem bl_alloc {a w : World} (h : Below a.heap.size a w) (o : Obj) : Below a.heap.size a (w.alloc o) := h.alloc h.size o
theorem bl_drew {a w : World} (h : Below a.heap.size a w) : Below a.heap.size a w.drew := h.drew
theorem bl_drewN {a w : World} (h : Below a.heap.size a w) (n : Nat) : Below a.heap.size a (w.drewN n) := ⟨h.os, h.tape, h.output, h.size, h.block⟩
theorem bl_set {a w : World} (h : Below a.heap.size a w) {p : Addr} (hp : a.heap.size ≤ p.block) (v : Value) : Below a.heap.size a (w.setCell p v) := h.setCell hp v
theorem bl_tr {a W w : World} (h : Below a.heap.size a W) (k : Below W.heap.size W w) : Below a.heap.size a w := h.trans (k.mono h.size)

theorem gr_drewN {a w : World} {row : Option Nat} (h : a.grownBy w row) (n : Nat) : a.grownBy (w.drewN n) row := ⟨h.os, h.tape, h.output, h.size, h.block⟩
theorem gr_drew {a w : World} {row : Option Nat} (h : a.grownBy w row) : a.grownBy w.drew row := ⟨h.os, h.tape, h.output, h.size, h.block⟩
theorem gr_alloc {a w : World} {row : Option Nat} (h : a.grownBy w row) (o : Obj) : a.grownBy (w.alloc o) row :=
  ⟨h.os, h.tape, h.output, Nat.le_trans h.size (by simp), fun i hi hne => (Below.heap_alloc w o i (Nat.lt_of_lt_of_le hi h.size)).trans (h.block i hi hne)⟩
theorem gr_set {a w : World} {g : Nat} (h : a.grownBy w (some g)) (j : Nat) (u : Value) : a.grownBy (w.setCell ⟨g, j, none⟩ u) (some g) :=
  ⟨h.os, h.tape, h.output, by simpa [World.setCell] using h.size, fun i hi hne => (Below.heap_setCell w ⟨g, j, none⟩ u i (by rintro rfl; exact hne rfl)).trans (h.block i hi hne)⟩
theorem gr_setNew {a w : World} {row : Option Nat} (h : a.grownBy w row) {p : Addr} (hp : a.heap.size ≤ p.block) (u : Value) : a.grownBy (w.setCell p u) row :=
  ⟨h.os, h.tape, h.output, by simpa [World.setCell] using h.size, fun i hi hne => (Below.heap_setCell w p u i (by omega)).trans (h.block i hi hne)⟩
theorem gr_below {a w : World} (h : Below a.heap.size a w) (row : Option Nat) : a.grownBy w row := ⟨h.os, h.tape, h.output, h.size, fun i hi _ => h.block i hi⟩
theorem gr_tr {a w w1 : World} {row : Option Nat} (h : a.grownBy w row) (k : Below w.heap.size w w1) : a.grownBy w1 row :=
  ⟨k.os.trans h.os, k.tape.trans h.tape, k.output.trans h.output, Nat.le_trans h.size k.size, fun i hi hne => (k.block i (Nat.lt_of_lt_of_le hi h.size)).trans (h.block i hi hne)⟩
theorem gr_trg {a w w1 : World} {row : Option Nat} (h : a.grownBy w row) (k : w.grownBy w1 row) : a.grownBy w1 row :=
  ⟨k.os.trans h.os, k.tape.trans h.tape, k.output.trans h.output, Nat.le_trans h.size k.size, fun i hi hne => (k.block i (Nat.lt_of_lt_of_le hi h.size) hne).trans (h.block i hi hne)⟩
/-- What was written lies among the new blocks: nothing that was there has turned. -/
theorem bl_gr {a w w1 : World} {g : Nat} (h : Below a.heap.size a w) (k : w.grownBy w1 (some g)) (hg : a.heap.size ≤ g) : Below a.heap.size a w1 :=
  h.grown k h.size (fun k e => by cases e; exact hg)

/-- Block b of w holds the cells vs, none frozen. -/
structure Blk (w : World) (b : Nat) (vs : List Value) : Prop where
  cell : ∀ j, w.cell? ⟨b, j, none⟩ = vs[j]?
  unf : ∀ j, w.frozen? ⟨b, j, none⟩ = false
  lt : b < w.heap.size

theorem Blk.drew {w : World} {b : Nat} {vs : List Value} (h : Blk w b vs) : Blk w.drew b vs := ⟨h.cell, h.unf, h.lt⟩
theorem Blk.drewN {w : World} {b : Nat} {vs : List Value} (h : Blk w b vs) (n : Nat) : Blk (w.drewN n) b vs := ⟨h.cell, h.unf, h.lt⟩
theorem Blk.of_heap {w w' : World} {b : Nat} {vs : List Value} (h : Blk w b vs) (hh : w'.heap[b]? = w.heap[b]?) : Blk w' b vs := by
  refine ⟨fun j => (World.cell?_of_block (w := w) (w' := w') (a := ⟨b, j, none⟩) hh).trans (h.cell j), fun j => (World.frozen?_of_block (w := w) (w' := w') (a := ⟨b, j, none⟩) hh).trans (h.unf j), ?_⟩
  have h1 := h.lt
  rw [Array.getElem?_eq_getElem h1] at hh
  exact (Array.getElem?_eq_some_iff.1 hh).1
theorem Blk.below {B : Nat} {w w' : World} {b : Nat} {vs : List Value} (h : Blk w b vs) (hb : Below B w w') (hB : b < B) : Blk w' b vs := h.of_heap (hb.block b hB)
theorem Blk.grown {w w' : World} {row : Option Nat} {b : Nat} {vs : List Value} (h : Blk w b vs) (hg : w.grownBy w' row) (hne : some b ≠ row) : Blk w' b vs := h.of_heap (hg.block b h.lt hne)
theorem Blk.alloc {w : World} {b : Nat} {vs : List Value} (h : Blk w b vs) (o : Obj) : Blk (w.alloc o) b vs := h.of_heap (Below.heap_alloc w o b h.lt)
theorem Blk.set_ne {w : World} {b : Nat} {vs : List Value} (h : Blk w b vs) {a : Addr} (hne : a.block ≠ b) (v : Value) : Blk (w.setCell a v) b vs := h.of_heap (Below.heap_setCell w a v b (Ne.symm hne))
theorem Blk.set_same {w : World} {b : Nat} {vs : List Value} (h : Blk w b vs) (j : Nat) (v : Value) : Blk (w.setCell ⟨b, j, none⟩ v) b (vs.set j v) := by
  refine ⟨fun i => ?_, fun i => by rw [World.frozen?_setCell]; exact h.unf i, by simpa [World.setCell] using h.lt⟩
  by_cases hij : j = i
  · subst hij
    by_cases hj : j < vs.length
    · rw [World.cell?_setCell_same w ⟨b, j, none⟩ v ((h.cell j).trans (List.getElem?_eq_getElem hj))]
      simp [hj]
    · have hn : w.cell? ⟨b, j, none⟩ = none := (h.cell j).trans (List.getElem?_eq_none (by omega))
      have h0 : (w.setCell ⟨b, j, none⟩ v).cell? ⟨b, j, none⟩ = none := by
        cases hx : (w.setCell ⟨b, j, none⟩ v).cell? ⟨b, j, none⟩ with
        | none => rfl
        | some u =>
          exfalso
          simp only [World.setCell, World.cell?, Array.getElem?_modify, if_true] at hx hn
          cases hh : w.heap[b]? with
          | none => simp [hh] at hx
          | some o =>
            cases o with
            | cells c t fr =>
              simp only [hh, Option.map_some] at hx hn
              have h1 : c.size ≤ j := by simpa using hn
              have h2 : (c.setIfInBounds j v)[j]? = none := by simp [h1]
              simp [h2] at hx
            | _ => simp [hh] at hx
      rw [h0]; simp [hj]
  · rw [World.cell?_setCell_other w ⟨b, j, none⟩ ⟨b, i, none⟩ v (fun e => hij (by injection e))]
    rw [h.cell i, List.getElem?_set_ne hij]
theorem Blk.new (w : World) (cs : Array Value) (t : TypeId) : Blk (w.alloc (.cells cs t)) w.heap.size cs.toList := by
  have hh : (w.alloc (.cells cs t)).heap[w.heap.size]? = some (.cells cs t) := by show (w.heap.push _)[_]? = _; simp
  exact ⟨fun j => by simp only [World.cell?]; rw [hh]; simp, fun j => by simp only [World.frozen?]; rw [hh]; simp, by simp⟩
theorem Blk.new' {w : World} {b : Nat} (cs : Array Value) (t : TypeId) (hb : b = w.heap.size) : Blk (w.alloc (.cells cs t)) b cs.toList := by rw [hb]; exact Blk.new w cs t
theorem blk_eq {w : World} {b : Nat} {vs us : List Value} (h : Blk w b vs) (e : vs = us) : Blk w b us := e ▸ h
theorem Blk.get {w : World} {b : Nat} {vs : List Value} (h : Blk w b vs) {j : Nat} {v : Value} (hv : vs[j]? = some v) : w.cell? ⟨b, j, none⟩ = some v := (h.cell j).trans hv

theorem Blk.there {w : World} {b : Nat} {vs : List Value} (h : Blk w b vs) : w.there b 0 vs.length := fun j hj => by
  rw [Nat.zero_add]
  exact ⟨by rw [h.cell j, List.getElem?_eq_getElem hj]; rfl, h.unf j⟩
theorem Blk.range {w : World} {b : Nat} {vs : List Value} (h : Blk w b vs) : w.rangeAt b 0 vs := fun j v hv => by rw [Nat.zero_add]; exact h.get hv
theorem gr_setCells {a : World} {b : Nat} : ∀ (vs : List Value) (o : Nat) (w : World), a.grownBy w (some b) → a.grownBy (w.setCells b o vs) (some b)
  | [], _, _, h => h
  | v :: r, o, w, h => gr_setCells r (o + 1) _ (gr_set h o v)
theorem setCells_size (b : Nat) : ∀ (vs : List Value) (o : Nat) (w : World), (w.setCells b o vs).heap.size = w.heap.size
  | [], _, _ => rfl
  | v :: r, o, w => by rw [World.setCells, setCells_size b r]; simp [World.setCell]
theorem Blk.setAll {w : World} {b : Nat} {vs us : List Value} (h : Blk w b vs) (hl : us.length = vs.length) : Blk (w.setCells b 0 us) b us := by
  refine ⟨fun j => ?_, fun j => by rw [World.frozen?_setCells]; exact h.unf j, by rw [setCells_size]; exact h.lt⟩
  by_cases hj : j < us.length
  · have := World.cell?_setCells_in b us 0 w (fun i hi => (h.there i (by omega)).1) j hj
    rw [Nat.zero_add] at this
    rw [this, List.getElem?_eq_getElem hj]
  · rw [World.cell?_setCells_out b us 0 w ⟨b, j, none⟩ (fun _ _ => Or.inr (by simp; omega)), h.cell j, List.getElem?_eq_none (by omega), List.getElem?_eq_none (by omega)]

/-- A whole aggregate into the head of a block. -/
theorem wpList_store_blk {P : Program} {ops : Array Oper} {rest : List Oper} {op : Oper} {a : Act} {w : World} {Q : Exit → Act → World → Prop} (hgd : op.guard = none) (ty : TypeId) (x y : Operand) (ho : op.op = .store ty x y)
    (b : Nat) (vs us : List Value) (hx : a.eval x = .pointer (some ⟨b, 0, none⟩)) (hy : a.eval y = .agg us.toArray) (hB : Blk w b vs) (hl : us.length = vs.length)
    (hi : (P.info? ty).map (·.size) = some us.length) (h1 : ∀ v ∈ us, v.oneCell' = true)
    (h : ∀ w', Blk w' b us → w.grownBy w' (some b) → w'.heap.size = w.heap.size → wpList P ops Q rest (a.put op.dst undef) w') : wpList P ops Q (op :: rest) a w :=
  wpList_store_mid hgd ty x y ho b 0 us.toArray hx hy (by rw [List.size_toArray, hl]; exact hB.there) (by rw [List.size_toArray]; exact hi) (all_oneCell_toArray h1)
    (h _ (by simpa using hB.setAll hl) (gr_setCells _ _ _ (World.grownBy.refl _ _)) (setCells_size _ _ _ _))
/-- A whole aggregate out of the head of a block. -/
theorem wpList_load_blk {P : Program} {ops : Array Oper} {rest : List Oper} {op : Oper} {a : Act} {w : World} {Q : Exit → Act → World → Prop} (hgd : op.guard = none) (ty : TypeId) (x : Operand) (ho : op.op = .load ty x)
    (b : Nat) (vs : List Value) (hx : a.eval x = .pointer (some ⟨b, 0, none⟩)) (hB : Blk w b vs) (d : TypeDesc) (hu : P.underlying ty = some d) (hd : d.isRow = true) (hi : (P.info? ty).map (·.size) = some vs.length)
    (h : wpList P ops Q rest (a.put op.dst (.agg vs.toArray)) w) : wpList P ops Q (op :: rest) a w :=
  wpList_load_mid hgd ty x ho b 0 hx vs d hB.range hu hd hi h
end Go.Proofs.Ytejjiiakficafaa
