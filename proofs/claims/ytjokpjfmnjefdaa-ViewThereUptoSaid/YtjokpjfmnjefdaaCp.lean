/- A row of pairs that is known whole: written, copied within, grown by zeros; rows of the call's own told by it. -/
import Derived.Test.YtjokpjfmnjefdaaRg
import Derived.Laws.CopyOwn
import Derived.Lib.AppendZerosOnto
import Derived.Lib.Overlaps
namespace Go.Proofs.Ytjokpjfmnjefdaa
open Go.RowKit Go.Shelf
attribute [local go_sem] Oper.semAt_some

def Cel (w : World) (g : Nat) (cur : List Value) : Prop := w.heap[g]? = some (.cells cur.toArray 56 (0, 0))
theorem Cel.lt {w : World} {g : Nat} {cur : List Value} (h : Cel w g cur) : g < w.heap.size := (Array.getElem?_eq_some_iff.1 h).1
theorem Cel.cell {w : World} {g : Nat} {cur : List Value} (h : Cel w g cur) (j : Nat) : w.cell? ⟨g, j, none⟩ = cur[j]? := by
  unfold World.cell?
  rw [show w.heap[g]? = _ from h]
  simp
theorem Cel.unf {w : World} {g : Nat} {cur : List Value} (h : Cel w g cur) (j : Nat) : w.frozen? ⟨g, j, none⟩ = false := by
  unfold World.frozen?
  rw [show w.heap[g]? = _ from h]
  simp
theorem Cel.there {w : World} {g : Nat} {cur : List Value} (h : Cel w g cur) {o n : Nat} (hn : o + n ≤ cur.length) : w.there g o n := fun j hj => by
  refine ⟨?_, h.unf _⟩
  rw [h.cell, List.getElem?_eq_getElem (by omega)]; rfl
theorem Cel.kept {w w' : World} {g : Nat} {cur : List Value} (h : Cel w g cur) (hh : w'.heap[g]? = w.heap[g]?) : Cel w' g cur := hh.trans h
theorem Cel.setCell {w : World} {g : Nat} {cur : List Value} (h : Cel w g cur) (j : Nat) (v : Value) : Cel (w.setCell ⟨g, j, none⟩ v) g (cur.set j v) := by
  unfold Cel World.setCell at *
  simp only [Array.getElem?_modify, if_true, h, Option.map_some]
  simp
theorem splice_cons {α : Type} (L : List α) (off : Nat) (x : α) (xs : List α) (h : off < L.length) : splice (L.set off x) (off + 1) xs = splice L off (x :: xs) := by
  unfold splice
  have h1 : off < (L.set off x).length := by simpa using h
  rw [List.take_succ_eq_append_getElem h1, List.getElem_set_self, List.take_set_of_le (Nat.le_refl _), List.drop_set_of_lt (by omega)]
  simp [Nat.add_comm, Nat.add_left_comm]
theorem Cel.setCells {g : Nat} : ∀ (xs : List Value) (off : Nat) (w : World) (cur : List Value), Cel w g cur → off + xs.length ≤ cur.length → Cel (w.setCells g off xs) g (splice cur off xs)
  | [], off, w, cur, h, _ => by
    have : splice cur off [] = cur := by simp [splice]
    rw [this]; exact h
  | x :: xs, off, w, cur, h, hl => by
    rw [List.length_cons] at hl
    rw [← splice_cons _ _ _ _ (by omega)]
    exact Cel.setCells xs (off + 1) _ _ (h.setCell off x) (by rw [List.length_set]; omega)

/-- A row of the call's own, its block laid open. -/
theorem own_open {w : World} {base : Nat} {A : Option Addr} {n c : Nat} {xs : List Value} (h : w.ownsRow base 56 3 (.slice A n c) n xs) : (A = none ∧ n = 0 ∧ c = 0 ∧ xs = []) ∨ ∃ g cur, A = some ⟨g, 0, none⟩ ∧ base ≤ g ∧ Cel w g cur ∧ n ≤ c ∧ c ≤ maxLen ∧ cur.length = c * 3 ∧ cur.take (n * 3) = xs := by
  obtain ⟨h0, ⟨e, hn⟩ | ⟨g, cap, cur, e, hb, hh, h1, h2, h3, h4⟩⟩ := h
  · cases e
    exact .inl ⟨rfl, rfl, rfl, List.eq_nil_of_length_eq_zero (by simpa using h0)⟩
  · cases e
    exact .inr ⟨g, cur.toList, rfl, hb, by simpa [Cel] using hh, h1, h2, by simpa using h3, h4⟩
theorem own_shut {w : World} {base g n c : Nat} {cur xs : List Value} (hb : base ≤ g) (h : Cel w g cur) (h1 : n ≤ c) (h2 : c ≤ maxLen) (h3 : cur.length = c * 3) (h4 : cur.take (n * 3) = xs) : w.ownsRow base 56 3 (.slice (some ⟨g, 0, none⟩) n c) n xs :=
  ⟨by rw [← h4, List.length_take]; omega, .inr ⟨g, c, cur.toArray, rfl, hb, h, h1, h2, by simpa using h3, by simpa using h4⟩⟩

theorem run_copyX (w : World) (ty : TypeId) (dp sp : Option Addr) (dl dc sl sc g od n : Nat) (X : List Value) (hn : n = Nat.min sl dl) (hX : X.length = n * 3)
    (hdp : 0 < n → dp = some ⟨g, od, none⟩ ∧ ∃ ad, sp = some ad ∧ ∀ j v, X[j]? = some v → w.cell? (ad.add j) = some v) (ht : w.there g od (n * 3)) (h1 : ∀ v ∈ X, v.oneCell' = true) :
    (Builtin.copy_ #[26, 26] ty #[.slice dp dl dc, .slice sp sl sc]).run Try.prog w = .ok (goInt n) (w.setCells g od X) := by
  have hsz : (sizeOf 56).run Try.prog w = .ok 3 w := by kernel_rfl
  by_cases h0 : n = 0
  · subst h0
    obtain rfl : X = [] := List.eq_nil_of_length_eq_zero (by simpa using hX)
    have e : (Builtin.firstCells 3 0 (.slice sp sl sc)).run Try.prog w = .ok #[] w := by
      cases sp with
      | none => simp [Builtin.firstCells]
      | some ad => exact run_firstCells_some w 3 0 ad sl sc [] rfl (fun j v hj => by simp at hj)
    cases dp <;> simp [Builtin.copy_, run_underlying Try.underlying26, Builtin.lenOf, ← hn, hsz, e, storeCells, World.setCells]
  · obtain ⟨rfl, ad, rfl, hc⟩ := hdp (by omega)
    have e : (Builtin.firstCells 3 n (.slice (some ad) sl sc)).run Try.prog w = .ok X.toArray w := run_firstCells_some w 3 n ad sl sc X hX hc
    have e2 := run_storeCells_cells (P := Try.prog) g od X 0 w (fun j hj => by simpa using (ht j (by omega)).1) (fun j hj => by simpa using (ht j (by omega)).2) h1
    simp only [Nat.add_zero] at e2
    simp [Builtin.copy_, run_underlying Try.underlying26, Builtin.lenOf, ← hn, hsz, e, e2]

theorem wp_copyX {o : Oper} {a : Act} {w : World} {K : Act → World → Prop} {Q : Exit → Act → World → Prop} (d s : Operand) (ho : o.op = .call { callee := .builtin .copy, args := #[d, s], argTypes := #[26, 26] }) (t : Nat) (hd : o.dst = some t)
    (dp sp : Option Addr) (dl dc sl sc : Nat) (hv : a.eval d = .slice dp dl dc) (hu : a.eval s = .slice sp sl sc) (g od n : Nat) (cur X : List Value) (hn : n = Nat.min sl dl) (hX : X.length = n * 3)
    (hdp : 0 < n → dp = some ⟨g, od, none⟩ ∧ ∃ ad, sp = some ad ∧ ∀ j v, X[j]? = some v → w.cell? (ad.add j) = some v) (hC : Cel w g cur) (hfit : od + n * 3 ≤ cur.length) (h1 : ∀ v ∈ X, v.oneCell' = true)
    (h : ∀ w', Cel w' g (splice cur od X) → w.grownBy w' (some g) → K { a with tmps := a.tmps.setIfInBounds t (goInt n) } w') : o.wp Try.prog a w K Q := by
  have hr := run_copyX w o.type dp sp dl dc sl sc g od n X hn hX hdp (hC.there hfit) h1
  unfold Oper.wp execOp
  simp only [ho, resolve, invoke, builtin, Sem.run_bind, Sem.run_pure, Result.andThen_ok, List.map_toArray, List.map_cons, List.map_nil, hv, hu, hr, Oper.upon_value, hd]
  exact h _ (hC.setCells X od w cur (by omega)) (gr_setCells X od w (World.grownBy.refl _ _))

theorem wpList_copyX {ops : Array Oper} {rest : List Oper} {o : Oper} {a : Act} {w : World} {Q : Exit → Act → World → Prop} (hgd : o.guard = none) (d s : Operand) (ho : o.op = .call { callee := .builtin .copy, args := #[d, s], argTypes := #[26, 26] }) (t : Nat) (hd : o.dst = some t)
    (dp sp : Option Addr) (dl dc sl sc : Nat) (hv : a.eval d = .slice dp dl dc) (hu : a.eval s = .slice sp sl sc) (g od n : Nat) (cur X : List Value) (hn : n = Nat.min sl dl) (hX : X.length = n * 3)
    (hdp : 0 < n → dp = some ⟨g, od, none⟩ ∧ ∃ ad, sp = some ad ∧ ∀ j v, X[j]? = some v → w.cell? (ad.add j) = some v) (hC : Cel w g cur) (hfit : od + n * 3 ≤ cur.length) (h1 : ∀ v ∈ X, v.oneCell' = true)
    (h : ∀ w', Cel w' g (splice cur od X) → w.grownBy w' (some g) → wpList Try.prog ops Q rest { a with tmps := a.tmps.setIfInBounds t (goInt n) } w') : wpList Try.prog ops Q (o :: rest) a w :=
  wpList_plain hgd fun _ hK => wp_copyX d s ho t hd dp sp dl dc sl sc hv hu g od n cur X hn hX hdp hC hfit h1 (fun w' h1 h2 => hK _ _ (h w' h1 h2))

theorem wpList_appendZ {ops : Array Oper} {rest : List Oper} {o : Oper} {a : Act} {w : World} {Q : Exit → Act → World → Prop} (hgd : o.guard = none) (s x : Operand) (ho : o.op = .call { callee := .builtin .append, args := #[s, x], argTypes := #[26, 3] }) (t : Nat) (hd : o.dst = some t)
    (g i c k : Nat) (cur : List Value) (hv : a.eval s = .slice (some ⟨g, 0, none⟩) i c) (hu : a.eval x = .int .i64 k) (hC : Cel w g cur) (hi : i * 3 ≤ cur.length) (h0 : 0 < k) (hg : c < i + k) (hbig : (i + k) * 40 ≤ 140737488355328)
    (h : ∀ g' cap cur' w', Cel w' g' cur' → w.heap.size ≤ g' → i + k ≤ cap → cap ≤ maxLen → cur'.length = cap * 3 → cur'.take (i * 3) = cur.take (i * 3) → Below w.heap.size w w' → wpList Try.prog ops Q rest { a with tmps := a.tmps.setIfInBounds t (.slice (some ⟨g', 0, none⟩) (i + k) cap) } w') :
    wpList Try.prog ops Q (o :: rest) a w := by
  obtain ⟨i0, hi0, hz0, hz1, hz2⟩ := info_parts info56
  have hold : (Builtin.firstCells i0.size i (.slice (some ⟨g, 0, none⟩) i c)).run Try.prog w.drew = .ok (cur.take (i * 3)).toArray w.drew := by
    rw [hz1]
    refine run_firstCells_some w.drew 3 i ⟨g, 0, none⟩ i c (cur.take (i * 3)) (by rw [List.length_take]; omega) fun j v hj => ?_
    rw [Addr.add_mid, Nat.zero_add]
    rw [List.getElem?_take] at hj
    split at hj
    · exact (hC.cell j).trans hj
    · cases hj
  have hr := Lib.run_append_grow_zeros w 26 3 o.type 56 i0 _ .i64 .i64 Try.underlying26 Try.underlying3 hi0 hz0 (some ⟨g, 0, none⟩) i c _ hold k h0 (by omega) hg (by omega) (by rw [hz2]; omega) (by rw [hz2]; exact growslice_fits hg hbig)
  refine Lib.wpList_append_run w hgd s x 26 3 ho _ _ hv hu _ _ hr ?_
  rw [hd]
  have hge := grownCap_ge w (i + k) c 56
  have hle := grownCap_le_maxLen w (i + k) c 56 (by unfold maxLen; omega)
  refine h w.heap.size _ ((cur.take (i * 3)) ++ (Builtin.zeroCells (Value.agg #[.string ⟨#[]⟩, .string ⟨#[]⟩, .int .i64 0]).cells k).toList ++ (Builtin.zeroCells (Value.agg #[.string ⟨#[]⟩, .string ⟨#[]⟩, .int .i64 0]).cells (grownCap w (i + k) c 56 - (i + k))).toList) _ ?_ (Nat.le_refl _) hge hle ?_ ?_ (bl_alloc (bl_drew (Below.refl _ _)) _)
  · unfold Cel
    rw [show w.heap.size = w.drew.heap.size from rfl, World.alloc_heap_new]
    simp
  · simp only [List.length_append, List.length_take, Builtin.zeroCells, Value.cells, Array.length_toList, Array.size_map, Array.size_range]
    simp
    omega
  · rw [List.append_assoc, List.take_append_of_le_length (by simp; omega), List.take_take]
    simp
end Go.Proofs.Ytjokpjfmnjefdaa
