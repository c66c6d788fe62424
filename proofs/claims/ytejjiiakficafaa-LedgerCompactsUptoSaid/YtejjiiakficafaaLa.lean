/- Rows of aggregates, as data and in memory; blocks by their types. Over any program. (out of the texts of layers 12 and 22) -/
import Derived.Test.YtejjiiakficafaaColl
import Derived.Test.YtejjiiakficafaaLawFns
namespace Go.Proofs.Ytejjiiakficafaa
open Go.RowKit Go.Shelf

/-- From address A on w holds the elements l, each of size cells. -/
def LAt {α : Type} (w : World) (A : Option Addr) (size : Nat) (enc : α → List Value) (l : List α) : Prop :=
  ∀ i (h : i < l.length), ∃ b o, A = some ⟨b, o, none⟩ ∧ b < w.heap.size ∧ w.rangeAt b (o + i * size) (enc l[i])
theorem LAt.below {α : Type} {w w' : World} {A : Option Addr} {size : Nat} {enc : α → List Value} {l : List α} (h : LAt w A size enc l) (hb : Below w.heap.size w w') : LAt w' A size enc l := fun i hi => by
  obtain ⟨b, o, hA, hlt, hc⟩ := h i hi
  exact ⟨b, o, hA, Nat.lt_of_lt_of_le hlt hb.size, fun j u hu => (hb.cell (p := ⟨b, o + i * size + j, none⟩) hlt).trans (hc j u hu)⟩

theorem ownsRow_below {w w' : World} {base : Nat} {e : TypeId} {size : Nat} {v : Value} {n : Nat} {xs : List Value} (h : w.ownsRow base e size v n xs) (hb : Below w.heap.size w w') : w'.ownsRow base e size v n xs := by
  obtain ⟨h1, h2 | ⟨g, cap, cur, rfl, hg, hh, r⟩⟩ := h
  · exact ⟨h1, .inl h2⟩
  · exact ⟨h1, .inr ⟨g, cap, cur, rfl, hg, (hb.block g (Array.getElem?_eq_some_iff.1 hh).1).trans hh, r⟩⟩
theorem ownsRow_type {w w' : World} {base base2 : Nat} {e e2 : TypeId} {size size2 : Nat} {v v2 : Value} {n n2 : Nat} {xs xs2 : List Value} (h : w.ownsRow base e size v n xs) (h2 : w.ownsRow base2 e2 size2 v2 n2 xs2) (hne : e ≠ e2)
    (hg : w.grownBy w' v2.ownBlock) : w'.ownsRow base e size v n xs := by
  refine h.kept hg ?_
  obtain ⟨_, ⟨e1, _⟩ | ⟨g, cap, cur, e1, _, hh, _⟩⟩ := h
  · rw [e1]; exact .inl rfl
  · obtain ⟨_, ⟨e1', _⟩ | ⟨g', cap', cur', e1', _, hh', _⟩⟩ := h2
    · rw [e1, e1']; exact .inr (by simp [Value.ownBlock])
    · rw [e1, e1']; refine .inr ?_
      simp only [Value.ownBlock, ne_eq, Option.some.injEq]
      intro hgg
      rw [hgg, hh'] at hh
      simp only [Option.some.injEq, Obj.cells.injEq] at hh
      exact hne hh.2.1.symm
theorem ks_alloc {w2 W : World} {b : Nat} (h : (∀ j, W.cell? ⟨b, j, none⟩ = w2.cell? ⟨b, j, none⟩) ∧ b < W.heap.size) (o : Obj) : (∀ j, (W.alloc o).cell? ⟨b, j, none⟩ = w2.cell? ⟨b, j, none⟩) ∧ b < (W.alloc o).heap.size :=
  ⟨fun j => (World.cell?_of_block (w := W) (Below.heap_alloc W o b h.2)).trans (h.1 j), by have := h.2; simp; omega⟩
theorem ks_below {w2 W W' : World} {b : Nat} (h : (∀ j, W.cell? ⟨b, j, none⟩ = w2.cell? ⟨b, j, none⟩) ∧ b < W.heap.size) (hb : Below W.heap.size W W') : (∀ j, W'.cell? ⟨b, j, none⟩ = w2.cell? ⟨b, j, none⟩) ∧ b < W'.heap.size :=
  ⟨fun j => (hb.cell (p := ⟨b, j, none⟩) h.2).trans (h.1 j), Nat.lt_of_lt_of_le h.2 hb.size⟩
theorem ks_grown {w2 W W' : World} {b : Nat} {row : Option Nat} (h : (∀ j, W.cell? ⟨b, j, none⟩ = w2.cell? ⟨b, j, none⟩) ∧ b < W.heap.size) (hg : W.grownBy W' row) (hne : some b ≠ row) : (∀ j, W'.cell? ⟨b, j, none⟩ = w2.cell? ⟨b, j, none⟩) ∧ b < W'.heap.size :=
  ⟨fun j => (World.cell?_of_block (w := W) (hg.block b h.2 hne)).trans (h.1 j), Nat.lt_of_lt_of_le h.2 hg.size⟩
theorem ownsRow_lt {w : World} {base : Nat} {e : TypeId} {size : Nat} {v : Value} {n : Nat} {xs : List Value} (h : w.ownsRow base e size v n xs) {g : Nat} (hg : v.ownBlock = some g) : g < w.heap.size := by
  obtain ⟨_, ⟨rfl, _⟩ | ⟨g', cap, cur, rfl, _, hh, _⟩⟩ := h
  · cases hg
  · simp [Value.ownBlock] at hg
    subst hg
    exact (Array.getElem?_eq_some_iff.1 hh).1
theorem ownsRow_new {w w2 : World} {o : Obj} {base : Nat} {e : TypeId} {size : Nat} {v : Value} {n : Nat} {xs : List Value} (h : w.ownsRow base e size v n xs) (hg : (w.alloc o).grownBy w2 (some w.heap.size)) : w2.ownsRow base e size v n xs :=
  (h.alloc _).kept hg (by
    cases hv : v.ownBlock with
    | none => exact .inl rfl
    | some g => refine .inr ?_; have := ownsRow_lt h hv; simp; omega)
theorem ownsRow_le {w : World} {base base' : Nat} {e : TypeId} {size : Nat} {v : Value} {n : Nat} {xs : List Value} (h : w.ownsRow base e size v n xs) (hb : base' ≤ base) : w.ownsRow base' e size v n xs := by
  obtain ⟨h1, h2 | ⟨g, cap, cur, rfl, hg, r⟩⟩ := h
  · exact ⟨h1, .inl h2⟩
  · exact ⟨h1, .inr ⟨g, cap, cur, rfl, Nat.le_trans hb hg, r⟩⟩
/-- Block b is a row of elements of type T. -/
def TyAt (w : World) (b : Nat) (T : TypeId) : Prop := ∃ cs fz, w.heap[b]? = some (.cells cs T fz)
theorem TyAt.of_heap {w w' : World} {b : Nat} {T : TypeId} (h : TyAt w b T) (hh : w'.heap[b]? = w.heap[b]?) : TyAt w' b T := by
  obtain ⟨cs, fz, e⟩ := h
  exact ⟨cs, fz, hh.trans e⟩
theorem TyAt.lt {w : World} {b : Nat} {T : TypeId} (h : TyAt w b T) : b < w.heap.size := by
  obtain ⟨cs, fz, e⟩ := h
  exact (Array.getElem?_eq_some_iff.1 e).1
theorem TyAt.ne {w : World} {b b' : Nat} {T T' : TypeId} (h : TyAt w b T) (h' : TyAt w b' T') (hne : T ≠ T') : b ≠ b' := by
  rintro rfl
  obtain ⟨cs, fz, e⟩ := h
  obtain ⟨cs', fz', e'⟩ := h'
  rw [e] at e'
  simp only [Option.some.injEq, Obj.cells.injEq] at e'
  exact hne e'.2.1
theorem TyAt.setCell {w : World} {b : Nat} {T : TypeId} (h : TyAt w b T) (a : Addr) (v : Value) : TyAt (w.setCell a v) b T := by
  obtain ⟨cs, fz, e⟩ := h
  by_cases hb : a.block = b
  · subst hb
    refine ⟨if a.spot.isSome then cs else cs.setIfInBounds a.off v, fz, ?_⟩
    simp [World.setCell, Array.getElem?_modify, e]
  · exact ⟨cs, fz, by rw [Below.heap_setCell _ _ _ _ (Ne.symm hb)]; exact e⟩
theorem ownsRow_ty {w : World} {base : Nat} {e : TypeId} {size : Nat} {v : Value} {n : Nat} {xs : List Value} (h : w.ownsRow base e size v n xs) {g : Nat} (hg : v.ownBlock = some g) : TyAt w g e := by
  obtain ⟨_, ⟨rfl, _⟩ | ⟨g', cap, cur, rfl, hb, hh, _⟩⟩ := h
  · cases hg
  · simp [Value.ownBlock] at hg
    subst hg
    exact ⟨_, _, hh⟩
theorem ownsRow_keep {w w' : World} {base : Nat} {e : TypeId} {size : Nat} {v : Value} {n : Nat} {xs : List Value} (h : w.ownsRow base e size v n xs) (hk : ∀ g, v.ownBlock = some g → w'.heap[g]? = w.heap[g]?) : w'.ownsRow base e size v n xs := by
  obtain ⟨h1, h2 | ⟨g, cap, cur, rfl, hg, hh, r⟩⟩ := h
  · exact ⟨h1, .inl h2⟩
  · exact ⟨h1, .inr ⟨g, cap, cur, rfl, hg, (hk g rfl).trans hh, r⟩⟩
/-- A cell of a row, set. -/
theorem ownsRow_set {w : World} {base : Nat} {e : TypeId} {size g n cap : Nat} {xs : List Value} (h : w.ownsRow base e size (.slice (some ⟨g, 0, none⟩) n cap) n xs) (j : Nat) (v : Value) :
    (w.setCell ⟨g, j, none⟩ v).ownsRow base e size (.slice (some ⟨g, 0, none⟩) n cap) n (xs.set j v) := by
  obtain ⟨h1, ⟨h2, _⟩ | ⟨g', cap', cur, h2, hg, hh, hn, hc, hs, ht⟩⟩ := h
  · cases h2
  · cases h2
    refine ⟨by simpa using h1, .inr ⟨g, cap, cur.setIfInBounds j v, rfl, hg, by simp [World.setCell, Array.getElem?_modify, hh], hn, hc, by simpa using hs, ?_⟩⟩
    rw [Array.toList_setIfInBounds, List.take_set, ht]

theorem ty_new (w : World) (cs : Array Value) (T : TypeId) : TyAt (w.alloc (.cells cs T)) w.heap.size T := ⟨cs, _, by rw [World.alloc_heap_new]⟩
theorem TyAt.alloc {w : World} {b : Nat} {T : TypeId} (h : TyAt w b T) (o : Obj) : TyAt (w.alloc o) b T := h.of_heap (Below.heap_alloc w o b h.lt)
theorem ty_new' {w : World} {b : Nat} (cs : Array Value) (T : TypeId) (hb : b = w.heap.size) : TyAt (w.alloc (.cells cs T)) b T := by rw [hb]; exact ty_new _ _ _
theorem IM.ne_ty {w : World} {α : Type} {enc : α → Value} {P : Program} {K : TypeId} {b n : Nat} {m : List (Int × α)} (h : IM P K w b n enc m) {c : Nat} {T : TypeId} (ht : TyAt w c T) : c ≠ b := by
  rintro rfl
  obtain ⟨es, clock, hb, _⟩ := h
  obtain ⟨cs, fz, e⟩ := ht
  rw [hb] at e
  cases e
theorem step_append_src {P : Program} {w : World} {ops : Array Oper} {o : Oper} {a : Act} {K : Act → World → Prop} {Q : Exit → Act → World → Prop} {E : Prop} (hgd : o.guard = none) (s x : Operand) (t : TypeId)
    (ho : o.op = .call { callee := .builtin .append, args := #[s, x], argTypes := #[t, t] })
    (base : Nat) (e : TypeId) (i : TypeInfo) (z : Value) (size bytes : Nat) (ht : P.underlying t = some (.slice e)) (hi : P.info? e = some i) (hz : i.zero = some z)
    (hsize : i.size = size) (hby : i.bytes = bytes) (hzs : z.cells.size = size) (hsz : 0 < size) (v : Value) (n : Nat) (xs : List Value) (hs : a.eval s = v) (hown : w.ownsRow base e size v n xs)
    (A : Option Addr) (m c : Nat) (news : List Value) (hx : a.eval x = .slice A m c) (hsrc : SrcAt w A m size news) (h1 : ∀ u ∈ news, u.oneCell' = true) (h63 : n + m ≤ maxLen) (hbytes : (n + m) * bytes ≤ 140737488355328) (hbase : base ≤ w.heap.size)
    (h : ∀ A' c' w', w'.ownsRow base e size (.slice A' (n + m) c') (n + m) (xs ++ news) → w.grownBy w' v.ownBlock → K (a.put o.dst (.slice A' (n + m) c')) w') :
    if Region.wanted o (yielded ops a.tmps) = true then Oper.wp P o a w K Q else E := by
  have hw : Region.wanted o (yielded ops a.tmps) = true := by simp [Region.wanted, hgd]
  rw [if_pos hw]
  obtain ⟨v', w', hr, h2, h3⟩ := run_append_src (P := P) (w := w) base t o.type e i z size bytes ht hi hz hsize hby hzs hsz v n xs hown A m c news hsrc h1 h63 hbytes hbase
  obtain ⟨A', c', rfl, _⟩ := ownsRow_tells h2
  unfold Oper.wp execOp
  simp only [ho, resolve, invoke, builtin, Sem.run_bind, Sem.run_pure, Result.andThen_ok, List.map_toArray, List.map_cons, List.map_nil, hs, hx, hr]
  exact h A' c' w' h2 h3

section
variable {α : Type} {k : Nat} {enc : α → List Value}
theorem flat_length (hk : ∀ x, (enc x).length = k) (l : List α) : (l.flatMap enc).length = l.length * k := by
  induction l with
  | nil => simp
  | cons x r ih => rw [List.flatMap_cons, List.length_append, hk, ih, List.length_cons, Nat.succ_mul]; omega
theorem flat_get (hk : ∀ x, (enc x).length = k) (l : List α) : ∀ i (h : i < l.length) j, j < k → (l.flatMap enc)[i * k + j]? = (enc l[i])[j]? := by
  induction l with
  | nil => intro i h; simp at h
  | cons x r ih =>
    intro i h j hj
    rw [List.flatMap_cons]
    cases i with
    | zero => rw [Nat.zero_mul, Nat.zero_add, List.getElem?_append_left (by rw [hk]; exact hj)]; rfl
    | succ i =>
      rw [List.getElem?_append_right (by rw [hk, Nat.succ_mul]; omega), hk]
      rw [show (i + 1) * k + j - k = i * k + j from by rw [Nat.succ_mul]; omega]
      exact ih i (by simpa using h) j hj
theorem LAt.src (hk : ∀ x, (enc x).length = k) (h0 : 0 < k) {w : World} {A : Option Addr} {l : List α} (h : LAt w A k enc l) : SrcAt w A l.length k (l.flatMap enc) := by
  refine ⟨flat_length hk l, fun hn => ?_⟩
  obtain ⟨b, o, rfl, _, _⟩ := h 0 (by omega)
  refine ⟨_, rfl, fun j u hu => ?_⟩
  have hj : j < l.length * k := by rw [← flat_length hk]; exact (List.getElem?_eq_some_iff.1 hu).1
  have hd : j / k < l.length := (Nat.div_lt_iff_lt_mul h0).2 hj
  have he : j / k * k + j % k = j := by rw [Nat.mul_comm]; exact Nat.div_add_mod j k
  obtain ⟨b', o', e, _, hc⟩ := h (j / k) hd
  cases e
  rw [Addr.add_mid]
  have h2 := flat_get hk l (j / k) hd (j % k) (Nat.mod_lt _ h0)
  rw [he, hu] at h2
  have h3 := hc (j % k) u h2.symm
  rw [Nat.add_assoc, he] at h3
  exact h3
theorem LAt.of_own (hk : ∀ x, (enc x).length = k) {w : World} {base : Nat} {e : TypeId} {A : Option Addr} {n c : Nat} {l : List α} (h : w.ownsRow base e k (.slice A n c) n (l.flatMap enc)) (hn : n = l.length) : LAt w A k enc l := by
  subst hn
  obtain ⟨A2, c2, e2, htl⟩ := ownsRow_tells h
  cases e2
  intro i hi
  obtain ⟨g, rfl, _, hlt, hc⟩ := htl (by omega)
  refine ⟨g, 0, rfl, hlt, fun j u hu => ?_⟩
  rw [Nat.zero_add]
  exact hc _ _ ((flat_get hk l i hi j (by rw [← hk l[i]]; exact (List.getElem?_eq_some_iff.1 hu).1)).trans hu)
theorem LAt.nil {w : World} {A : Option Addr} : LAt w A k enc ([] : List α) := fun i h => absurd h (by simp)
theorem LAt.drop {w : World} {b o : Nat} {l : List α} (h : LAt w (some ⟨b, o, none⟩) k enc l) (n : Nat) : LAt w (some ⟨b, o + n * k, none⟩) k enc (l.drop n) := fun i hi => by
  obtain ⟨b', o', e, hlt, hc⟩ := h (n + i) (by simp at hi; omega)
  cases e
  refine ⟨b, _, rfl, hlt, ?_⟩
  rw [List.getElem_drop, show o + n * k + i * k = o + (n + i) * k from by rw [Nat.add_mul]; omega]
  exact hc
theorem LAt.take {w : World} {A : Option Addr} {l : List α} (h : LAt w A k enc l) (n : Nat) : LAt w A k enc (l.take n) := fun i hi => by
  obtain ⟨b', o', e, hlt, hc⟩ := h i (by simp at hi; omega)
  exact ⟨b', o', e, hlt, by rw [List.getElem_take]; exact hc⟩
theorem LAt.block {w w' : World} {b o : Nat} {l : List α} (h : LAt w (some ⟨b, o, none⟩) k enc l) (hh : w'.heap[b]? = w.heap[b]?) : LAt w' (some ⟨b, o, none⟩) k enc l := fun i hi => by
  obtain ⟨b', o', e, hlt, hc⟩ := h i hi
  cases e
  refine ⟨b, o, rfl, ?_, fun j u hu => (World.cell?_of_block (w := w) (w' := w') (a := ⟨b, _, none⟩) hh).trans (hc j u hu)⟩
  rw [Array.getElem?_eq_getElem hlt] at hh
  exact (Array.getElem?_eq_some_iff.1 hh).1
/-- It lies below n. -/
def LBel (n : Nat) (A : Option Addr) (l : List α) : Prop := l ≠ [] → ∃ b o, A = some ⟨b, o, none⟩ ∧ b < n
theorem LAt.bel {w : World} {A : Option Addr} {l : List α} (h : LAt w A k enc l) : LBel w.heap.size A l := fun hn => by
  obtain ⟨b, o, e, hlt, _⟩ := h 0 (by cases l; exact absurd rfl hn; simp)
  exact ⟨b, o, e, hlt⟩
/-- What is below n stays where but what is not is written. -/
theorem LAt.low {w w' : World} {A : Option Addr} {l : List α} {n : Nat} (h : LAt w A k enc l) (hb : Below n w w') (hA : LBel n A l) : LAt w' A k enc l := fun i hi => by
  obtain ⟨b, o, e, hlt⟩ := hA (by rintro rfl; simp at hi)
  obtain ⟨b', o', e', hl2, hc⟩ := h i hi
  rw [e] at e'; cases e'
  refine ⟨b, o, e, Nat.lt_of_lt_of_le ?_ (Nat.le_refl _), fun j u hu => (hb.cell (p := ⟨b, o + i * k + j, none⟩) hlt).trans (hc j u hu)⟩
  have hh := hb.block b hlt
  rw [Array.getElem?_eq_getElem hl2] at hh
  exact (Array.getElem?_eq_some_iff.1 hh).1
end

theorem keep_bat {w W W' : World} {b : Nat} (h : (∀ o, W.cell? ⟨b, o, none⟩ = w.cell? ⟨b, o, none⟩) ∧ b < W.heap.size) (hh : W'.heap[b]? = W.heap[b]?) : (∀ o, W'.cell? ⟨b, o, none⟩ = w.cell? ⟨b, o, none⟩) ∧ b < W'.heap.size := by
  refine ⟨fun o => (World.cell?_of_block (w := W) (a := ⟨b, o, none⟩) hh).trans (h.1 o), ?_⟩
  have := h.2
  rw [Array.getElem?_eq_getElem this] at hh
  exact (Array.getElem?_eq_some_iff.1 hh).1
theorem bat_alloc {w W : World} {b : Nat} (h : (∀ o, W.cell? ⟨b, o, none⟩ = w.cell? ⟨b, o, none⟩) ∧ b < W.heap.size) (ob : Obj) : (∀ o, (W.alloc ob).cell? ⟨b, o, none⟩ = w.cell? ⟨b, o, none⟩) ∧ b < (W.alloc ob).heap.size := keep_bat h (Below.heap_alloc W ob b h.2)
theorem bat_grown {w W W' : World} {b : Nat} (h : (∀ o, W.cell? ⟨b, o, none⟩ = w.cell? ⟨b, o, none⟩) ∧ b < W.heap.size) {row : Option Nat} (hg : W.grownBy W' row) (hne : some b ≠ row) : (∀ o, W'.cell? ⟨b, o, none⟩ = w.cell? ⟨b, o, none⟩) ∧ b < W'.heap.size := keep_bat h (hg.block b h.2 hne)
theorem bat_here (w : World) {b : Nat} (hb : b < w.heap.size) : (∀ o, w.cell? ⟨b, o, none⟩ = w.cell? ⟨b, o, none⟩) ∧ b < w.heap.size := ⟨fun _ => rfl, hb⟩
theorem bat_drew {w W : World} {b : Nat} (h : (∀ o, W.cell? ⟨b, o, none⟩ = w.cell? ⟨b, o, none⟩) ∧ b < W.heap.size) : (∀ o, W.drew.cell? ⟨b, o, none⟩ = w.cell? ⟨b, o, none⟩) ∧ b < W.drew.heap.size := h
theorem ownsRow_unf {w : World} {base : Nat} {e : TypeId} {size g n n' c : Nat} {xs : List Value} (h : w.ownsRow base e size (.slice (some ⟨g, 0, none⟩) n c) n' xs) : ∀ j, w.frozen? ⟨g, j, none⟩ = false := by
  intro j
  obtain ⟨_, ⟨e, _⟩ | ⟨g', cap, cur, e, _, hh, _⟩⟩ := h
  · cases e
  · cases e
    simp [World.frozen?, hh]

theorem ownsRow_cap {w : World} {base : Nat} {e : TypeId} {size n n' c : Nat} {A : Option Addr} {xs : List Value} (h : w.ownsRow base e size (.slice A n c) n' xs) : n ≤ c := by
  obtain ⟨_, ⟨e, _⟩ | ⟨g', cap, cur, e, _, hh, hle, _⟩⟩ := h
  · cases e; exact Nat.le_refl _
  · cases e; exact hle
/-- A row of the call's own grew: what lies below its base is as it was. -/
theorem bl_own {a w w1 : World} {e : TypeId} {size : Nat} {v : Value} {n : Nat} {xs : List Value} {base : Nat} (hb : Below a.heap.size a w) (h : w.ownsRow base e size v n xs) (hba : a.heap.size ≤ base) (hg : w.grownBy w1 v.ownBlock) : Below a.heap.size a w1 :=
  hb.grown hg hb.size (fun g e => Nat.le_trans hba (ownsRow_base h e))
theorem flat_one {α : Type} {enc : α → List Value} (h : ∀ x, ∀ u ∈ enc x, u.oneCell' = true) (l : List α) : ∀ u ∈ l.flatMap enc, u.oneCell' = true := by
  intro u hu
  obtain ⟨x, _, hx⟩ := List.mem_flatMap.1 hu
  exact h x u hx
end Go.Proofs.Ytejjiiakficafaa
