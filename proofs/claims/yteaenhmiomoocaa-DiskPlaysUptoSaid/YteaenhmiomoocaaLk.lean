/- Maps keyed by whole numbers: what is looked up behind a store, a delete. No program in sight. -/
import Derived.Test.YteaenhmiomoocaaIM
namespace Go.Proofs.Yteaenhmiomoocaa
theorem lookI_ins {α : Type} (x : Int × α) (q : Int) : ∀ l : List (Int × α), (∀ y ∈ l, y.1 ≠ x.1) → lookI (insI x l) q = if q = x.1 then some x.2 else lookI l q
  | [], _ => by
    by_cases e : q = x.1
    · simp [lookI, insI, e]
    · have e' : ¬ x.1 = q := fun h => e h.symm
      simp [lookI, insI, e, e']
  | y :: r, h => by
    unfold insI
    split
    · by_cases e : q = x.1
      · simp [lookI, e]
      · have e' : ¬ x.1 = q := fun h => e h.symm
        simp [lookI, e, e']
    · have ih := lookI_ins x q r (fun z hz => h z (List.mem_cons_of_mem _ hz))
      have hy := h y (List.mem_cons_self ..)
      unfold lookI at ih ⊢
      by_cases e : y.1 = q
      · have : ¬ q = x.1 := fun h => hy (e.trans h)
        simp [e, this]
      · rw [List.find?_cons_of_neg (by simpa using e), ih, List.find?_cons_of_neg (by simpa using e)]
theorem lookI_del {α : Type} (m : List (Int × α)) (k q : Int) (h : q ≠ k) : lookI (delI m k) q = lookI m q := by
  unfold lookI delI
  rw [List.find?_filter]
  congr 2
  funext p
  by_cases e : p.1 = q
  · have : ¬ p.1 = k := fun h' => h (e.symm.trans h')
    simp [e, h]
  · simp [e]
theorem lookI_put {α : Type} (m : List (Int × α)) (k : Int) (v : α) (q : Int) : lookI (putI m k v) q = if q = k then some v else lookI m q := by
  unfold putI
  rw [lookI_ins _ _ _ (by intro y hy; simpa [delI] using (List.mem_filter.1 hy).2)]
  dsimp only
  split
  · rfl
  · exact lookI_del m k q ‹_›

theorem lookI_mem {α : Type} : ∀ {m : List (Int × α)}, (m.Pairwise fun p q => p.1 < q.1) → ∀ {x}, x ∈ m → lookI m x.1 = some x.2
  | y :: l, hs, x, hx => by
    obtain ⟨h1, h2⟩ := List.pairwise_cons.1 hs
    rcases List.mem_cons.1 hx with rfl | hx
    · simp [lookI]
    · have := h1 x hx
      have hne : ¬ y.1 = x.1 := by omega
      have ih := lookI_mem h2 hx
      unfold lookI at ih ⊢
      rw [List.find?_cons_of_neg (by simpa using hne)]
      exact ih


theorem lookI_delI {α : Type} (m : List (Int × α)) (k q : Int) : lookI (delI m k) q = if q = k then none else lookI m q := by
  split
  · rename_i e
    subst e
    unfold lookI delI
    rw [Option.map_eq_none_iff, List.find?_eq_none]
    intro x hx
    simpa using (List.mem_filter.1 hx).2
  · exact lookI_del m k q ‹_›
theorem keys_ins {α β : Type} (k : Int) (v : α) (u : β) : ∀ (l : List (Int × α)) (m : List (Int × β)), l.map (·.1) = m.map (·.1) → (insI (k, v) l).map (·.1) = (insI (k, u) m).map (·.1)
  | [], [], _ => rfl
  | [], _ :: _, h => by simp at h
  | _ :: _, [], h => by simp at h
  | x :: l, y :: m, h => by
    simp only [List.map_cons, List.cons.injEq] at h
    unfold insI
    dsimp only
    rw [h.1]
    split
    · simp only [List.map_cons, h.1, h.2]
    · simp only [List.map_cons, h.1, keys_ins k v u l m h.2]
theorem keys_del {α β : Type} (k : Int) : ∀ (l : List (Int × α)) (m : List (Int × β)), l.map (·.1) = m.map (·.1) → (delI l k).map (·.1) = (delI m k).map (·.1)
  | [], [], _ => rfl
  | [], _ :: _, h => by simp at h
  | _ :: _, [], h => by simp at h
  | x :: l, y :: m, h => by
    simp only [List.map_cons, List.cons.injEq] at h
    have ih := keys_del k l m h.2
    unfold delI at ih ⊢
    simp only [List.filter_cons, h.1]
    split
    · simp only [List.map_cons, h.1, ih]
    · exact ih
theorem keys_put {α β : Type} (k : Int) (v : α) (u : β) (l : List (Int × α)) (m : List (Int × β)) (h : l.map (·.1) = m.map (·.1)) : (putI l k v).map (·.1) = (putI m k u).map (·.1) :=
  keys_ins k v u _ _ (keys_del k _ _ h)

/-- Each cell set in turn. -/
theorem foldl_set_get : ∀ (l : List Value) (k : Nat) (acc : Array Value) (j : Nat), ((l.zipIdx k).foldl (fun cs (x : Value × Nat) => cs.setIfInBounds (0 + x.2) x.1) acc)[j]? = if k ≤ j ∧ j < k + l.length ∧ j < acc.size then l[j - k]? else acc[j]?
  | [], k, acc, j => by simp; omega
  | v :: l, k, acc, j => by
    rw [List.zipIdx_cons, List.foldl_cons, foldl_set_get l (k + 1) _ j]
    simp only [Array.size_setIfInBounds, Nat.zero_add, List.length_cons, Array.getElem?_setIfInBounds]
    by_cases hj : j < acc.size
    · by_cases h1 : k = j
      · subst h1
        rw [if_neg (by omega), if_pos rfl, if_pos hj, if_pos (by omega), Nat.sub_self, List.getElem?_cons_zero]
      · rw [if_neg h1]
        by_cases h2 : k ≤ j ∧ j < k + (l.length + 1)
        · rw [if_pos (by omega), if_pos (by omega), show j - k = (j - (k + 1)) + 1 from by omega, List.getElem?_cons_succ]
        · rw [if_neg (by omega), if_neg (by omega)]
    · rw [if_neg (by omega), if_neg (show ¬ (k ≤ j ∧ j < k + (l.length + 1) ∧ j < acc.size) from by omega)]
      by_cases h1 : k = j
      · subst h1; rw [if_pos rfl, if_neg hj, Array.getElem?_eq_none (by omega)]
      · rw [if_neg h1]
theorem fill_one (cells : Array Value) (cs : List Value) (n : Nat) (hl : cs.length = n) (hc : cells.size = n) (f : Nat → Option (Nat × Nat)) (hf : f 0 = some (0, n)) :
    Instr.fill f cells [(0, .agg cs.toArray)] = some cs.toArray := by
  have hz : Value.cells (.agg cs.toArray) = cs.toArray := rfl
  simp only [Instr.fill, hf, hz, List.size_toArray, hl, hc, Nat.zero_add]
  rw [if_neg (by simp)]
  congr 1
  apply Array.ext_getElem?
  intro j
  have := foldl_set_get cs 0 cells j
  simp only [← Array.foldl_toList, Array.toList_zipIdx, Nat.zero_le, Nat.sub_zero, true_and, Nat.zero_add] at this ⊢
  rw [this]
  by_cases h : j < cs.length
  · rw [if_pos (by omega)]; simp
  · rw [if_neg (by omega), Array.getElem?_eq_none (by omega), Array.getElem?_eq_none (by simp; omega)]
end Go.Proofs.Yteaenhmiomoocaa
