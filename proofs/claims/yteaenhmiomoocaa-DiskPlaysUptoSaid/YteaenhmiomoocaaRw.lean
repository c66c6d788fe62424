/- The document's disk: Write (31). -/
import Derived.Test.YteaenhmiomoocaaRr
namespace Go.Proofs.Yteaenhmiomoocaa
open Go.RowKit Go.Shelf
attribute [local go_sem] Oper.semAt_some

section
variable {X Y : World} {n0 rb g c : Nat} {bs : List Bk} {d : Dsk}
/-- A version more of block j. -/
theorem RfAt.write {F : Nat → Prop} (h : RfAt F X n0 rb g c bs d) (hrb : rb < n0) {j : Nat} (hj : j < bs.length) {hs : List Value} {v : Value} {t : Tx} {A' : Option Addr} {c' : Nat} (hvr : ∀ (k : Nat) (x : Tx), (vsOf d j)[k]? = some x → ∃ v, hs[k]? = some v ∧ BufT F X v x) (hhl : hs.length = (vsOf d j).length)
    (hY : X.grownBy Y bs[j].vv.ownBlock) (hown : Y.ownsRow n0 30 1 (.slice A' ((vsOf d j).length + 1) c') ((vsOf d j).length + 1) (hs ++ [v])) (hv : BufT F Y v t)
    (hnew : ∀ q, (Value.slice A' ((vsOf d j).length + 1) c').ownBlock = some q → bs[j].vv.ownBlock = some q ∨ X.heap.size ≤ q) :
    RfAt F (Y.setCell ⟨g, j * 3 + 2, none⟩ (.slice A' ((vsOf d j).length + 1) c')) n0 rb g c (bs.set j { bs[j] with vv := .slice A' ((vsOf d j).length + 1) c' }) (writeS d j t) := by
  have hgb := h.gl.1
  have hgT := h.gl.2
  have hoj : ∀ q, bs[j].vv.ownBlock = some q → n0 ≤ q ∧ TyAt X q 30 := fun q e => h.own (List.getElem_mem hj) e
  have kY : ∀ b, b < X.heap.size → bs[j].vv.ownBlock ≠ some b → Y.heap[b]? = X.heap[b]? := fun b hb hne => hY.block b hb (fun e => hne e.symm)
  have kg : Y.heap[g]? = X.heap[g]? := kY g hgT.lt (fun e => (hoj g e).2.ne hgT (by decide) rfl)
  have kr : Y.heap[rb]? = X.heap[rb]? := kY rb h.box.lt (fun e => by have := (hoj rb e).1; omega)
  have kZ : ∀ b, b ≠ g → (Y.setCell ⟨g, j * 3 + 2, none⟩ (.slice A' ((vsOf d j).length + 1) c')).heap[b]? = Y.heap[b]? := fun b hb => Below.heap_setCell Y _ _ b hb
  have k5 : ∀ b, TyAt X b 5 → (Y.setCell ⟨g, j * 3 + 2, none⟩ (.slice A' ((vsOf d j).length + 1) c')).heap[b]? = X.heap[b]? := fun b ht =>
    (kZ b (ht.ne hgT (by decide))).trans (kY b ht.lt (fun e => ht.ne (hoj b e).2 (by decide) rfl))
  have k5Y : ∀ b, TyAt Y b 5 → (Y.setCell ⟨g, j * 3 + 2, none⟩ (.slice A' ((vsOf d j).length + 1) c')).heap[b]? = Y.heap[b]? := fun b ht =>
    kZ b (ht.ne (hgT.of_heap kg) (by decide))
  have hvs : ∀ i, vsOf (writeS d j t) i = if i = j then vsOf d j ++ [t] else vsOf d i := by
    intro i
    unfold vsOf writeS
    dsimp only
    rw [lookI_put]
    by_cases hij : i = j
    · subst hij; simp
    · rw [if_neg (by omega), if_neg hij]
  refine ⟨?_, ?_, ?_, ?_, ?_, ?_, ?_, ?_, ?_⟩
  · rw [List.length_set]
    exact (h.box.of_heap kr).of_heap (kZ rb (by omega))
  · exact (h.boxT.of_heap kr).of_heap (kZ rb (by omega))
  · rw [List.length_set, ← (bkC_set bs j hj _).2]
    exact ownsRow_set (ownsRow_keep h.row (fun q e => by simp [Value.ownBlock] at e; subst e; exact kg)) _ _
  · rw [List.length_set]; exact h.len
  · intro i hi
    rw [List.length_set] at hi
    rw [List.getElem_set]
    split
    · rename_i e; subst e; exact h.bad _ hi
    · exact h.bad i hi
  · intro i hi hb
    rw [List.length_set] at hi
    rw [List.getElem_set] at hb ⊢
    split at hb
    · rename_i e; subst e
      simp only [if_true]
      exact (h.txt _ hi hb).keep k5
    · rename_i e
      rw [if_neg e]
      exact (h.txt i hi hb).keep k5
  · intro i hi
    rw [List.length_set] at hi
    rw [hvs, List.getElem_set]
    by_cases hij : i = j
    · subst hij
      simp only [if_true, List.length_append, List.length_singleton]
      refine ⟨hs ++ [v], ownsRow_keep hown (fun q e => kZ q (fun e2 => by
        have := ownsRow_ty hown e
        subst e2
        exact this.ne (hgT.of_heap kg) (by decide) rfl)), fun k x hk => ?_⟩
      by_cases hkl : k < (vsOf d i).length
      · rw [List.getElem?_append_left hkl] at hk
        obtain ⟨u, hu, hb⟩ := hvr k x hk
        exact ⟨u, by rw [List.getElem?_append_left (by omega)]; exact hu, hb.keep k5⟩
      · rw [List.getElem?_append_right (by omega)] at hk
        have hk0 : k - (vsOf d i).length = 0 := by
          have := (List.getElem?_eq_some_iff.1 hk).1
          simp at this
          omega
        rw [hk0] at hk
        simp at hk
        subst hk
        exact ⟨v, by rw [List.getElem?_append_right (by omega), hhl, hk0]; rfl, hv.keep k5Y⟩
    · rw [if_neg hij, if_neg (fun e => hij e.symm)]
      obtain ⟨hs', hr', hx'⟩ := h.ver i hi
      refine ⟨hs', ownsRow_keep hr' (fun q e => ?_), fun k x hk => ?_⟩
      · have hq := h.own (List.getElem_mem hi) e
        exact (kZ q (hq.2.ne hgT (by decide))).trans (kY q hq.2.lt (fun e2 => h.sep i j hi hj hij q e e2))
      · obtain ⟨u, hu, hb⟩ := hx' k x hk
        exact ⟨u, hu, hb.keep k5⟩
  · intro a b ha hb hab q hq
    rw [List.length_set] at ha hb
    rw [List.getElem_set] at hq ⊢
    by_cases haj : j = a
    · subst haj
      rw [if_neg hab]
      simp only [if_true] at hq
      intro e
      rcases hnew q hq with h1 | h1
      · exact h.sep j b ha hb hab q h1 e
      · have := (h.own (List.getElem_mem hb) e).2.lt; omega
    · rw [if_neg haj] at hq
      by_cases hbj : j = b
      · subst hbj
        simp only [if_true]
        intro e
        rcases hnew q e with h1 | h1
        · exact h.sep a j ha hb hab q hq h1
        · have := (h.own (List.getElem_mem ha) hq).2.lt; omega
      · rw [if_neg hbj]
        exact h.sep a b ha hb hab q hq
  · intro x hx
    rcases List.mem_or_eq_of_mem_set hx with hx | rfl
    · exact h.sl x hx
    · exact h.sl bs[j] (List.getElem_mem hj)
end
end Go.Proofs.Yteaenhmiomoocaa
