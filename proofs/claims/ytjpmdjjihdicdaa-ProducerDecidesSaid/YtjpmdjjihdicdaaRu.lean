/- The document's table, one entry longer. -/
import Derived.Test.YtjpmdjjihdicdaaPl
import Derived.Test.YtjpmdjjihdicdaaHd
import Derived.Test.YtjpmdjjihdicdaaLs
namespace Go.Proofs.Ytjpmdjjihdicdaa
open Go.RowKit Go.Shelf

theorem RefAt.push {X Y : World} {n0 rb : Nat} {gL : Option Nat} {r : List Ent} {A A' Ax : Option Addr} {c c' cx : Nat} {vs : List Value} {x : Ent} (h : RefAt X n0 rb gL r A c vs) (hg : X.grownBy Y gL) (hrb : rb < n0)
    (hown : Y.ownsRow n0 92 4 (.slice A' (r.length + 1) c') (r.length + 1) (entCells r vs ++ entL x (.slice Ax x.last.length cx))) (hx : DnsT X Ax x.last) :
    RefAt (Y.setCell ⟨rb, 0, none⟩ (.slice A' (r.length + 1) c')) n0 rb (Value.slice A' (r.length + 1) c').ownBlock (r ++ [x]) A' c' (vs ++ [.slice Ax x.last.length cx]) := by
  have hrl : some rb ≠ gL := fun e => by have := h.base e.symm; omega
  have hrY : Y.heap[rb]? = X.heap[rb]? := hg.block rb h.tab.lt hrl
  have hk : ∀ b, TyAt X b 93 → (Y.setCell ⟨rb, 0, none⟩ (.slice A' (r.length + 1) c')).heap[b]? = X.heap[b]? := fun b hb =>
    (Below.heap_setCell Y _ _ b (hb.ne h.tabT (by decide))).trans (hg.block b hb.lt (fun e => by
      have := ownsRow_ty h.row (by rw [h.own]; exact e.symm)
      exact hb.ne this (by decide) rfl))
  refine ⟨?_, (h.tabT.of_heap hrY).setCell _ _, ?_, by cases A' <;> simp [Value.ownBlock], by simp [h.vsl], fun i hi u hu => ?_⟩
  · rw [List.length_append]
    simpa using (h.tab.of_heap hrY).set_same 0 (.slice A' (r.length + 1) c')
  · rw [List.length_append, entCells_append _ _ h.vsl.symm]
    have hk2 := ownsRow_keep (w' := Y.setCell ⟨rb, 0, none⟩ (.slice A' (r.length + 1) c')) hown (fun g e => by
      have := ownsRow_base hown e
      exact Below.heap_setCell Y _ _ g (by dsimp only; omega))
    simpa [entCells] using hk2
  · by_cases hir : i < r.length
    · rw [List.getElem?_append_left (by rw [h.vsl]; exact hir)] at hu
      obtain ⟨A2, c2, e, hd⟩ := h.dns i hir u hu
      rw [List.getElem_append_left hir]
      exact ⟨A2, c2, e, hd.keep hk⟩
    · obtain rfl : i = r.length := by simp at hi; omega
      rw [List.getElem?_append_right (by rw [h.vsl]; omega)] at hu
      simp [h.vsl] at hu
      subst hu
      refine ⟨Ax, cx, by simp, ?_⟩
      have := hx.keep hk
      simpa using this
theorem srcD {w : World} {A : Option Addr} {ds : List Dn} (h : DnsAt w A ds) : SrcAt w A ds.length 3 (dnCells ds) := by
  refine ⟨dnCells_length ds, fun hne => ?_⟩
  obtain ⟨b, o, hA, _, _⟩ := h 0 (by omega)
  subst hA
  refine ⟨_, rfl, fun j u hu => ?_⟩
  rw [Addr.add_mid]
  obtain ⟨i, hi, hc⟩ := dnCells_at ds j u hu
  obtain ⟨b', o', e, _, c1, c2, c3⟩ := h i hi
  cases e
  rcases hc with ⟨rfl, rfl⟩ | ⟨rfl, rfl⟩ | ⟨rfl, rfl⟩
  · exact c1
  · exact c2
  · exact c3
end Go.Proofs.Ytjpmdjjihdicdaa
