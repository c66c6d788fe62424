/- A region whose last operation waits for those that are taken first. Over any program. -/
import Derived.Test.YtjpmdjjihdicdaaRefR
namespace Go.Proofs.Ytjpmdjjihdicdaa
open Go Go.Shelf

section
variable {P : Program} {ops : Array Oper} {Q : Exit → Act → World → Prop} {md : Region.Mode} {S : World → Prop} {L : Nat}
theorem anyBut.firstW {i : Nat} {oi : Oper} {v : Value} (hL : ∃ o, ops[L]? = some o ∧ ∃ e ∈ o.after, Region.binds md e = true ∧ e.on = i) (hi : ops[i]? = some oi) (hsel : ∀ (j : Nat) (o : Oper) cs b, ops[j]? = some o → o.op ≠ .select cs b)
    (hQ : ∀ c a w, Q (.panic c) (a.put oi.dst v) w → Q (.panic c) a w) : ∀ (n : Nat) (done : Array Bool) (a : Act) (w : World),
      (∀ j oj, ops[j]? = some oj → j ≠ i → done.getD j true = false → (∀ e ∈ oj.after, Region.binds md e = true → e.on ≠ i) → oi.apart ops oj = true) →
      i ∈ Region.ready md ops done → YieldsIf P ops S oi v a → S w → anyBut P md ops Q S L n (done.setIfInBounds i true) (a.put oi.dst v) w → anyBut P md ops Q S L (n + 1) done a w := by
  intro n
  induction n with
  | zero =>
    intro done a w _ hr hy hS H
    refine ⟨fun h => (by rw [h] at hr; cases hr), fun j hj => ?_⟩
    by_cases hji : j = i
    · subst hji; exact hy.wpOp hi hS ⟨.inr hS, H⟩
    · have := ready_mono hj hji
      rw [H.1] at this
      cases this
  | succ n ih =>
    intro done a w hfree hr hy hS H
    refine ⟨fun h => (by rw [h] at hr; cases hr), fun j hj => ?_⟩
    by_cases hji : j = i
    · subst hji; exact hy.wpOp hi hS ⟨.inr hS, H⟩
    · obtain ⟨hjun, oj, hoj, hall⟩ := mem_ready.1 hj
      have hiun := (mem_ready.1 hr).1
      have hnd : done.getD i false = false := by
        rcases Nat.lt_or_ge i done.size with h' | h'
        · simpa [h'] using hiun
        · simp [Array.getElem?_eq_none h'] at hiun
      have hnot : ∀ e ∈ oj.after, Region.binds md e = true → e.on ≠ i := fun e he hb heq => by
        have h1 := hall e he hb
        rw [heq, hnd] at h1
        cases h1
      have hjL : j ≠ L := by
        rintro rfl
        obtain ⟨o, ho, e, he, hb, hon⟩ := hL
        rw [hoj] at ho
        cases ho
        exact hnot e he hb hon
      have h2 := wpOp_putIf hoj (hfree j oj hoj hji hjun hnot) (fun cs b => hsel i oi cs b hi) (fun cs b => hsel j oj cs b hoj) hQ hy (H.2 j (ready_mono hj hji))
      have hfree' : ∀ k ok, ops[k]? = some ok → k ≠ i → (done.setIfInBounds j true).getD k true = false → (∀ e ∈ ok.after, Region.binds md e = true → e.on ≠ i) → oi.apart ops ok = true := fun k ok hk hki hun hno => by
        refine hfree k ok hk hki ?_ hno
        by_cases hjk : j = k
        · subst hjk; exact hjun
        · rw [getD_set_ne true hjk] at hun; exact hun
      refine wpOp_mono (fun a' w' h3 => ⟨h3.2.1, ih (done.setIfInBounds j true) a' w' hfree' (ready_mono hr (Ne.symm hji)) h3.1 (h3.2.1.resolve_left hjL) ?_⟩) h2
      rw [Array.setIfInBounds_comm _ _ hji]
      exact h3.2.2

def waitsOnB (md : Region.Mode) (ops : Array Oper) (L i : Nat) : Bool := ((ops[L]?).map (·.after.any fun e => Region.binds md e && e.on == i)).getD false
theorem waitsOn_of {i : Nat} (h : waitsOnB md ops L i = true) : ∃ o, ops[L]? = some o ∧ ∃ e ∈ o.after, Region.binds md e = true ∧ e.on = i := by
  unfold waitsOnB at h
  cases ho : ops[L]? with
  | none => rw [ho] at h; simp at h
  | some o =>
    rw [ho] at h
    simp only [Option.map_some, Option.getD_some, Array.any_eq_true, Bool.and_eq_true, beq_iff_eq] at h
    obtain ⟨j, hj, hb, hon⟩ := h
    exact ⟨o, rfl, o.after[j], Array.getElem_mem hj, hb, hon⟩
theorem anyBut.takeW {i t : Nat} {v : Value} {n : Nat} {dn : Array Bool} {a : Act} {w : World} {oi : Oper} (hL : waitsOnB md ops L i = true) (hi : ops[i]? = some oi) (hd : oi.dst = some t) (hs : Region.noSelect ops = true) (hf : Region.free md ops dn i = true)
    (hr : (Region.ready md ops dn).contains i = true) (hQ : ∀ c a w, Q (.panic c) (a.put oi.dst v) w → Q (.panic c) a w) (hy : YieldsIf P ops S oi v a) (hS : S w)
    (h : anyBut P md ops Q S L n (dn.setIfInBounds i true) { a with tmps := a.tmps.setIfInBounds t v } w) : anyBut P md ops Q S L (n + 1) dn a w :=
  anyBut.firstW (waitsOn_of hL) hi (Region.noSelect_spec hs) hQ n dn a w (Region.free_spec hi hf) (by simpa using hr) hy hS (by rw [hd]; exact h)
end
end Go.Proofs.Ytjpmdjjihdicdaa
