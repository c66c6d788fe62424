/- Pieces of regions that are walked by hand. -/
import Derived.Test.YtbjjhnlifgbpmaaMe
import Derived.Test.YtbjjhnlifgbpmaaHd
import Derived.Great.BuildSlice
namespace Go.Proofs.Ytbjjhnlifgbpmaa
open Go Go.RowKit Go.Shelf

section
variable {P : Program} {ops : Array Oper} {Q : Exit → Act → World → Prop} {md : Region.Mode} {S : World → Prop} {L : Nat}
theorem anyBut.firstW {i : Nat} {oi : Oper} {v : Value} (hL : ∃ o, ops[L]? = some o ∧ ∃ e ∈ o.after, Region.binds md e = true ∧ e.on = i) (hi : ops[i]? = some oi) (hsel : ∀ (j : Nat) (o : Oper) cs b, ops[j]? = some o → o.op ≠ .select cs b)
    (hQ : ∀ c a w, Q (.panic c) (a.put oi.dst v) w → Q (.panic c) a w) : ∀ (n : Nat) (done : Array Bool) (a : Act) (w : World),
      (∀ j oj, ops[j]? = some oj → j ≠ i → done.getD j true = false → (∀ e ∈ oj.after, Region.binds md e = true → e.on ≠ i) → oi.apart ops oj = true) →
      i ∈ Region.ready md ops done → YieldsIf P ops S oi v a → S w → anyBut P md ops Q S L n (done.setIfInBounds i true) (a.put oi.dst v) w → anyBut P md ops Q S L (n + 1) done a w := by
  intro n
  induction n with
  | zero =>
    intro done a w _ hr hy hS H
    refine ⟨fun h => (by rw [h] at hr; cases hr), fun j hj => ?_⟩
    by_cases hji : j = i
    · subst hji; exact hy.wpOp hi hS ⟨.inr hS, H⟩
    · have := ready_mono hj hji
      rw [H.1] at this
      cases this
  | succ n ih =>
    intro done a w hfree hr hy hS H
    refine ⟨fun h => (by rw [h] at hr; cases hr), fun j hj => ?_⟩
    by_cases hji : j = i
    · subst hji; exact hy.wpOp hi hS ⟨.inr hS, H⟩
    · obtain ⟨hjun, oj, hoj, hall⟩ := mem_ready.1 hj
      have hiun := (mem_ready.1 hr).1
      have hnd : done.getD i false = false := by
        rcases Nat.lt_or_ge i done.size with h' | h'
        · simpa [h'] using hiun
        · simp [Array.getElem?_eq_none h'] at hiun
      have hnot : ∀ e ∈ oj.after, Region.binds md e = true → e.on ≠ i := fun e he hb heq => by
        have h1 := hall e he hb
        rw [heq, hnd] at h1
        cases h1
      have hjL : j ≠ L := by
        rintro rfl
        obtain ⟨o, ho, e, he, hb, hon⟩ := hL
        rw [hoj] at ho
        cases ho
        exact hnot e he hb hon
      have h2 := wpOp_putIf hoj (hfree j oj hoj hji hjun hnot) (fun cs b => hsel i oi cs b hi) (fun cs b => hsel j oj cs b hoj) hQ hy (H.2 j (ready_mono hj hji))
      have hfree' : ∀ k ok, ops[k]? = some ok → k ≠ i → (done.setIfInBounds j true).getD k true = false → (∀ e ∈ ok.after, Region.binds md e = true → e.on ≠ i) → oi.apart ops ok = true := fun k ok hk hki hun hno => by
        refine hfree k ok hk hki ?_ hno
        by_cases hjk : j = k
        · subst hjk; exact hjun
        · rw [getD_set_ne true hjk] at hun; exact hun
      refine wpOp_mono (fun a' w' h3 => ⟨h3.2.1, ih (done.setIfInBounds j true) a' w' hfree' (ready_mono hr (Ne.symm hji)) h3.1 (h3.2.1.resolve_left hjL) ?_⟩) h2
      rw [Array.setIfInBounds_comm _ _ hji]
      exact h3.2.2

def waitsOnB (md : Region.Mode) (ops : Array Oper) (L i : Nat) : Bool := ((ops[L]?).map (·.after.any fun e => Region.binds md e && e.on == i)).getD false
theorem waitsOn_of {i : Nat} (h : waitsOnB md ops L i = true) : ∃ o, ops[L]? = some o ∧ ∃ e ∈ o.after, Region.binds md e = true ∧ e.on = i := by
  unfold waitsOnB at h
  cases ho : ops[L]? with
  | none => rw [ho] at h; simp at h
  | some o =>
    rw [ho] at h
    simp only [Option.map_some, Option.getD_some, Array.any_eq_true, Bool.and_eq_true, beq_iff_eq] at h
    obtain ⟨j, hj, hb, hon⟩ := h
    exact ⟨o, rfl, o.after[j], Array.getElem_mem hj, hb, hon⟩
theorem anyBut.takeW {i t : Nat} {v : Value} {n : Nat} {dn : Array Bool} {a : Act} {w : World} {oi : Oper} (hL : waitsOnB md ops L i = true) (hi : ops[i]? = some oi) (hd : oi.dst = some t) (hs : Region.noSelect ops = true) (hf : Region.free md ops dn i = true)
    (hr : (Region.ready md ops dn).contains i = true) (hQ : ∀ c a w, Q (.panic c) (a.put oi.dst v) w → Q (.panic c) a w) (hy : YieldsIf P ops S oi v a) (hS : S w)
    (h : anyBut P md ops Q S L n (dn.setIfInBounds i true) { a with tmps := a.tmps.setIfInBounds t v } w) : anyBut P md ops Q S L (n + 1) dn a w :=
  anyBut.firstW (waitsOn_of hL) hi (Region.noSelect_spec hs) hQ n dn a w (Region.free_spec hi hf) (by simpa using hr) hy hS (by rw [hd]; exact h)
end

section
variable {P : Program} {ops : Array Oper} {Q : Exit → Act → World → Prop} {md : Region.Mode} {S : World → Prop} {L : Nat}
theorem anyBut.oneT {i t : Nat} {v : Value} {n : Nat} {dn : Array Bool} {a : Act} {w : World} {oi : Oper} (hr : Region.ready md ops dn = [i]) (hi : ops[i]? = some oi) (hd : oi.dst = some t) (hy : YieldsIf P ops S oi v a) (hS : S w)
    (h : anyBut P md ops Q S L n (dn.setIfInBounds i true) { a with tmps := a.tmps.setIfInBounds t v } w) : anyBut P md ops Q S L (n + 1) dn a w :=
  anyBut.all hr (by simp) fun j hj => by
    rw [List.mem_singleton] at hj
    subst hj
    exact hy.wpOp hi hS ⟨.inr hS, by rw [hd]; exact h⟩
end
section
variable {P : Program} {o : Oper} {a : Act} {w : World} {K : Act → World → Prop} {Q : Exit → Act → World → Prop}
theorem wp_store_one (t : TypeId) (x y : Operand) (ho : o.op = .store t x y) {b k : Nat} {v : Value} (hx : a.eval x = .pointer (some ⟨b, k, none⟩)) (hv : a.eval y = v) (h1 : v.cells = #[v]) (hone : v.oneCell' = true)
    (hi : (P.info? t).map (·.size) = some 1) (hc : (w.cell? ⟨b, k, none⟩).isSome = true) (hf : w.frozen? ⟨b, k, none⟩ = false) (h : K (a.put o.dst undef) (w.setCell ⟨b, k, none⟩ v)) : o.wp P a w K Q := by
  obtain ⟨u, hu⟩ := Option.isSome_iff_exists.1 hc
  cases hq : P.info? t with
  | none => rw [hq] at hi; cases hi
  | some i =>
    rw [hq] at hi
    have hi2 : i.size = 1 := by simpa using hi
    unfold Oper.wp execOp
    simp only [ho, hx, hv, Instr.storeAt, Instr.sureAddr, Sem.run_bind, Sem.run_pure, Result.andThen_ok, storeVar, h1, sizeOf]
    rw [run_typeInfo _ hq]
    have hst : (storeCells ⟨b, k, none⟩ [v]).run P w = .ok () (w.setCell ⟨b, k, none⟩ v) := by
      simp only [storeCells, Sem.run_bind, Addr.add_mid, Nat.add_zero]
      rw [run_store P w _ v _ hone, hu]
      simp [hf]
    simp only [Result.andThen_ok, hi2, List.size_toArray, List.length_cons, List.length_nil, Nat.zero_add, ne_eq, not_true_eq_false, if_false, hst, Oper.upon]
    exact h


theorem wp_oneI (x : Operand) (ho : o.op = .buildSlice 37 1 #[(0, x)]) (p : Int) (hx : a.eval x = .int .i64 p) (dt : Nat) (hd : o.dst = some dt)
    (h : K { a with tmps := a.tmps.setIfInBounds dt (.slice (some ⟨w.heap.size, 0, none⟩) 1 1) } (w.alloc (.cells #[.int .i64 p] 3))) : o.wp Try.prog a w K Q := by
  obtain ⟨i0, hi0, hz0, hz1, hz2⟩ := info_parts infoI
  refine wp_buildSlice 37 3 1 #[(0, x)] ho #[.int .i64 p] i0 _ Try.underlying37 hi0 hz0 (by rw [hz1]; omega) (by rw [hz1]; omega) ?_ (by rw [hd]; exact h)
  simp only [List.map_toArray, List.map_cons, List.map_nil, hx, hz1]
  simp only [Instr.fill, Value.cells]
  have e1 : Array.range (1 * 1) = #[0] := Array.ext (by simp) fun i h1 h2 => by simp at h1 h2; subst h2; simp
  rw [e1]
  simp
theorem wp_appI (s x : Operand) (ho : o.op = .call { callee := .builtin .append, args := #[s, x], argTypes := #[37, 37] }) (base : Nat) (A : Option Addr) (n c : Nat) (l : List Int) (p : Int) (B : Nat) (hs : a.eval s = .slice A n c)
    (hown : w.ownsRow base 3 1 (.slice A n c) n (l.flatMap encI)) (hxe : a.eval x = .slice (some ⟨B, 0, none⟩) 1 1) (hx : w.cell? ⟨B, 0, none⟩ = some (.int .i64 p)) (hn : n ≤ 1000000000000) (hbase : base ≤ w.heap.size) (dt : Nat) (hd : o.dst = some dt)
    (h : ∀ A' c' w', w'.ownsRow base 3 1 (.slice A' (n + 1) c') (n + 1) ((l ++ [p]).flatMap encI) → w.grownBy w' (A.map (·.block)) → (A'.map (·.block) = A.map (·.block) ∨ A' = some ⟨w.heap.size, 0, none⟩) →
      K { a with tmps := a.tmps.setIfInBounds dt (.slice A' (n + 1) c') } w') : o.wp Try.prog a w K Q := by
  obtain ⟨A', c', w', hr, h2, h3, h4⟩ := run_appI (w := w) base o.type A n c l p B hown hx hn hbase
  unfold Oper.wp execOp
  simp only [ho, resolve, invoke, builtin, Sem.run_bind, Sem.run_pure, Result.andThen_ok, List.map_toArray, List.map_cons, List.map_nil, hs, hxe, hr, Oper.upon, Act.put, hd]
  exact h A' c' w' h2 h3 h4
end
end Go.Proofs.Ytbjjhnlifgbpmaa
