/- Pieces of regions that are walked by hand: an append of one to a row of the call's own, a store behind it. -/
import Derived.Test.YtejjiiakficafaaLg
import Derived.Test.YtejjiiakficafaaHd
import Derived.Great.BuildSlice
namespace Go.Proofs.Ytejjiiakficafaa
open Go Go.RowKit Go.Shelf

section
variable {P : Program} {ops : Array Oper} {Q : Exit → Act → World → Prop} {md : Region.Mode} {S : World → Prop} {L : Nat}
theorem anyBut.firstW {i : Nat} {oi : Oper} {v : Value} (hL : ∃ o, ops[L]? = some o ∧ ∃ e ∈ o.after, Region.binds md e = true ∧ e.on = i) (hi : ops[i]? = some oi) (hsel : ∀ (j : Nat) (o : Oper) cs b, ops[j]? = some o → o.op ≠ .select cs b)
    (hQ : ∀ c a w, Q (.panic c) (a.put oi.dst v) w → Q (.panic c) a w) : ∀ (n : Nat) (done : Array Bool) (a : Act) (w : World),
      (∀ j oj, ops[j]? = some oj → j ≠ i → done.getD j true = false → (∀ e ∈ oj.after, Region.binds md e = true → e.on ≠ i) → oi.apart ops oj = true) →
      i ∈ Region.ready md ops done → YieldsIf P ops S oi v a → S w → anyBut P md ops Q S L n (done.setIfInBounds i true) (a.put oi.dst v) w → anyBut P md ops Q S L (n + 1) done a w := by
  intro n
  induction n with
  | zero =>
    intro done a w _ hr hy hS H
    refine ⟨fun h => (by rw [h] at hr; cases hr), fun j hj => ?_⟩
    by_cases hji : j = i
    · subst hji; exact hy.wpOp hi hS ⟨.inr hS, H⟩
    · have := ready_mono hj hji
      rw [H.1] at this
      cases this
  | succ n ih =>
    intro done a w hfree hr hy hS H
    refine ⟨fun h => (by rw [h] at hr; cases hr), fun j hj => ?_⟩
    by_cases hji : j = i
    · subst hji; exact hy.wpOp hi hS ⟨.inr hS, H⟩
    · obtain ⟨hjun, oj, hoj, hall⟩ := mem_ready.1 hj
      have hiun := (mem_ready.1 hr).1
      have hnd : done.getD i false = false := by
        rcases Nat.lt_or_ge i done.size with h' | h'
        · simpa [h'] using hiun
        · simp [Array.getElem?_eq_none h'] at hiun
      have hnot : ∀ e ∈ oj.after, Region.binds md e = true → e.on ≠ i := fun e he hb heq => by
        have h1 := hall e he hb
        rw [heq, hnd] at h1
        cases h1
      have hjL : j ≠ L := by
        rintro rfl
        obtain ⟨o, ho, e, he, hb, hon⟩ := hL
        rw [hoj] at ho
        cases ho
        exact hnot e he hb hon
      have h2 := wpOp_putIf hoj (hfree j oj hoj hji hjun hnot) (fun cs b => hsel i oi cs b hi) (fun cs b => hsel j oj cs b hoj) hQ hy (H.2 j (ready_mono hj hji))
      have hfree' : ∀ k ok, ops[k]? = some ok → k ≠ i → (done.setIfInBounds j true).getD k true = false → (∀ e ∈ ok.after, Region.binds md e = true → e.on ≠ i) → oi.apart ops ok = true := fun k ok hk hki hun hno => by
        refine hfree k ok hk hki ?_ hno
        by_cases hjk : j = k
        · subst hjk; exact hjun
        · rw [getD_set_ne true hjk] at hun; exact hun
      refine wpOp_mono (fun a' w' h3 => ⟨h3.2.1, ih (done.setIfInBounds j true) a' w' hfree' (ready_mono hr (Ne.symm hji)) h3.1 (h3.2.1.resolve_left hjL) ?_⟩) h2
      rw [Array.setIfInBounds_comm _ _ hji]
      exact h3.2.2

def waitsOnB (md : Region.Mode) (ops : Array Oper) (L i : Nat) : Bool := ((ops[L]?).map (·.after.any fun e => Region.binds md e && e.on == i)).getD false
theorem waitsOn_of {i : Nat} (h : waitsOnB md ops L i = true) : ∃ o, ops[L]? = some o ∧ ∃ e ∈ o.after, Region.binds md e = true ∧ e.on = i := by
  unfold waitsOnB at h
  cases ho : ops[L]? with
  | none => rw [ho] at h; simp at h
  | some o =>
    rw [ho] at h
    simp only [Option.map_some, Option.getD_some, Array.any_eq_true, Bool.and_eq_true, beq_iff_eq] at h
    obtain ⟨j, hj, hb, hon⟩ := h
    exact ⟨o, rfl, o.after[j], Array.getElem_mem hj, hb, hon⟩
theorem anyBut.takeW {i t : Nat} {v : Value} {n : Nat} {dn : Array Bool} {a : Act} {w : World} {oi : Oper} (hL : waitsOnB md ops L i = true) (hi : ops[i]? = some oi) (hd : oi.dst = some t) (hs : Region.noSelect ops = true) (hf : Region.free md ops dn i = true)
    (hr : (Region.ready md ops dn).contains i = true) (hQ : ∀ c a w, Q (.panic c) (a.put oi.dst v) w → Q (.panic c) a w) (hy : YieldsIf P ops S oi v a) (hS : S w)
    (h : anyBut P md ops Q S L n (dn.setIfInBounds i true) { a with tmps := a.tmps.setIfInBounds t v } w) : anyBut P md ops Q S L (n + 1) dn a w :=
  anyBut.firstW (waitsOn_of hL) hi (Region.noSelect_spec hs) hQ n dn a w (Region.free_spec hi hf) (by simpa using hr) hy hS (by rw [hd]; exact h)
end

section
variable {P : Program} {ops : Array Oper} {Q : Exit → Act → World → Prop} {md : Region.Mode} {S : World → Prop} {L : Nat}
theorem anyBut.oneT {i t : Nat} {v : Value} {n : Nat} {dn : Array Bool} {a : Act} {w : World} {oi : Oper} (hr : Region.ready md ops dn = [i]) (hi : ops[i]? = some oi) (hd : oi.dst = some t) (hy : YieldsIf P ops S oi v a) (hS : S w)
    (h : anyBut P md ops Q S L n (dn.setIfInBounds i true) { a with tmps := a.tmps.setIfInBounds t v } w) : anyBut P md ops Q S L (n + 1) dn a w :=
  anyBut.all hr (by simp) fun j hj => by
    rw [List.mem_singleton] at hj
    subst hj
    exact hy.wpOp hi hS ⟨.inr hS, by rw [hd]; exact h⟩
end
section
variable {P : Program} {o : Oper} {a : Act} {w : World} {K : Act → World → Prop} {Q : Exit → Act → World → Prop}
theorem wp_store_one (t : TypeId) (x y : Operand) (ho : o.op = .store t x y) {b k : Nat} {v : Value} (hx : a.eval x = .pointer (some ⟨b, k, none⟩)) (hv : a.eval y = v) (h1 : v.cells = #[v]) (hone : v.oneCell' = true)
    (hi : (P.info? t).map (·.size) = some 1) (hc : (w.cell? ⟨b, k, none⟩).isSome = true) (hf : w.frozen? ⟨b, k, none⟩ = false) (h : K (a.put o.dst undef) (w.setCell ⟨b, k, none⟩ v)) : o.wp P a w K Q := by
  obtain ⟨u, hu⟩ := Option.isSome_iff_exists.1 hc
  cases hq : P.info? t with
  | none => rw [hq] at hi; cases hi
  | some i =>
    rw [hq] at hi
    have hi2 : i.size = 1 := by simpa using hi
    unfold Oper.wp execOp
    simp only [ho, hx, hv, Instr.storeAt, Instr.sureAddr, Sem.run_bind, Sem.run_pure, Result.andThen_ok, storeVar, h1, sizeOf]
    rw [run_typeInfo _ hq]
    have hst : (storeCells ⟨b, k, none⟩ [v]).run P w = .ok () (w.setCell ⟨b, k, none⟩ v) := by
      simp only [storeCells, Sem.run_bind, Addr.add_mid, Nat.add_zero]
      rw [run_store P w _ v _ hone, hu]
      simp [hf]
    simp only [Result.andThen_ok, hi2, List.size_toArray, List.length_cons, List.length_nil, Nat.zero_add, ne_eq, not_true_eq_false, if_false, hst, Oper.upon]
    exact h


theorem wp_store_go (t : TypeId) (x y : Operand) (ho : o.op = .store t x y) (hd : o.dst = none) {b k : Nat} {v : Value} (hx : a.eval x = .pointer (some ⟨b, k, none⟩)) (hv : a.eval y = v) (h1 : v.cells = #[v]) (hone : v.oneCell' = true)
    (hi : (P.info? t).map (·.size) = some 1) (hc : (w.cell? ⟨b, k, none⟩).isSome = true) (hf : w.frozen? ⟨b, k, none⟩ = false) (h : K a (w.setCell ⟨b, k, none⟩ v)) : o.wp P a w K Q :=
  wp_store_one t x y ho hx hv h1 hone hi hc hf (by rw [hd]; exact h)
theorem wp_store_agg (ty : TypeId) (x y : Operand) (ho : o.op = .store ty x y) (hd : o.dst = none) (b : Nat) (vs us : List Value) (hx : a.eval x = .pointer (some ⟨b, 0, none⟩)) (hy : a.eval y = .agg us.toArray) (hB : Blk w b vs) (hl : us.length = vs.length)
    (hi : (P.info? ty).map (·.size) = some us.length) (h1 : ∀ v ∈ us, v.oneCell' = true) (h : ∀ w', Blk w' b us → w.grownBy w' (some b) → w'.heap.size = w.heap.size → K a w') : o.wp P a w K Q :=
  wp_store_mid ty x y ho b 0 us.toArray hx hy (by rw [List.size_toArray, hl]; exact hB.there) (by rw [List.size_toArray]; exact hi) (all_oneCell_toArray h1)
    (by rw [hd]; exact h _ (by simpa using hB.setAll hl) (gr_setCells _ _ _ (World.grownBy.refl _ _)) (setCells_size _ _ _ _))
end
section
variable {o : Oper} {a : Act} {w : World} {K : Act → World → Prop} {Q : Exit → Act → World → Prop}
theorem wp_oneT (x : Operand) (ho : o.op = .buildSlice 58 1 #[(0, x)]) (v0 v1 : Value) (hx : a.eval x = .agg #[v0, v1]) (h1 : #[v0, v1].all (·.oneCell') = true) (dt : Nat) (hd : o.dst = some dt)
    (h : K { a with tmps := a.tmps.setIfInBounds dt (.slice (some ⟨w.heap.size, 0, none⟩) 1 1) } (w.alloc (.cells #[v0, v1] 82))) : o.wp Try.prog a w K Q := by
  obtain ⟨i0, hi0, hz0, hz1, hz2⟩ := info_parts info82
  refine wp_buildSlice 58 82 1 #[(0, x)] ho #[v0, v1] i0 _ Try.underlying58 hi0 hz0 (by rw [hz1]; omega) (by rw [hz1]; omega) ?_ (by rw [hd]; exact h)
  simp only [List.map_toArray, List.map_cons, List.map_nil, hx, hz1]
  simp only [Instr.fill, Value.cells]
  have e1 : Array.range (1 * 2) = #[0, 1] := by rfl
  rw [e1]
  simp
theorem wp_oneG (x : Operand) (ho : o.op = .buildSlice 60 1 #[(0, x)]) (v0 v1 v2 : Value) (hx : a.eval x = .agg #[v0, v1, v2]) (h1 : #[v0, v1, v2].all (·.oneCell') = true) (dt : Nat) (hd : o.dst = some dt)
    (h : K { a with tmps := a.tmps.setIfInBounds dt (.slice (some ⟨w.heap.size, 0, none⟩) 1 1) } (w.alloc (.cells #[v0, v1, v2] 79))) : o.wp Try.prog a w K Q := by
  obtain ⟨i0, hi0, hz0, hz1, hz2⟩ := info_parts info79
  refine wp_buildSlice 60 79 1 #[(0, x)] ho #[v0, v1, v2] i0 _ Try.underlying60 hi0 hz0 (by rw [hz1]; omega) (by rw [hz1]; omega) ?_ (by rw [hd]; exact h)
  simp only [List.map_toArray, List.map_cons, List.map_nil, hx, hz1]
  simp only [Instr.fill, Value.cells]
  have e1 : Array.range (1 * 3) = #[0, 1, 2] := by rfl
  rw [e1]
  simp
theorem wp_oneR (x : Operand) (ho : o.op = .buildSlice 46 1 #[(0, x)]) (v0 v1 v2 v3 v4 v5 : Value) (hx : a.eval x = .agg #[v0, v1, v2, v3, v4, v5]) (h1 : #[v0, v1, v2, v3, v4, v5].all (·.oneCell') = true) (dt : Nat) (hd : o.dst = some dt)
    (h : K { a with tmps := a.tmps.setIfInBounds dt (.slice (some ⟨w.heap.size, 0, none⟩) 1 1) } (w.alloc (.cells #[v0, v1, v2, v3, v4, v5] 51))) : o.wp Try.prog a w K Q := by
  obtain ⟨i0, hi0, hz0, hz1, hz2⟩ := info_parts info51
  refine wp_buildSlice 46 51 1 #[(0, x)] ho #[v0, v1, v2, v3, v4, v5] i0 _ Try.underlying46 hi0 hz0 (by rw [hz1]; omega) (by rw [hz1]; omega) ?_ (by rw [hd]; exact h)
  simp only [List.map_toArray, List.map_cons, List.map_nil, hx, hz1]
  simp only [Instr.fill, Value.cells]
  have e1 : Array.range (1 * 6) = #[0, 1, 2, 3, 4, 5] := by rfl
  rw [e1]
  simp

theorem wp_app1 {P : Program} (s x : Operand) (t : TypeId) (ho : o.op = .call { callee := .builtin .append, args := #[s, x], argTypes := #[t, t] })
    (base : Nat) (e : TypeId) (i : TypeInfo) (z : Value) (size bytes : Nat) (ht : P.underlying t = some (.slice e)) (hi : P.info? e = some i) (hz : i.zero = some z)
    (hsize : i.size = size) (hby : i.bytes = bytes) (hzs : z.cells.size = size) (hsz : 0 < size) (A : Option Addr) (n c : Nat) (xs : List Value) (hs : a.eval s = .slice A n c) (hown : w.ownsRow base e size (.slice A n c) n xs)
    (B : Nat) (news : List Value) (hxe : a.eval x = .slice (some ⟨B, 0, none⟩) 1 1) (hl : news.length = 1 * size) (hx : ∀ j u, news[j]? = some u → w.cell? ⟨B, j, none⟩ = some u) (h1 : ∀ u ∈ news, u.oneCell' = true)
    (h63 : n + 1 ≤ maxLen) (hbytes : (n + 1) * bytes ≤ 140737488355328) (hbase : base ≤ w.heap.size) (dt : Nat) (hd : o.dst = some dt)
    (h : ∀ A' c' w', w'.ownsRow base e size (.slice A' (n + 1) c') (n + 1) (xs ++ news) → w.grownBy w' (Value.slice A n c).ownBlock → (A' = A ∨ A' = some ⟨w.heap.size, 0, none⟩) → K { a with tmps := a.tmps.setIfInBounds dt (.slice A' (n + 1) c') } w') : o.wp P a w K Q := by
  obtain ⟨v', w', hr, h2, h3, _, h4⟩ := run_append_own_at (P := P) w base t o.type e i z size bytes ht hi hz hsize hby hzs hsz (.slice A n c) n xs hown ⟨B, 0, none⟩ 1 1 news hl (fun j u hu => by rw [Addr.add_mid, Nat.zero_add]; exact hx j u hu) h1 h63 hbytes hbase
  obtain ⟨A', c', rfl, _⟩ := ownsRow_tells h2
  unfold Oper.wp execOp
  simp only [ho, resolve, invoke, builtin, Sem.run_bind, Sem.run_pure, Result.andThen_ok, List.map_toArray, List.map_cons, List.map_nil, hs, hxe, hr, Oper.upon, Act.put, hd]
  refine h A' c' w' h2 h3 ?_
  rcases h4 with h4 | h4
  · refine .inl ?_
    cases hA : A with
    | none =>
      cases hA' : A' with
      | none => rfl
      | some a' =>
        rw [hA, hA'] at h4
        simp [Value.ownBlock] at h4
    | some a0 =>
      have e1 := own_at hown (g := a0.block) (by rw [hA]; rfl)
      rw [hA] at e1 h4
      have e2 := own_at h2 (g := a0.block) (by rw [h4]; rfl)
      rw [e2, e1]
  · exact .inr (own_at h2 h4)
end
end Go.Proofs.Ytejjiiakficafaa
