/- disk: parts of it turned: its texts, its map of what is unreadable, its versions cleared. -/
import Derived.Test.YteaenhmiomoocaaKeys
namespace Go.Proofs.Yteaenhmiomoocaa
open Go.RowKit Go.Shelf Go.Maps Go.MapKept

section
variable {α : Type} {enc : α → Value} {P : Program} {K t e : TypeId} {w : World} {b n : Nat} {m : List (Int × α)}
theorem IM.clear (h : IM P K w b n enc m) (ht : P.underlying t = some (.map K e)) (ty : TypeId) :
    ∃ w', (Builtin.clear_ #[t] ty #[.map (some b)]).run P w = .ok (.tuple #[]) w' ∧ IM P K w' b 0 enc [] ∧ w.grownBy w' (some b) := by
  obtain ⟨es, clock, hb, _⟩ := h
  have hlt := (Array.getElem?_eq_some_iff.1 hb).1
  refine ⟨{ w with heap := w.heap.setIfInBounds b (.map #[] clock) }, ?_, ⟨#[], clock, by simp [hlt], ⟨by simp, stamped_empty clock, by simp⟩, Nat.le_refl _, rfl⟩, ⟨rfl, rfl, rfl, by simp, fun i hi hne => ?_⟩⟩
  · simp [Builtin.clear_, run_underlying ht, Go.MapKept.run_getObj_map hb, Go.MapKept.run_setObj_map _ hb, Result.andThen]
  · show (w.heap.setIfInBounds b _)[i]? = _
    rw [Array.getElem?_setIfInBounds_ne (by rintro rfl; exact hne rfl)]
variable {ops : Array Oper} {rest : List Oper} {o : Oper} {a : Act} {Q : Exit → Act → World → Prop}
theorem wpList_clear_im (hg : o.guard = none) (x : Operand) (t : TypeId) (hop : o.op = Op.call { callee := Callee.builtin Builtin.clear, args := #[x], argTypes := #[t] }) (ht : P.underlying t = some (.map K e))
    (b n : Nat) (hx : a.eval x = .map (some b)) (h : IM P K w b n enc m)
    (hK' : ∀ w', IM P K w' b 0 enc [] → w.grownBy w' (some b) → wpList P ops Q rest (a.put o.dst (.tuple #[])) w') : wpList P ops Q (o :: rest) a w := by
  refine wpList_plain hg fun K' hKK => ?_
  obtain ⟨w', hrun, r1, r2⟩ := h.clear ht o.type
  unfold Oper.wp
  simp [execOp, hop, resolve, invoke, builtin, hx, hrun, Result.andThen]
  exact hKK _ _ (hK' w' r1 r2)
theorem wpStill_load_mid {QS : Act → Prop} (hgd : o.guard = none) (ty : TypeId) (x : Operand) (ho : o.op = .load ty x)
    (b off : Nat) (vs : List Value) (hx : a.eval x = .pointer (some ⟨b, off, none⟩)) (hB : w.rangeAt b off vs) (d : TypeDesc) (hu : P.underlying ty = some d) (hd : d.isRow = true) (hi : (P.info? ty).map (·.size) = some vs.length)
    (h : wpStill P ops w QS rest (a.put o.dst (.agg vs.toArray))) : wpStill P ops w QS (o :: rest) a := by
  refine wpStill_step fun K hK => ?_
  have hw : Region.wanted o (yielded ops a.tmps) = true := by simp [Region.wanted, hgd]
  rw [if_pos hw]
  unfold Oper.still
  have hrun : (execOp a.eval o).run P w = .ok (.value (.agg vs.toArray)) w := by
    unfold execOp
    simp only [ho, hx, Instr.loadAt, Instr.sureAddr, Sem.run_bind, Sem.run_pure, Result.andThen_ok, run_loadVar_mid w b off ty vs d hB hu hd hi]
  rw [hrun, Oper.stillUpon_value]
  exact hK _ h
end

theorem Blk.setMid {w : World} {b o : Nat} {vs us : List Value} (h : Blk w b vs) (hl : o + us.length ≤ vs.length) : Blk (w.setCells b o us) b (vs.take o ++ us ++ vs.drop (o + us.length)) := by
  refine ⟨fun j => ?_, fun j => by rw [World.frozen?_setCells]; exact h.unf j, by rw [setCells_size]; exact h.lt⟩
  have hto : (vs.take o).length = o := by rw [List.length_take]; omega
  by_cases h1 : o ≤ j ∧ j < o + us.length
  · have := World.cell?_setCells_in b us o w (fun i hi => by rw [h.cell, List.getElem?_eq_getElem (by omega)]; rfl) (j - o) (by omega)
    rw [show o + (j - o) = j from by omega] at this
    rw [this, List.append_assoc, List.getElem?_append_right (by omega), hto, List.getElem?_append_left (by omega), List.getElem?_eq_getElem (by omega)]
  · rw [World.cell?_setCells_out b us o w ⟨b, j, none⟩ (fun _ _ => by simp; omega), h.cell j]
    by_cases h2 : j < o
    · rw [List.append_assoc, List.getElem?_append_left (by omega), List.getElem?_take_of_lt h2]
    · rw [List.getElem?_append_right (by simp; omega), List.getElem?_drop]
      congr 1
      simp; omega
theorem flat_set : ∀ (ts : List Tx), (∀ t ∈ ts, t.length = 256) → ∀ k, k < ts.length → ∀ t : Tx, t.length = 256 → (ts.set k t).flatMap tC = (ts.flatMap tC).take (k * 256) ++ tC t ++ (ts.flatMap tC).drop (k * 256 + (tC t).length)
  | x :: ts, ht, 0, _, t, h => by
    have h1 := ht x (List.mem_cons_self ..)
    have : (tC x).length = 256 := by rw [tC_length, h1]
    rw [List.set_cons_zero, List.flatMap_cons, List.flatMap_cons, Nat.zero_mul, List.take_zero, List.nil_append, Nat.zero_add, tC_length, h, List.drop_append_of_le_length (by omega), List.drop_of_length_le (by omega), List.nil_append]
  | x :: ts, ht, k + 1, hk, t, h => by
    have h1 := ht x (List.mem_cons_self ..)
    have h2 : (tC x).length = 256 := by rw [tC_length, h1]
    rw [List.set_cons_succ, List.flatMap_cons, List.flatMap_cons, flat_set ts (fun y hy => ht y (List.mem_cons_of_mem _ hy)) k (by simpa using hk) t h,
      List.take_append, List.drop_append, h2, show (tC x).take ((k + 1) * 256) = tC x from List.take_of_length_le (by omega), show (tC x).drop ((k + 1) * 256 + (tC t).length) = [] from List.drop_of_length_le (by omega), List.nil_append, show (k + 1) * 256 - 256 = k * 256 from by omega, show (k + 1) * 256 + (tC t).length - 256 = k * 256 + (tC t).length from by omega]
    simp only [List.append_assoc]

section
variable {w w' : World} {h nb : Nat} {us : List (Int × Value)} {d : Dsk}
theorem DkAt.keep1 (D : DkAt w h nb us d) {b : Nat} (hb : h ≤ b ∧ b ≤ h + 3) (hg : w.grownBy w' (some b)) :
    (∀ c, (c ≠ b ∧ h ≤ c ∧ c ≤ h + 3) → w'.heap[c]? = w.heap[c]?) ∧ ∀ i v, lookI us i = some v → ∃ l A c, lookI d.vs i = some l ∧ v = .slice A l.length c ∧ w'.ownsRow (h + 4) 58 256 v l.length (l.flatMap tC) := by
  refine ⟨fun c hc => hg.block c (by have := D.lt; omega) (by simpa using hc.1), fun i v hv => ?_⟩
  obtain ⟨l, A, c, h1, h2, h3⟩ := D.rows i v hv
  exact ⟨l, A, c, h1, h2, ownsRow_keep h3 fun g hgg => hg.block g (D.base hv hgg).2 (by have := (D.base hv hgg).1; simp; omega)⟩
theorem DkAt.turnB (D : DkAt w h nb us d) (hg : w.grownBy w' (some (h + 1))) {nb' : Nat} {bad' : List (Int × Bool)} (hn : nb ≤ nb') (hM : IM Try.prog 3 w' (h + 1) nb' Value.bool bad') : DkAt w' h nb' us { d with bad := bad' } := by
  obtain ⟨k1, k2⟩ := D.keep1 (by omega) hg
  exact ⟨D.box.of_heap (k1 _ (by omega)), D.txt.of_heap (k1 _ (by omega)), hM, (D.ver.of_heap (k1 _ (by omega))).mono hn, D.keys, k2, D.sep⟩
theorem DkAt.turnT (D : DkAt w h nb us d) (hg : w.grownBy w' (some h)) {ts' : List Tx} (hl : ts'.length = d.ts.length) (hB : Blk w' h (ts'.flatMap tC)) : DkAt w' h nb us { d with ts := ts' } := by
  obtain ⟨k1, k2⟩ := D.keep1 (by omega) hg
  refine ⟨?_, hB, D.bad.of_heap (k1 _ (by omega)), D.ver.of_heap (k1 _ (by omega)), D.keys, k2, D.sep⟩
  rw [show ({ d with ts := ts' } : Dsk).ts.length = d.ts.length from hl]
  exact D.box.of_heap (k1 _ (by omega))
theorem DkAt.turnV (D : DkAt w h nb us d) (hg : w.grownBy w' (some (h + 2))) (hM : IM Try.prog 3 w' (h + 2) 0 (fun v : Value => v) []) : DkAt w' h nb [] { d with vs := [] } := by
  obtain ⟨k1, k2⟩ := D.keep1 (by omega) hg
  exact ⟨D.box.of_heap (k1 _ (by omega)), D.txt.of_heap (k1 _ (by omega)), D.bad.of_heap (k1 _ (by omega)), hM.mono (Nat.zero_le _), rfl, fun i v hv => by simp [lookI] at hv, fun i j v v' _ h1 => by simp [lookI] at h1⟩
theorem DkAt.setT (D : DkAt w h nb us d) (ht : ∀ t ∈ d.ts, t.length = 256) (k : Nat) (hk : k < d.ts.length) (t : Tx) (hl : t.length = 256) : DkAt (w.setCells h (k * 256) (tC t)) h nb us { d with ts := d.ts.set k t } := by
  refine D.turnT (gr_setCells _ _ _ (World.grownBy.refl _ _)) (by simp) ?_
  rw [flat_set d.ts ht k hk t hl]
  exact D.txt.setMid (by rw [flat_len _ ht, tC_length, hl]; omega)
theorem DkAt.thereT (D : DkAt w h nb us d) (ht : ∀ t ∈ d.ts, t.length = 256) (k : Nat) (hk : k < d.ts.length) : w.there h (k * 256) 256 := fun j hj => by
  have hl := flat_len _ ht
  exact ⟨by rw [D.txt.cell, List.getElem?_eq_getElem (by omega)]; rfl, D.txt.unf _⟩
theorem FrD.grown {w0 : World} {us0 : List (Int × Value)} (F : FrD w0 w h us0 us) (_hl : h + 3 < w0.heap.size) {b : Nat} (hb : h ≤ b ∧ b ≤ h + 3) (hg : w.grownBy w' (some b)) : FrD w0 w' h us0 us :=
  ⟨hg.os.trans F.os, hg.tape.trans F.tape, hg.output.trans F.output, Nat.le_trans F.size hg.size, fun c hc hh hu => (hg.block c (Nat.lt_of_lt_of_le hc F.size) (by simp; omega)).trans (F.block c hc hh hu), F.sub⟩
theorem FrD.none {w0 : World} {us0 : List (Int × Value)} (F : FrD w0 w h us0 us) : FrD w0 w h us0 [] := ⟨F.os, F.tape, F.output, F.size, F.block, fun i v g hv => by simp [lookI] at hv⟩
end
end Go.Proofs.Yteaenhmiomoocaa
