/- Maps keyed by whole numbers, their elements of whatever make: a block that reads as a sorted list of pairs. Over any program. -/
import Derived.Test.YtejjiiakficafaaBase
import Derived.Maps.Ext
import Derived.StillTailTactics
namespace Go.Proofs.Ytejjiiakficafaa
open Go.RowKit Go.Maps

theorem beqD (a b : Int) : (a == b) = decide (a = b) := by rw [Bool.eq_iff_iff]; simp
theorem wf64 {k : Int} (hk : -9223372036854775808 ≤ k ∧ k ≤ 9223372036854775807) : (Lit.int .i64 k).wf = true := by
  have h1 : IntKind.min .i64 = -9223372036854775808 := by decide
  have h2 : IntKind.max .i64 = 9223372036854775807 := by decide
  simp only [Lit.wf, h1, h2]; simp; omega
/-- An element reads as itself. -/
def holdR (v : Value) : Option (DataW Value × List MemPlace) := some (.held v, [])

def imD {α : Type} (enc : α → Value) (m : List (Int × α)) : DataW Value := .map (m.map fun p => (Lit.int .i64 p.1, DataW.held (enc p.2)))

/-- Block b of w is a map of at most n entries, its keys of type K, that reads as m. -/
def IM {α : Type} (P : Program) (K : TypeId) (w : World) (b n : Nat) (enc : α → Value) (m : List (Int × α)) : Prop := w.ownsMap P K holdR b n (imD enc m)

def lookI {α : Type} (m : List (Int × α)) (k : Int) : Option α := (m.find? fun p => p.1 == k).map (·.2)
def insI {α : Type} (x : Int × α) : List (Int × α) → List (Int × α)
  | [] => [x]
  | y :: r => if x.1 < y.1 then x :: y :: r else y :: insI x r
def delI {α : Type} (m : List (Int × α)) (k : Int) : List (Int × α) := m.filter fun p => !(p.1 == k)
def putI {α : Type} (m : List (Int × α)) (k : Int) (v : α) : List (Int × α) := insI (k, v) (delI m k)

section
variable {α : Type} {enc : α → Value}
theorem imD_insert (x : Int × α) : ∀ l : List (Int × α), DataW.insert (Lit.int .i64 x.1, DataW.held (H := Value) (enc x.2)) (l.map fun p => (Lit.int .i64 p.1, DataW.held (enc p.2))) = (insI x l).map fun p => (Lit.int .i64 p.1, DataW.held (enc p.2))
  | [] => rfl
  | y :: r => by
    simp only [List.map_cons, DataW.insert, insI, Lit.before, decide_eq_true_eq]
    split
    · rfl
    · rw [imD_insert x r]; rfl
theorem imD_filter (k : Int) (l : List (Int × α)) : (l.map fun p => (Lit.int .i64 p.1, DataW.held (H := Value) (enc p.2))).filter (fun p => !p.1.sameKey (.int .i64 k)) = (delI l k).map fun p => (Lit.int .i64 p.1, DataW.held (enc p.2)) := by
  unfold delI
  rw [List.filter_map]
  congr 1
  apply List.filter_congr
  intro x _
  simp [Lit.sameKey, beqD]
theorem imD_put (m : List (Int × α)) (k : Int) (v : α) : (imD enc m).put (.int .i64 k) (.held (enc v)) = imD enc (putI m k v) := by
  simp only [imD, DataW.put, putI, imD_filter, imD_insert (k, v)]
theorem imD_del (m : List (Int × α)) (k : Int) : (imD enc m).del (.int .i64 k) = imD enc (delI m k) := by
  simp only [imD, DataW.del, imD_filter]
theorem imD_at (m : List (Int × α)) (k : Int) (z : α) : (imD enc m).atKey (.int .i64 k) (.held (enc z)) = .held (enc ((lookI m k).getD z)) := by
  simp only [imD, DataW.atKey, lookI]
  rw [List.find?_map]
  have e : ((fun p : Lit × DataW Value => p.1.sameKey (.int .i64 k)) ∘ fun p : Int × α => (Lit.int .i64 p.1, DataW.held (H := Value) (enc p.2))) = fun p : Int × α => p.1 == k := by
    funext p; simp [Lit.sameKey, beqD]
  rw [e]
  cases List.find? (fun p : Int × α => p.1 == k) m <;> rfl
theorem imD_has (m : List (Int × α)) (k : Int) : Maps.has (imD enc m) (.int .i64 k) = (lookI m k).isSome := by
  simp only [imD, Maps.has_eq, lookI, List.any_map, Option.isSome_map, List.isSome_find?]
  congr 1
  funext p
  simp [Lit.sameKey, beqD]
theorem imD_size (m : List (Int × α)) : Maps.size (imD enc m) = m.length := by simp [imD, Maps.size_eq]

variable {P : Program} {K t e : TypeId} {w : World} {b n : Nat} {m : List (Int × α)}

theorem IM.mono (h : IM P K w b n enc m) {n' : Nat} (hn : n ≤ n') : IM P K w b n' enc m := World.ownsMap.mono h hn
theorem IM.lt (h : IM P K w b n enc m) : b < w.heap.size := World.ownsMap.lt h
theorem IM.of_heap {w' : World} (h : IM P K w b n enc m) (hh : w'.heap[b]? = w.heap[b]?) : IM P K w' b n enc m := by
  obtain ⟨es, clock, hb, F, hs, hD⟩ := h
  exact ⟨es, clock, hh.trans hb, F, hs, hD⟩
theorem IM.below {B : Nat} {w' : World} (h : IM P K w b n enc m) (hb : Below B w w') (hB : b < B) : IM P K w' b n enc m := h.of_heap (hb.block b hB)
theorem IM.alloc (h : IM P K w b n enc m) (o : Obj) : IM P K (w.alloc o) b n enc m := h.of_heap (Below.heap_alloc w o b h.lt)
theorem IM.drew (h : IM P K w b n enc m) : IM P K w.drew b n enc m := h
theorem IM.drewN (h : IM P K w b n enc m) (k : Nat) : IM P K (w.drewN k) b n enc m := h.of_heap rfl
theorem IM.ne_cell (h : IM P K w b n enc m) {a : Addr} {v : Value} (hc : w.cell? a = some v) : a.block ≠ b := by
  rintro rfl
  obtain ⟨es, clock, hb, _⟩ := h
  simp [World.cell?, hb] at hc
theorem IM.setCell (h : IM P K w b n enc m) (a : Addr) (v : Value) : IM P K (w.setCell a v) b n enc m := by
  by_cases e : a.block = b
  · refine h.of_heap ?_
    obtain ⟨es, clock, hb, _⟩ := h
    simp only [World.setCell, Array.getElem?_modify]
    rw [if_pos e, ← e] at *
    rw [e] at *
    simp [hb]
  · exact h.of_heap (Below.heap_setCell w a v b (Ne.symm e))
theorem IM.grown {w' : World} {row : Option Nat} (h : IM P K w b n enc m) (hg : w.grownBy w' row) (hne : some b ≠ row) : IM P K w' b n enc m := h.of_heap (hg.block b h.lt hne)
theorem IM.made (w : World) (P : Program) (K : TypeId) (enc : α → Value) : IM P K (w.alloc (.map #[] 0)) w.heap.size 0 enc [] := World.ownsMap_made w P K holdR

theorem IM.look_ok (h : IM P K w b n enc m) (hK : P.underlying K = some (.int .i64)) (ht : P.underlying t = some (.map K e)) {z : α} (hz : ∀ w : World, (zeroValue e).run P w = .ok (enc z) w)
    {k : Int} (hk : -9223372036854775808 ≤ k ∧ k ≤ 9223372036854775807) : (Instr.lookup t (.map (some b)) (.int .i64 k) true).run P w = .ok (.tuple #[enc ((lookI m k).getD z), .bool (lookI m k).isSome]) w := by
  have hw : (Lit.int .i64 k).wf = true := wf64 hk
  obtain ⟨v, ps, hrun, hv⟩ := World.ownsMap.look_ok h (int_keyed hK) ht (hz w) (zd := .held (enc z)) (zp := []) rfl (keyOf_int_mk hK hw)
  rw [imD_at, imD_has] at *
  simp only [holdR, Option.some.injEq, Prod.mk.injEq, DataW.held.injEq] at hv
  rw [hrun, hv.1]
theorem IM.look (h : IM P K w b n enc m) (hK : P.underlying K = some (.int .i64)) (ht : P.underlying t = some (.map K e)) {z : α} (hz : ∀ w : World, (zeroValue e).run P w = .ok (enc z) w)
    {k : Int} (hk : -9223372036854775808 ≤ k ∧ k ≤ 9223372036854775807) : (Instr.lookup t (.map (some b)) (.int .i64 k) false).run P w = .ok (enc ((lookI m k).getD z)) w := by
  have hw : (Lit.int .i64 k).wf = true := wf64 hk
  obtain ⟨v, ps, hrun, hv⟩ := World.ownsMap.lookup h (int_keyed hK) ht (hz w) (zd := .held (enc z)) (zp := []) rfl (keyOf_int_mk hK hw)
  rw [imD_at] at *
  simp only [holdR, Option.some.injEq, Prod.mk.injEq, DataW.held.injEq] at hv
  rw [hrun, hv.1]
theorem IM.store (h : IM P K w b n enc m) (hK : P.underlying K = some (.int .i64)) (ht : P.underlying t = some (.map K e)) (hn : n < maxLen) {k : Int} (hk : -9223372036854775808 ≤ k ∧ k ≤ 9223372036854775807) (v : α) :
    ∃ w', (Instr.mapUpdate t (.map (some b)) (.int .i64 k) (enc v)).run P w = .ok () w' ∧ IM P K w' b (n + 1) enc (putI m k v) ∧ w.mapTurned w' b := by
  have hw : (Lit.int .i64 k).wf = true := wf64 hk
  obtain ⟨w', hrun, h1, h2⟩ := World.ownsMap.store h (int_keyed hK) ht hn (keyOf_int_mk hK hw) (val := enc v) (d := .held (enc v)) (ps := []) rfl
  rw [imD_put] at h1
  exact ⟨w', hrun, h1, h2⟩
theorem IM.drop (h : IM P K w b n enc m) (hK : P.underlying K = some (.int .i64)) (ht : P.underlying t = some (.map K e)) {k : Int} (hk : -9223372036854775808 ≤ k ∧ k ≤ 9223372036854775807) (ty : TypeId) :
    ∃ w', (Builtin.delete_ #[t, K] ty #[.map (some b), .int .i64 k]).run P w = .ok (.tuple #[]) w' ∧ IM P K w' b n enc (delI m k) ∧ w.mapTurned w' b := by
  have hw : (Lit.int .i64 k).wf = true := wf64 hk
  obtain ⟨w', hrun, h1, h2⟩ := World.ownsMap.drop h (int_keyed hK) ht (keyOf_int_mk hK hw) ty
  rw [imD_del] at h1
  exact ⟨w', hrun, h1, h2⟩
theorem IM.len (h : IM P K w b n enc m) (ht : P.underlying t = some (.map K e)) (ty : TypeId) : (Builtin.len_ #[t] ty #[.map (some b)]).run P w = .ok (.int .i64 m.length) w := by
  rw [World.ownsMap.len h ht ty, imD_size]
theorem IM.length_le (h : IM P K w b n enc m) : m.length ≤ n := by have := World.ownsMap.size_le h; rwa [imD_size] at this
/-- The keys rise. -/
theorem IM.sorted (h : IM P K w b n enc m) (hK : P.underlying K = some (.int .i64)) : m.Pairwise fun p q => p.1 < q.1 := by
  obtain ⟨es, he, hp, _⟩ := World.ownsMap.canon h (int_keyed hK)
  simp only [imD, DataW.map.injEq] at he
  rw [← he, List.pairwise_map] at hp
  exact hp.imp (fun h => by simpa [Lit.before] using h)

/-! At the operation, in a list of operations. -/
variable {ops : Array Oper} {rest : List Oper} {o : Oper} {a : Act} {Q : Exit → Act → World → Prop}
theorem wpList_mapUpdate_im (hg : o.guard = none) (x y v : Operand) (t : TypeId) (hop : o.op = Op.mapUpdate t x y v) (hK : P.underlying K = some (.int .i64)) (ht : P.underlying t = some (.map K e))
    (b n : Nat) (hx : a.eval x = .map (some b)) (h : IM P K w b n enc m) (hn : n < maxLen) (k : Int) (hy : a.eval y = .int .i64 k) (hk : -9223372036854775808 ≤ k ∧ k ≤ 9223372036854775807) (u : α) (hv : a.eval v = enc u)
    (hK' : ∀ w', IM P K w' b (n + 1) enc (putI m k u) → w.grownBy w' (some b) → wpList P ops Q rest (a.put o.dst undef) w') : wpList P ops Q (o :: rest) a w := by
  refine wpList_plain hg fun K' hKK => ?_
  obtain ⟨w', hrun, r1, r2⟩ := h.store hK ht hn hk u
  unfold Oper.wp
  simp [execOp, hop, hx, hy, hv, hrun, Result.andThen]
  exact hKK _ _ (hK' w' r1 r2.grown)
theorem wpList_lookup_ok_im (hg : o.guard = none) (x y : Operand) (t : TypeId) (hop : o.op = Op.lookup t x y true) (hK : P.underlying K = some (.int .i64)) (ht : P.underlying t = some (.map K e)) {z : α} (hz : ∀ w : World, (zeroValue e).run P w = .ok (enc z) w)
    (b n : Nat) (hx : a.eval x = .map (some b)) (h : IM P K w b n enc m) (k : Int) (hy : a.eval y = .int .i64 k) (hk : -9223372036854775808 ≤ k ∧ k ≤ 9223372036854775807)
    (hK' : wpList P ops Q rest (a.put o.dst (.tuple #[enc ((lookI m k).getD z), .bool (lookI m k).isSome])) w) : wpList P ops Q (o :: rest) a w := by
  refine wpList_plain hg fun K' hKK => ?_
  have hrun := h.look_ok hK ht hz hk
  unfold Oper.wp
  simp [execOp, hop, hx, hy, hrun, Result.andThen]
  exact hKK _ _ hK'
theorem wpList_lookup_im (hg : o.guard = none) (x y : Operand) (t : TypeId) (hop : o.op = Op.lookup t x y false) (hK : P.underlying K = some (.int .i64)) (ht : P.underlying t = some (.map K e)) {z : α} (hz : ∀ w : World, (zeroValue e).run P w = .ok (enc z) w)
    (b n : Nat) (hx : a.eval x = .map (some b)) (h : IM P K w b n enc m) (k : Int) (hy : a.eval y = .int .i64 k) (hk : -9223372036854775808 ≤ k ∧ k ≤ 9223372036854775807)
    (hK' : wpList P ops Q rest (a.put o.dst (enc ((lookI m k).getD z))) w) : wpList P ops Q (o :: rest) a w := by
  refine wpList_plain hg fun K' hKK => ?_
  have hrun := h.look hK ht hz hk
  unfold Oper.wp
  simp [execOp, hop, hx, hy, hrun, Result.andThen]
  exact hKK _ _ hK'
theorem wpList_delete_im (hg : o.guard = none) (x y : Operand) (t : TypeId) (hop : o.op = Op.call { callee := Callee.builtin Builtin.delete, args := #[x, y], argTypes := #[t, K] }) (hK : P.underlying K = some (.int .i64)) (ht : P.underlying t = some (.map K e))
    (b n : Nat) (hx : a.eval x = .map (some b)) (h : IM P K w b n enc m) (k : Int) (hy : a.eval y = .int .i64 k) (hk : -9223372036854775808 ≤ k ∧ k ≤ 9223372036854775807)
    (hK' : ∀ w', IM P K w' b n enc (delI m k) → w.grownBy w' (some b) → wpList P ops Q rest (a.put o.dst (.tuple #[])) w') : wpList P ops Q (o :: rest) a w := by
  refine wpList_plain hg fun K' hKK => ?_
  obtain ⟨w', hrun, r1, r2⟩ := h.drop hK ht hk o.type
  unfold Oper.wp
  simp [execOp, hop, resolve, invoke, builtin, hx, hy, hrun, Result.andThen]
  exact hKK _ _ (hK' w' r1 r2.grown)
theorem wpStill_load_blk {QS : Act → Prop} (hgd : o.guard = none) (ty : TypeId) (x : Operand) (ho : o.op = .load ty x)
    (b : Nat) (vs : List Value) (hx : a.eval x = .pointer (some ⟨b, 0, none⟩)) (hB : Blk w b vs) (d : TypeDesc) (hu : P.underlying ty = some d) (hd : d.isRow = true) (hi : (P.info? ty).map (·.size) = some vs.length)
    (h : wpStill P ops w QS rest (a.put o.dst (.agg vs.toArray))) : wpStill P ops w QS (o :: rest) a := by
  refine wpStill_step fun K hK => ?_
  have hw : Region.wanted o (yielded ops a.tmps) = true := by simp [Region.wanted, hgd]
  rw [if_pos hw]
  unfold Oper.still
  have hrun : (execOp a.eval o).run P w = .ok (.value (.agg vs.toArray)) w := by
    unfold execOp
    simp only [ho, hx, Instr.loadAt, Instr.sureAddr, Sem.run_bind, Sem.run_pure, Result.andThen_ok, run_loadVar_mid w b 0 ty vs d hB.range hu hd hi]
  rw [hrun, Oper.stillUpon_value]
  exact hK _ h
end
end Go.Proofs.Ytejjiiakficafaa
