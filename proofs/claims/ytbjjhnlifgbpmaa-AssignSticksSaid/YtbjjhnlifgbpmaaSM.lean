/- Maps keyed by strings, their elements of whatever make: a block that reads as a sorted list of pairs. Over any program. -/
import Derived.Test.YtbjjhnlifgbpmaaBase
import Derived.Maps.Ext
import Derived.Maps.RangeWalk
import Derived.WideShapes
import Derived.StringKeys
namespace Go.Proofs.Ytbjjhnlifgbpmaa
open Go.RowKit Go.Maps

/-- A string as its bytes. -/
def kb (s : ByteArray) : List UInt8 := s.data.toList
theorem kb_inj {a b : ByteArray} (h : kb a = kb b) : a = b := by
  cases a; cases b; simp only [kb] at h; rw [Array.toList_inj.1 h]
theorem kb_beq (a b : ByteArray) : (kb a == kb b) = decide (a = b) := by
  rw [Bool.eq_iff_iff]; simp only [beq_iff_eq, decide_eq_true_eq]; exact ⟨kb_inj, fun h => by rw [h]⟩
/-- The order of strings. -/
def sb (a b : ByteArray) : Bool := bytesBefore (kb a) (kb b)
theorem sb_irrefl (a : ByteArray) : sb a a = false := WideAt.bytes_irrefl _
theorem sb_total {a b : ByteArray} (h : a ≠ b) : sb a b = true ∨ sb b a = true := WideAt.bytes_total _ _ fun e => h (kb_inj e)
theorem sb_trans {a b c : ByteArray} (h1 : sb a b = true) (h2 : sb b c = true) : sb a c = true := WideShapes.bytes_trans _ _ _ h1 h2

/-- An element reads as itself. -/
def holdR (v : Value) : Option (DataW Value × List MemPlace) := some (.held v, [])

def smD {α : Type} (enc : α → Value) (m : List (ByteArray × α)) : DataW Value := .map (m.map fun p => (Lit.string (kb p.1), DataW.held (enc p.2)))

/-- Block b of w is a map of at most n entries, its keys of type K, that reads as m. -/
def SM {α : Type} (P : Program) (K : TypeId) (w : World) (b n : Nat) (enc : α → Value) (m : List (ByteArray × α)) : Prop := w.ownsMap P K holdR b n (smD enc m)

def lookS {α : Type} (m : List (ByteArray × α)) (k : ByteArray) : Option α := (m.find? fun p => decide (p.1 = k)).map (·.2)
def insS {α : Type} (x : ByteArray × α) : List (ByteArray × α) → List (ByteArray × α)
  | [] => [x]
  | y :: r => if sb x.1 y.1 then x :: y :: r else y :: insS x r
def delS {α : Type} (m : List (ByteArray × α)) (k : ByteArray) : List (ByteArray × α) := m.filter fun p => !decide (p.1 = k)
def putS {α : Type} (m : List (ByteArray × α)) (k : ByteArray) (v : α) : List (ByteArray × α) := insS (k, v) (delS m k)

theorem keyOf_kb {P : Program} {K : TypeId} (hK : P.underlying K = some .string) {k : ByteArray} (hk : k.size ≤ maxLen) : keyOf P K (.string k) = some (.string (kb k)) := WideMaps.keyOf_string_mk hK hk

section
variable {α : Type} {enc : α → Value}
theorem smD_insert (x : ByteArray × α) : ∀ l : List (ByteArray × α), DataW.insert (Lit.string (kb x.1), DataW.held (H := Value) (enc x.2)) (l.map fun p => (Lit.string (kb p.1), DataW.held (enc p.2))) = (insS x l).map fun p => (Lit.string (kb p.1), DataW.held (enc p.2))
  | [] => rfl
  | y :: r => by
    by_cases hb : sb x.1 y.1 = true
    · have hb' : (Lit.string (kb x.1)).before (Lit.string (kb y.1)) = true := hb
      rw [List.map_cons, DataW.insert, if_pos hb', insS, if_pos hb]
      rfl
    · have hb' : ¬ (Lit.string (kb x.1)).before (Lit.string (kb y.1)) = true := hb
      rw [List.map_cons, DataW.insert, if_neg hb', insS, if_neg hb, smD_insert x r]
      rfl
theorem smD_filter (k : ByteArray) (l : List (ByteArray × α)) : (l.map fun p => (Lit.string (kb p.1), DataW.held (H := Value) (enc p.2))).filter (fun p => !p.1.sameKey (.string (kb k))) = (delS l k).map fun p => (Lit.string (kb p.1), DataW.held (enc p.2)) := by
  unfold delS
  rw [List.filter_map]
  congr 1
  apply List.filter_congr
  intro x _
  simp [Lit.sameKey, kb_beq]
theorem smD_put (m : List (ByteArray × α)) (k : ByteArray) (v : α) : (smD enc m).put (.string (kb k)) (.held (enc v)) = smD enc (putS m k v) := by
  simp only [smD, DataW.put, putS, smD_filter, smD_insert (k, v)]
theorem smD_del (m : List (ByteArray × α)) (k : ByteArray) : (smD enc m).del (.string (kb k)) = smD enc (delS m k) := by
  simp only [smD, DataW.del, smD_filter]
theorem smD_at (m : List (ByteArray × α)) (k : ByteArray) (z : α) : (smD enc m).atKey (.string (kb k)) (.held (enc z)) = .held (enc ((lookS m k).getD z)) := by
  simp only [smD, DataW.atKey, lookS]
  rw [List.find?_map]
  have e : ((fun p : Lit × DataW Value => p.1.sameKey (.string (kb k))) ∘ fun p : ByteArray × α => (Lit.string (kb p.1), DataW.held (H := Value) (enc p.2))) = fun p : ByteArray × α => decide (p.1 = k) := by
    funext p; simp [Lit.sameKey, kb_beq]
  rw [e]
  cases List.find? (fun p : ByteArray × α => decide (p.1 = k)) m <;> rfl
theorem smD_has (m : List (ByteArray × α)) (k : ByteArray) : Maps.has (smD enc m) (.string (kb k)) = (lookS m k).isSome := by
  simp only [smD, Maps.has_eq, lookS, List.any_map, Option.isSome_map, List.isSome_find?]
  congr 1
  funext p
  simp [Lit.sameKey, kb_beq]
theorem smD_size (m : List (ByteArray × α)) : Maps.size (smD enc m) = m.length := by simp [smD, Maps.size_eq]

variable {P : Program} {K t e : TypeId} {w : World} {b n : Nat} {m : List (ByteArray × α)}

theorem SM.mono (h : SM P K w b n enc m) {n' : Nat} (hn : n ≤ n') : SM P K w b n' enc m := World.ownsMap.mono h hn
theorem SM.lt (h : SM P K w b n enc m) : b < w.heap.size := World.ownsMap.lt h
theorem SM.of_heap {w' : World} (h : SM P K w b n enc m) (hh : w'.heap[b]? = w.heap[b]?) : SM P K w' b n enc m := by
  obtain ⟨es, clock, hb, F, hs, hD⟩ := h
  exact ⟨es, clock, hh.trans hb, F, hs, hD⟩
theorem SM.below {B : Nat} {w' : World} (h : SM P K w b n enc m) (hb : Below B w w') (hB : b < B) : SM P K w' b n enc m := h.of_heap (hb.block b hB)
theorem SM.alloc (h : SM P K w b n enc m) (o : Obj) : SM P K (w.alloc o) b n enc m := h.of_heap (Below.heap_alloc w o b h.lt)
theorem SM.drew (h : SM P K w b n enc m) : SM P K w.drew b n enc m := h
theorem SM.drewN (h : SM P K w b n enc m) (k : Nat) : SM P K (w.drewN k) b n enc m := h.of_heap rfl
theorem SM.ne_cell (h : SM P K w b n enc m) {a : Addr} {v : Value} (hc : w.cell? a = some v) : a.block ≠ b := by
  rintro rfl
  obtain ⟨es, clock, hb, _⟩ := h
  simp [World.cell?, hb] at hc
theorem SM.setCell (h : SM P K w b n enc m) (a : Addr) (v : Value) : SM P K (w.setCell a v) b n enc m := by
  by_cases e : a.block = b
  · refine h.of_heap ?_
    obtain ⟨es, clock, hb, _⟩ := h
    simp only [World.setCell, Array.getElem?_modify]
    rw [if_pos e, ← e] at *
    rw [e] at *
    simp [hb]
  · exact h.of_heap (Below.heap_setCell w a v b (Ne.symm e))
theorem SM.grown {w' : World} {row : Option Nat} (h : SM P K w b n enc m) (hg : w.grownBy w' row) (hne : some b ≠ row) : SM P K w' b n enc m := h.of_heap (hg.block b h.lt hne)
theorem SM.made (w : World) (P : Program) (K : TypeId) (enc : α → Value) : SM P K (w.alloc (.map #[] 0)) w.heap.size 0 enc [] := World.ownsMap_made w P K holdR

theorem SM.look_ok (h : SM P K w b n enc m) (hK : P.underlying K = some .string) (ht : P.underlying t = some (.map K e)) {z : α} (hz : ∀ w : World, (zeroValue e).run P w = .ok (enc z) w)
    {k : ByteArray} (hk : k.size ≤ maxLen) : (Instr.lookup t (.map (some b)) (.string k) true).run P w = .ok (.tuple #[enc ((lookS m k).getD z), .bool (lookS m k).isSome]) w := by
  obtain ⟨v, ps, hrun, hv⟩ := World.ownsMap.look_ok h (string_keyed hK) ht (hz w) (zd := .held (enc z)) (zp := []) rfl (keyOf_kb hK hk)
  rw [smD_at, smD_has] at *
  simp only [holdR, Option.some.injEq, Prod.mk.injEq, DataW.held.injEq] at hv
  rw [hrun, hv.1]
theorem SM.look (h : SM P K w b n enc m) (hK : P.underlying K = some .string) (ht : P.underlying t = some (.map K e)) {z : α} (hz : ∀ w : World, (zeroValue e).run P w = .ok (enc z) w)
    {k : ByteArray} (hk : k.size ≤ maxLen) : (Instr.lookup t (.map (some b)) (.string k) false).run P w = .ok (enc ((lookS m k).getD z)) w := by
  obtain ⟨v, ps, hrun, hv⟩ := World.ownsMap.lookup h (string_keyed hK) ht (hz w) (zd := .held (enc z)) (zp := []) rfl (keyOf_kb hK hk)
  rw [smD_at] at *
  simp only [holdR, Option.some.injEq, Prod.mk.injEq, DataW.held.injEq] at hv
  rw [hrun, hv.1]
theorem SM.store (h : SM P K w b n enc m) (hK : P.underlying K = some .string) (ht : P.underlying t = some (.map K e)) (hn : n < maxLen) {k : ByteArray} (hk : k.size ≤ maxLen) (v : α) :
    ∃ w', (Instr.mapUpdate t (.map (some b)) (.string k) (enc v)).run P w = .ok () w' ∧ SM P K w' b (n + 1) enc (putS m k v) ∧ w.mapTurned w' b := by
  obtain ⟨w', hrun, h1, h2⟩ := World.ownsMap.store h (string_keyed hK) ht hn (keyOf_kb hK hk) (val := enc v) (d := .held (enc v)) (ps := []) rfl
  rw [smD_put] at h1
  exact ⟨w', hrun, h1, h2⟩
theorem SM.drop (h : SM P K w b n enc m) (hK : P.underlying K = some .string) (ht : P.underlying t = some (.map K e)) {k : ByteArray} (hk : k.size ≤ maxLen) (ty : TypeId) :
    ∃ w', (Builtin.delete_ #[t, K] ty #[.map (some b), .string k]).run P w = .ok (.tuple #[]) w' ∧ SM P K w' b n enc (delS m k) ∧ w.mapTurned w' b := by
  obtain ⟨w', hrun, h1, h2⟩ := World.ownsMap.drop h (string_keyed hK) ht (keyOf_kb hK hk) ty
  rw [smD_del] at h1
  exact ⟨w', hrun, h1, h2⟩
theorem SM.len (h : SM P K w b n enc m) (ht : P.underlying t = some (.map K e)) (ty : TypeId) : (Builtin.len_ #[t] ty #[.map (some b)]).run P w = .ok (.int .i64 m.length) w := by
  rw [World.ownsMap.len h ht ty, smD_size]
theorem SM.length_le (h : SM P K w b n enc m) : m.length ≤ n := by have := World.ownsMap.size_le h; rwa [smD_size] at this
/-- The keys rise. -/
theorem SM.sorted (h : SM P K w b n enc m) (hK : P.underlying K = some .string) : m.Pairwise fun p q => sb p.1 q.1 = true := by
  obtain ⟨es, he, hp, _⟩ := World.ownsMap.canon h (string_keyed hK)
  simp only [smD, DataW.map.injEq] at he
  rw [← he, List.pairwise_map] at hp
  exact hp.imp (fun h => by simpa [Lit.before, sb] using h)

/-! At the operation, in a list of operations. -/
variable {ops : Array Oper} {rest : List Oper} {o : Oper} {a : Act} {Q : Exit → Act → World → Prop}
theorem wpList_mapUpdate_sm (hg : o.guard = none) (x y v : Operand) (t : TypeId) (hop : o.op = Op.mapUpdate t x y v) (hK : P.underlying K = some .string) (ht : P.underlying t = some (.map K e))
    (b n : Nat) (hx : a.eval x = .map (some b)) (h : SM P K w b n enc m) (hn : n < maxLen) (k : ByteArray) (hy : a.eval y = .string k) (hk : k.size ≤ maxLen) (u : α) (hv : a.eval v = enc u)
    (hK' : ∀ w', SM P K w' b (n + 1) enc (putS m k u) → w.grownBy w' (some b) → wpList P ops Q rest (a.put o.dst undef) w') : wpList P ops Q (o :: rest) a w := by
  refine wpList_plain hg fun K' hKK => ?_
  obtain ⟨w', hrun, r1, r2⟩ := h.store hK ht hn hk u
  unfold Oper.wp
  simp [execOp, hop, hx, hy, hv, hrun, Result.andThen]
  exact hKK _ _ (hK' w' r1 r2.grown)
theorem wpList_lookup_ok_sm (hg : o.guard = none) (x y : Operand) (t : TypeId) (hop : o.op = Op.lookup t x y true) (hK : P.underlying K = some .string) (ht : P.underlying t = some (.map K e)) {z : α} (hz : ∀ w : World, (zeroValue e).run P w = .ok (enc z) w)
    (b n : Nat) (hx : a.eval x = .map (some b)) (h : SM P K w b n enc m) (k : ByteArray) (hy : a.eval y = .string k) (hk : k.size ≤ maxLen)
    (hK' : wpList P ops Q rest (a.put o.dst (.tuple #[enc ((lookS m k).getD z), .bool (lookS m k).isSome])) w) : wpList P ops Q (o :: rest) a w := by
  refine wpList_plain hg fun K' hKK => ?_
  have hrun := h.look_ok hK ht hz hk
  unfold Oper.wp
  simp [execOp, hop, hx, hy, hrun, Result.andThen]
  exact hKK _ _ hK'
theorem wpList_lookup_sm (hg : o.guard = none) (x y : Operand) (t : TypeId) (hop : o.op = Op.lookup t x y false) (hK : P.underlying K = some .string) (ht : P.underlying t = some (.map K e)) {z : α} (hz : ∀ w : World, (zeroValue e).run P w = .ok (enc z) w)
    (b n : Nat) (hx : a.eval x = .map (some b)) (h : SM P K w b n enc m) (k : ByteArray) (hy : a.eval y = .string k) (hk : k.size ≤ maxLen)
    (hK' : wpList P ops Q rest (a.put o.dst (enc ((lookS m k).getD z))) w) : wpList P ops Q (o :: rest) a w := by
  refine wpList_plain hg fun K' hKK => ?_
  have hrun := h.look hK ht hz hk
  unfold Oper.wp
  simp [execOp, hop, hx, hy, hrun, Result.andThen]
  exact hKK _ _ hK'
theorem wpList_delete_sm (hg : o.guard = none) (x y : Operand) (t : TypeId) (hop : o.op = Op.call { callee := Callee.builtin Builtin.delete, args := #[x, y], argTypes := #[t, K] }) (hK : P.underlying K = some .string) (ht : P.underlying t = some (.map K e))
    (b n : Nat) (hx : a.eval x = .map (some b)) (h : SM P K w b n enc m) (k : ByteArray) (hy : a.eval y = .string k) (hk : k.size ≤ maxLen)
    (hK' : ∀ w', SM P K w' b n enc (delS m k) → w.grownBy w' (some b) → wpList P ops Q rest (a.put o.dst (.tuple #[])) w') : wpList P ops Q (o :: rest) a w := by
  refine wpList_plain hg fun K' hKK => ?_
  obtain ⟨w', hrun, r1, r2⟩ := h.drop hK ht hk o.type
  unfold Oper.wp
  simp [execOp, hop, resolve, invoke, builtin, hx, hy, hrun, Result.andThen]
  exact hKK _ _ (hK' w' r1 r2.grown)
end
end Go.Proofs.Ytbjjhnlifgbpmaa
