/- Maps told as functions: what each key has, the zero where there is none. Keys of whatever make. Over any program. -/
import Derived.Test.YtejjiiakficafaaIM
namespace Go.Proofs.Ytejjiiakficafaa
open Go.RowKit Go.Maps

/-- How keys of a kind κ are told: their value, their literal. -/
structure KeyTold (P : Program) (K : TypeId) (κ : Type) (ok : κ → Prop) (kv : κ → Value) (kl : κ → Lit) : Prop where
  keyed : Keyed P K
  key : ∀ x, ok x → keyOf P K (kv x) = some (kl x)
  lit : ∀ x, ok x → WideAt.IsKeyLit (kl x)
  inj : ∀ x y, ok x → ok y → kl x = kl y → x = y

/-- Block b of w is a map of at most n entries that gives f. -/
def FM {κ α : Type} (P : Program) (K : TypeId) (kl : κ → Lit) (ok : κ → Prop) (w : World) (b n : Nat) (enc : α → Value) (z : α) (f : κ → α) : Prop :=
  ∃ D, w.ownsMap P K holdR b n D ∧ IsMap D ∧ ∀ x, ok x → D.atKey (kl x) (.held (enc z)) = .held (enc (f x))

section
variable {κ α : Type} {enc : α → Value} {P : Program} {K t e : TypeId} {kl : κ → Lit} {kv : κ → Value} {ok : κ → Prop} {w : World} {b n : Nat} {z : α} {f : κ → α}
theorem FM.lt (h : FM P K kl ok w b n enc z f) : b < w.heap.size := by obtain ⟨D, h, _⟩ := h; exact h.lt
theorem FM.mono (h : FM P K kl ok w b n enc z f) {n' : Nat} (hn : n ≤ n') : FM P K kl ok w b n' enc z f := by obtain ⟨D, h, r⟩ := h; exact ⟨D, h.mono hn, r⟩
theorem FM.of_heap {w' : World} (h : FM P K kl ok w b n enc z f) (hh : w'.heap[b]? = w.heap[b]?) : FM P K kl ok w' b n enc z f := by
  obtain ⟨D, ⟨es, clock, hb, F, hs, hD⟩, r⟩ := h
  exact ⟨D, ⟨es, clock, hh.trans hb, F, hs, hD⟩, r⟩
theorem FM.below {B : Nat} {w' : World} (h : FM P K kl ok w b n enc z f) (hb : Below B w w') (hB : b < B) : FM P K kl ok w' b n enc z f := h.of_heap (hb.block b hB)
theorem FM.alloc (h : FM P K kl ok w b n enc z f) (o : Obj) : FM P K kl ok (w.alloc o) b n enc z f := h.of_heap (Below.heap_alloc w o b h.lt)
theorem FM.drew (h : FM P K kl ok w b n enc z f) : FM P K kl ok w.drew b n enc z f := h
theorem FM.drewN (h : FM P K kl ok w b n enc z f) (k : Nat) : FM P K kl ok (w.drewN k) b n enc z f := h.of_heap rfl
theorem FM.grown {w' : World} {row : Option Nat} (h : FM P K kl ok w b n enc z f) (hg : w.grownBy w' row) (hne : some b ≠ row) : FM P K kl ok w' b n enc z f := h.of_heap (hg.block b h.lt hne)
theorem FM.ne_cell (h : FM P K kl ok w b n enc z f) {a : Addr} {v : Value} (hc : w.cell? a = some v) : a.block ≠ b := by
  rintro rfl
  obtain ⟨D, ⟨es, clock, hb, _⟩, _⟩ := h
  simp [World.cell?, hb] at hc
theorem FM.setCell (h : FM P K kl ok w b n enc z f) (a : Addr) (v : Value) : FM P K kl ok (w.setCell a v) b n enc z f := by
  by_cases e : a.block = b
  · refine h.of_heap ?_
    obtain ⟨D, ⟨es, clock, hb, _⟩, _⟩ := h
    simp only [World.setCell, Array.getElem?_modify]
    subst e
    simp [hb]
  · exact h.of_heap (Below.heap_setCell w a v b (Ne.symm e))
theorem FM.made (w : World) (P : Program) (K : TypeId) (kl : κ → Lit) (ok : κ → Prop) (enc : α → Value) (z : α) : FM P K kl ok (w.alloc (.map #[] 0)) w.heap.size 0 enc z (fun _ => z) :=
  ⟨_, World.ownsMap_made w P K holdR, ⟨_, rfl⟩, fun _ _ => rfl⟩
theorem FM.look (h : FM P K kl ok w b n enc z f) (T : KeyTold P K κ ok kv kl) (ht : P.underlying t = some (.map K e)) (hz : ∀ w : World, (zeroValue e).run P w = .ok (enc z) w) {x : κ} (hx : ok x) :
    (Instr.lookup t (.map (some b)) (kv x) false).run P w = .ok (enc (f x)) w := by
  obtain ⟨D, ho, _, hat⟩ := h
  obtain ⟨v, ps, hrun, hv⟩ := ho.lookup T.keyed ht (hz w) (zd := .held (enc z)) (zp := []) rfl (T.key x hx)
  rw [hat x hx] at hv
  simp only [holdR, Option.some.injEq, Prod.mk.injEq, DataW.held.injEq] at hv
  rw [hrun, hv.1]
theorem FM.store [DecidableEq κ] (h : FM P K kl ok w b n enc z f) (T : KeyTold P K κ ok kv kl) (ht : P.underlying t = some (.map K e)) (hn : n < maxLen) {x : κ} (hx : ok x) (v : α) :
    ∃ w', (Instr.mapUpdate t (.map (some b)) (kv x) (enc v)).run P w = .ok () w' ∧ FM P K kl ok w' b (n + 1) enc z (fun y => if y = x then v else f y) ∧ w.grownBy w' (some b) := by
  obtain ⟨D, ho, hm, hat⟩ := h
  obtain ⟨w', hrun, h1, h2⟩ := ho.store T.keyed ht hn (T.key x hx) (val := enc v) (d := .held (enc v)) (ps := []) rfl
  refine ⟨w', hrun, ⟨_, h1, hm.put _ _, fun y hy => ?_⟩, h2.grown⟩
  dsimp only
  by_cases e : y = x
  · subst e; rw [if_pos rfl, atKey_put_same hm (T.lit y hy)]
  · rw [if_neg e, atKey_put_other (fun h => e (T.inj _ _ hy hx h)), hat y hy]

variable {ops : Array Oper} {rest : List Oper} {o : Oper} {a : Act} {Q : Exit → Act → World → Prop}
theorem wpList_lookup_fm (hg : o.guard = none) (x y : Operand) (t : TypeId) (hop : o.op = Op.lookup t x y false) (T : KeyTold P K κ ok kv kl) (ht : P.underlying t = some (.map K e)) (hz : ∀ w : World, (zeroValue e).run P w = .ok (enc z) w)
    (b n : Nat) (hx : a.eval x = .map (some b)) (h : FM P K kl ok w b n enc z f) (k : κ) (hk : ok k) (hy : a.eval y = kv k)
    (hK' : wpList P ops Q rest (a.put o.dst (enc (f k))) w) : wpList P ops Q (o :: rest) a w := by
  refine wpList_plain hg fun K' hKK => ?_
  have hrun := h.look T ht hz hk
  unfold Oper.wp
  simp [execOp, hop, hx, hy, hrun, Result.andThen]
  exact hKK _ _ hK'
theorem wpList_mapUpdate_fm [DecidableEq κ] (hg : o.guard = none) (x y v : Operand) (t : TypeId) (hop : o.op = Op.mapUpdate t x y v) (T : KeyTold P K κ ok kv kl) (ht : P.underlying t = some (.map K e))
    (b n : Nat) (hx : a.eval x = .map (some b)) (h : FM P K kl ok w b n enc z f) (hn : n < maxLen) (k : κ) (hk : ok k) (hy : a.eval y = kv k) (u : α) (hv : a.eval v = enc u)
    (hK' : ∀ w', FM P K kl ok w' b (n + 1) enc z (fun y => if y = k then u else f y) → w.grownBy w' (some b) → wpList P ops Q rest (a.put o.dst undef) w') : wpList P ops Q (o :: rest) a w := by
  refine wpList_plain hg fun K' hKK => ?_
  obtain ⟨w', hrun, r1, r2⟩ := h.store T ht hn hk u
  unfold Oper.wp
  simp [execOp, hop, hx, hy, hv, hrun, Result.andThen]
  exact hKK _ _ (hK' w' r1 r2)
end

def okI (k : Int) : Prop := -9223372036854775808 ≤ k ∧ k ≤ 9223372036854775807
def klI (k : Int) : Lit := .int .i64 k
theorem told_int {P : Program} {K : TypeId} (hK : P.underlying K = some (.int .i64)) : KeyTold P K Int okI (fun k => .int .i64 k) klI :=
  ⟨int_keyed hK, fun x hx => keyOf_int_mk hK (wf64 hx), fun _ _ => trivial, fun x y _ _ h => by injection h⟩
end Go.Proofs.Ytejjiiakficafaa
