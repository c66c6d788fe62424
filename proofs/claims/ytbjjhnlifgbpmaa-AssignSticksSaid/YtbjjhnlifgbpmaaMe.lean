/- A memory of the call's own: blocks that are known whole, and rows of numbers, all apart from each other. -/
import Derived.Test.YtbjjhnlifgbpmaaDl
namespace Go.Proofs.Ytbjjhnlifgbpmaa
open Go.RowKit Go.Shelf

/-- A row of numbers: where it lies, its capacity, what it holds. -/
structure Rw3 where
  A : Option Addr
  c : Nat
  l : List Int
deriving Inhabited
def Rw3.v (r : Rw3) : Value := .slice r.A r.l.length r.c
def Rw3.b (r : Rw3) : Option Nat := r.A.map (·.block)

structure Mem (w : World) (B : Nat) (fx : List (Nat × List Value)) (rs : List Rw3) : Prop where
  blk : ∀ (k b : Nat) (vs : List Value), fx[k]? = some (b, vs) → Blk w b vs
  ge : ∀ (k b : Nat) (vs : List Value), fx[k]? = some (b, vs) → B ≤ b
  ne : ∀ (j k b : Nat) (vs us : List Value), fx[j]? = some (b, vs) → fx[k]? = some (b, us) → j = k
  row : ∀ (k : Nat) (r : Rw3), rs[k]? = some r → w.ownsRow B 3 1 r.v r.l.length (r.l.flatMap encI)
  dis : ∀ (j k : Nat) (r s : Rw3) (g : Nat), rs[j]? = some r → rs[k]? = some s → r.b = some g → s.b = some g → j = k
  sep : ∀ (j k : Nat) (r : Rw3) (b : Nat) (vs : List Value), rs[j]? = some r → fx[k]? = some (b, vs) → r.b ≠ some b
  bs : B ≤ w.heap.size

theorem own_b {w : World} {B n : Nat} {r : Rw3} {xs : List Value} (h : w.ownsRow B 3 1 r.v n xs) {g : Nat} (hg : r.b = some g) : B ≤ g ∧ g < w.heap.size := by
  obtain ⟨A, c, l⟩ := r
  cases A with
  | none => cases hg
  | some a =>
    have e : (Rw3.v ⟨some a, c, l⟩).ownBlock = some g := hg
    exact ⟨ownsRow_base h e, ownsRow_lt h e⟩
theorem v_own (r : Rw3) : r.v.ownBlock = r.b := by obtain ⟨A, c, l⟩ := r; cases A <;> rfl

section
variable {w w' : World} {B : Nat} {fx : List (Nat × List Value)} {rs : List Rw3}
theorem Mem.lt (h : Mem w B fx rs) {k b : Nat} {vs : List Value} (hk : fx[k]? = some (b, vs)) : b < w.heap.size := (h.blk _ _ _ hk).lt
/-- What turns no block of it. -/
theorem Mem.frame {S : Nat → Prop} (h : Mem w B fx rs) (hf : FrX S w w') (h1 : ∀ (k b : Nat) (vs : List Value), fx[k]? = some (b, vs) → ¬ S b) (h2 : ∀ (k : Nat) (r : Rw3) (g : Nat), rs[k]? = some r → r.b = some g → ¬ S g) : Mem w' B fx rs :=
  ⟨fun k b vs hk => hf.blk (h.blk k b vs hk) (h1 k b vs hk), h.ge, h.ne, fun k r hk => hf.own (h.row k r hk) fun g hg => h2 k r g hk (by rw [← v_own]; exact hg), h.dis, h.sep, Nat.le_trans h.bs hf.size⟩
theorem Mem.below (h : Mem w B fx rs) (hb : Below w.heap.size w w') : Mem w' B fx rs :=
  h.frame (S := fun _ => False) (FrX.of_below hb) (fun _ _ _ _ h => h) (fun _ _ _ _ _ h => h)
theorem Mem.alloc (h : Mem w B fx rs) (o : Obj) : Mem (w.alloc o) B fx rs := h.below (bl_alloc (Below.refl _ _) o)
theorem Mem.drew (h : Mem w B fx rs) : Mem w.drew B fx rs := h.below (bl_drew (Below.refl _ _))
theorem Mem.set (h : Mem w B fx rs) {k b : Nat} {vs : List Value} (hk : fx[k]? = some (b, vs)) (j : Nat) (v : Value) : Mem (w.setCell ⟨b, j, none⟩ v) B (fx.set k (b, vs.set j v)) rs := by
  have hkl : k < fx.length := (List.getElem?_eq_some_iff.1 hk).1
  have hf : FrX (fun x => x = b) w (w.setCell ⟨b, j, none⟩ v) := FrX.set (S := fun x => x = b) (FrX.refl _ _) b j (.inl rfl) v
  have get : ∀ (i c : Nat) (us : List Value), (fx.set k (b, vs.set j v))[i]? = some (c, us) → (i = k ∧ c = b ∧ us = vs.set j v) ∨ (i ≠ k ∧ fx[i]? = some (c, us)) := fun i c us hi => by
    rw [List.getElem?_set] at hi
    by_cases e : k = i
    · subst e; simp only [if_true, if_pos hkl, Option.some.injEq, Prod.mk.injEq] at hi; exact .inl ⟨rfl, hi.1.symm, hi.2.symm⟩
    · rw [if_neg e] at hi; exact .inr ⟨Ne.symm e, hi⟩
  have key : ∀ (i c : Nat) (us : List Value), (fx.set k (b, vs.set j v))[i]? = some (c, us) → ∃ us', fx[i]? = some (c, us') := fun i c us hi => by
    rcases get i c us hi with ⟨rfl, rfl, rfl⟩ | ⟨_, h⟩
    · exact ⟨_, hk⟩
    · exact ⟨_, h⟩
  refine ⟨fun i c us hi => ?_, fun i c us hi => by obtain ⟨us', h'⟩ := key i c us hi; exact h.ge _ _ _ h', fun i i' c us us' hi hi' => ?_, fun i r hi => hf.own (h.row i r hi) fun g hg e => ?_, h.dis, fun i i' r c us hi hi' => ?_, Nat.le_trans h.bs hf.size⟩
  · rcases get i c us hi with ⟨rfl, rfl, rfl⟩ | ⟨hne, h'⟩
    · exact (h.blk _ _ _ hk).set_same j v
    · exact hf.blk (h.blk _ _ _ h') fun e => by subst e; exact hne (h.ne _ _ _ _ _ h' hk)
  · obtain ⟨_, a1⟩ := key i c us hi
    obtain ⟨_, a2⟩ := key i' c us' hi'
    exact h.ne _ _ _ _ _ a1 a2
  · subst e; exact h.sep _ _ _ _ _ hi hk (by rw [← v_own]; exact hg)
  · obtain ⟨_, a⟩ := key i' c us hi'
    exact h.sep _ _ _ _ _ hi a
/-- A row turns: it grows, perhaps in a block that is new, or is written. -/
theorem Mem.upd (h : Mem w B fx rs) {k : Nat} {r r' : Rw3} (hk : rs[k]? = some r) (hg : w.grownBy w' r.b) (hr : w'.ownsRow B 3 1 r'.v r'.l.length (r'.l.flatMap encI)) (hb : r'.b = r.b ∨ r'.A = some ⟨w.heap.size, 0, none⟩) : Mem w' B fx (rs.set k r') := by
  have hkl : k < rs.length := (List.getElem?_eq_some_iff.1 hk).1
  have hb' : r'.b = r.b ∨ r'.b = some w.heap.size := by
    rcases hb with e | e
    · exact .inl e
    · exact .inr (by simp [Rw3.b, e])
  have get : ∀ (i : Nat) (s : Rw3), (rs.set k r')[i]? = some s → (i = k ∧ s = r') ∨ (i ≠ k ∧ rs[i]? = some s) := fun i s hi => by
    rw [List.getElem?_set] at hi
    by_cases e : k = i
    · subst e; simp only [if_true, if_pos hkl, Option.some.injEq] at hi; exact .inl ⟨rfl, hi.symm⟩
    · rw [if_neg e] at hi; exact .inr ⟨Ne.symm e, hi⟩
  have old : ∀ (i : Nat) (s : Rw3) (g : Nat), rs[i]? = some s → s.b = some g → g < w.heap.size := fun i s g hi hg => (own_b (h.row i s hi) hg).2
  refine ⟨fun i b vs hi => (h.blk i b vs hi).grown hg fun e => h.sep _ _ _ _ _ hk hi e.symm, h.ge, h.ne, fun i s hi => ?_, fun i j s t g hi hj hs ht => ?_, fun i j s b vs hi hj e => ?_, Nat.le_trans h.bs hg.size⟩
  · rcases get i s hi with ⟨rfl, rfl⟩ | ⟨hne, hi⟩
    · exact hr
    · refine (h.row i s hi).kept hg ?_
      rw [v_own]
      cases hs : s.b with
      | none => exact .inl rfl
      | some g => exact .inr fun e => hne (h.dis _ _ _ _ g hi hk hs e.symm)
  · rcases get i s hi with ⟨e1, e2⟩ | ⟨hne, hi2⟩
    · rcases get j t hj with ⟨e3, e4⟩ | ⟨hne, hj2⟩
      · omega
      · rw [e2] at hs
        rcases hb' with e | e
        · rw [e] at hs; rw [e1]; exact h.dis _ _ _ _ g hk hj2 hs ht
        · rw [e] at hs; cases hs; have := old _ _ _ hj2 ht; omega
    · rcases get j t hj with ⟨e3, e4⟩ | ⟨hne, hj2⟩
      · rw [e4] at ht
        rcases hb' with e | e
        · rw [e] at ht; rw [e3]; exact h.dis _ _ _ _ g hi2 hk hs ht
        · rw [e] at ht; cases ht; have := old _ _ _ hi2 hs; omega
      · exact h.dis _ _ _ _ g hi2 hj2 hs ht
  · rcases get i s hi with ⟨rfl, rfl⟩ | ⟨hne, hi⟩
    · rcases hb' with e' | e'
      · rw [e'] at e; exact h.sep _ _ _ _ _ hk hj e
      · rw [e'] at e; cases e; have := h.lt hj; omega
    · exact h.sep _ _ _ _ _ hi hj e
/-- A block and a row turn at once. -/
theorem Mem.turn {S : Nat → Prop} (h : Mem w B fx rs) (hf : FrX S w w') {kD kr D : Nat} {vs vs' : List Value} {r r' : Rw3} (hD : fx[kD]? = some (D, vs)) (hr : rs[kr]? = some r) (hS : ∀ b, S b → b = D ∨ r.b = some b) (hD' : Blk w' D vs')
    (hr' : w'.ownsRow B 3 1 r'.v r'.l.length (r'.l.flatMap encI)) (hb : r'.b = r.b) : Mem w' B (fx.set kD (D, vs')) (rs.set kr r') := by
  have hkl : kD < fx.length := (List.getElem?_eq_some_iff.1 hD).1
  have hrl : kr < rs.length := (List.getElem?_eq_some_iff.1 hr).1
  have get : ∀ (i c : Nat) (us : List Value), (fx.set kD (D, vs'))[i]? = some (c, us) → (i = kD ∧ c = D ∧ us = vs') ∨ (i ≠ kD ∧ fx[i]? = some (c, us)) := fun i c us hi => by
    rw [List.getElem?_set] at hi
    by_cases e : kD = i
    · subst e; simp only [if_true, if_pos hkl, Option.some.injEq, Prod.mk.injEq] at hi; exact .inl ⟨rfl, hi.1.symm, hi.2.symm⟩
    · rw [if_neg e] at hi; exact .inr ⟨Ne.symm e, hi⟩
  have key : ∀ (i c : Nat) (us : List Value), (fx.set kD (D, vs'))[i]? = some (c, us) → ∃ us', fx[i]? = some (c, us') := fun i c us hi => by
    rcases get i c us hi with ⟨rfl, rfl, rfl⟩ | ⟨_, h⟩
    · exact ⟨_, hD⟩
    · exact ⟨_, h⟩
  have getr : ∀ (i : Nat) (s : Rw3), (rs.set kr r')[i]? = some s → (i = kr ∧ s = r') ∨ (i ≠ kr ∧ rs[i]? = some s) := fun i s hi => by
    rw [List.getElem?_set] at hi
    by_cases e : kr = i
    · subst e; simp only [if_true, if_pos hrl, Option.some.injEq] at hi; exact .inl ⟨rfl, hi.symm⟩
    · rw [if_neg e] at hi; exact .inr ⟨Ne.symm e, hi⟩
  have keyr : ∀ (i : Nat) (s : Rw3), (rs.set kr r')[i]? = some s → ∃ s', rs[i]? = some s' ∧ s'.b = s.b := fun i s hi => by
    rcases getr i s hi with ⟨rfl, rfl⟩ | ⟨_, h⟩
    · exact ⟨_, hr, hb.symm⟩
    · exact ⟨_, h, rfl⟩
  refine ⟨fun i c us hi => ?_, fun i c us hi => by obtain ⟨us', h'⟩ := key i c us hi; exact h.ge _ _ _ h', fun i i' c us us' hi hi' => ?_, fun i s hi => ?_, fun i j s t g hi hj hs ht => ?_, fun i i' s c us hi hi' e => ?_, Nat.le_trans h.bs hf.size⟩
  · rcases get i c us hi with ⟨rfl, rfl, rfl⟩ | ⟨hne, h'⟩
    · exact hD'
    · refine hf.blk (h.blk _ _ _ h') fun e => ?_
      rcases hS _ e with e | e
      · subst e; exact hne (h.ne _ _ _ _ _ h' hD)
      · exact h.sep _ _ _ _ _ hr h' e
  · obtain ⟨_, a1⟩ := key i c us hi
    obtain ⟨_, a2⟩ := key i' c us' hi'
    exact h.ne _ _ _ _ _ a1 a2
  · rcases getr i s hi with ⟨rfl, rfl⟩ | ⟨hne, hi⟩
    · exact hr'
    · refine hf.own (h.row i s hi) fun g hg e => ?_
      rw [v_own] at hg
      rcases hS _ e with e | e
      · subst e; exact h.sep _ _ _ _ _ hi hD hg
      · exact hne (h.dis _ _ _ _ g hi hr hg e)
  · obtain ⟨s', a1, a2⟩ := keyr i s hi
    obtain ⟨t', b1, b2⟩ := keyr j t hj
    exact h.dis _ _ _ _ g a1 b1 (a2.trans hs) (b2.trans ht)
  · obtain ⟨_, a⟩ := key i' c us hi'
    obtain ⟨s', a1, a2⟩ := keyr i s hi
    exact h.sep _ _ _ _ _ a1 a (a2.trans e)
/-- A block that is new. -/
theorem Mem.addF (h : Mem w B fx rs) (cs : Array Value) (t : TypeId) : Mem (w.alloc (.cells cs t)) B (fx ++ [(w.heap.size, cs.toList)]) rs := by
  have ha := h.alloc (.cells cs t)
  have get : ∀ (i c : Nat) (us : List Value), (fx ++ [(w.heap.size, cs.toList)])[i]? = some (c, us) → (fx[i]? = some (c, us)) ∨ (i = fx.length ∧ c = w.heap.size ∧ us = cs.toList) := fun i c us hi => by
    rcases Nat.lt_trichotomy i fx.length with k | k | k
    · rw [List.getElem?_append_left k] at hi; exact .inl hi
    · subst k; rw [List.getElem?_append_right (Nat.le_refl _)] at hi; simp at hi; exact .inr ⟨rfl, hi.1.symm, hi.2.symm⟩
    · rw [List.getElem?_append_right (by omega)] at hi
      rw [List.getElem?_eq_none (by simp; omega)] at hi; cases hi
  refine ⟨fun i c us hi => ?_, fun i c us hi => ?_, fun i j c us us' hi hj => ?_, ha.row, h.dis, fun i j r c us hi hj e => ?_, ha.bs⟩
  · rcases get i c us hi with h' | ⟨_, rfl, rfl⟩
    · exact ha.blk _ _ _ h'
    · exact Blk.new _ _ _
  · rcases get i c us hi with h' | ⟨_, rfl, rfl⟩
    · exact h.ge _ _ _ h'
    · exact h.bs
  · rcases get i c us hi with h' | ⟨e, rfl, rfl⟩
    · rcases get j c us' hj with h2 | ⟨e2, e3, rfl⟩
      · exact h.ne _ _ _ _ _ h' h2
      · subst e3; have := h.lt h'; omega
    · rcases get j _ us' hj with h2 | ⟨e2, _, rfl⟩
      · have := h.lt h2; omega
      · omega
  · rcases get j c us hj with h' | ⟨_, rfl, rfl⟩
    · exact h.sep _ _ _ _ _ hi h' e
    · have := (own_b (h.row i r hi) e).2; omega
/-- A row that is new: nil, or in a block that was made since. -/
theorem Mem.addR (h : Mem w B fx rs) (hb : Below w.heap.size w w') {r : Rw3} (hr : w'.ownsRow B 3 1 r.v r.l.length (r.l.flatMap encI)) (hn : ∀ g, r.b = some g → w.heap.size ≤ g) : Mem w' B fx (rs ++ [r]) := by
  have ha := h.below hb
  have get : ∀ (i : Nat) (s : Rw3), (rs ++ [r])[i]? = some s → (rs[i]? = some s) ∨ (i = rs.length ∧ s = r) := fun i s hi => by
    rcases Nat.lt_trichotomy i rs.length with k | k | k
    · rw [List.getElem?_append_left k] at hi; exact .inl hi
    · subst k; rw [List.getElem?_append_right (Nat.le_refl _)] at hi; simp at hi; exact .inr ⟨rfl, hi.symm⟩
    · rw [List.getElem?_append_right (by omega)] at hi
      rw [List.getElem?_eq_none (by simp; omega)] at hi; cases hi
  refine ⟨ha.blk, h.ge, h.ne, fun i s hi => ?_, fun i j s t g hi hj hs ht => ?_, fun i j s b vs hi hj e => ?_, ha.bs⟩
  · rcases get i s hi with h' | ⟨_, rfl⟩
    · exact ha.row _ _ h'
    · exact hr
  · rcases get i s hi with h1 | ⟨e1, rfl⟩
    · rcases get j t hj with h2 | ⟨e2, rfl⟩
      · exact h.dis _ _ _ _ g h1 h2 hs ht
      · have := hn g ht; have := (own_b (h.row i s h1) hs).2; omega
    · rcases get j t hj with h2 | ⟨e2, rfl⟩
      · have := hn g hs; have := (own_b (h.row j t h2) ht).2; omega
      · omega
  · rcases get i s hi with h1 | ⟨e1, rfl⟩
    · exact h.sep _ _ _ _ _ h1 hj e
    · have := hn b e; have := h.lt hj; omega
theorem Mem.nil (w : World) (B : Nat) (hB : B ≤ w.heap.size) : Mem w B [] [] :=
  ⟨fun _ _ _ h => by simp at h, fun _ _ _ h => by simp at h, fun _ _ _ _ _ h => by simp at h, fun _ _ h => by simp at h, fun _ _ _ _ _ h => by simp at h, fun _ _ _ _ _ h => by simp at h, hB⟩
end
end Go.Proofs.Ytbjjhnlifgbpmaa
