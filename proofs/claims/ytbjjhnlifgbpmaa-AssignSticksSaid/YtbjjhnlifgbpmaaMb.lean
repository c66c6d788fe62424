/- A memory of the call's own, built step by step. -/
import Derived.Test.YtbjjhnlifgbpmaaEn
namespace Go.Proofs.Ytbjjhnlifgbpmaa
open Go.RowKit Go.Shelf

def noRw : Rw3 := ⟨none, 0, []⟩
section
variable {w w' : World} {B : Nat} {fx : List (Nat × List Value)} {rs : List Rw3}
theorem get_snoc {α : Type} {l : List α} {x y : α} {i : Nat} (h : (l ++ [x])[i]? = some y) : l[i]? = some y ∨ (i = l.length ∧ y = x) := by
  rcases Nat.lt_trichotomy i l.length with k | k | k
  · rw [List.getElem?_append_left k] at h; exact .inl h
  · subst k; rw [List.getElem?_append_right (Nat.le_refl _)] at h; simp at h; exact .inr ⟨rfl, h.symm⟩
  · rw [List.getElem?_eq_none (by simp; omega)] at h; cases h
/-- A block that is there. -/
theorem Mem.addB (h : Mem w B fx rs) {b : Nat} {vs : List Value} (hb : Blk w b vs) (hB : B ≤ b) (h1 : ∀ (k : Nat) (us : List Value), fx[k]? ≠ some (b, us)) (h2 : ∀ (k : Nat) (r : Rw3), rs[k]? = some r → r.b ≠ some b) : Mem w B (fx ++ [(b, vs)]) rs := by
  refine ⟨fun i c us hi => ?_, fun i c us hi => ?_, fun i j c us us' hi hj => ?_, h.row, h.dis, fun i j r c us hi hj => ?_, h.bs⟩
  · rcases get_snoc hi with h' | ⟨_, e⟩
    · exact h.blk _ _ _ h'
    · cases e; exact hb
  · rcases get_snoc hi with h' | ⟨_, e⟩
    · exact h.ge _ _ _ h'
    · cases e; exact hB
  · rcases get_snoc hi with h' | ⟨e, e2⟩
    · rcases get_snoc hj with k' | ⟨e3, e4⟩
      · exact h.ne _ _ _ _ _ h' k'
      · cases e4; exact absurd h' (h1 _ _)
    · rcases get_snoc hj with k' | ⟨e3, e4⟩
      · cases e2; exact absurd k' (h1 _ _)
      · omega
  · rcases get_snoc hj with h' | ⟨_, e⟩
    · exact h.sep _ _ _ _ _ hi h'
    · cases e; exact h2 _ _ hi
/-- A deck that is new. -/
theorem Mem.addD (h : Mem w B fx rs) (hb : Below w.heap.size w w') {A : Option Addr} {c : Nat} {l : List Int} (hD : DeckAt w' (w.heap.size + 1) w.heap.size A c l) : Mem w' B (fx ++ [(w.heap.size, [.slice A l.length c])]) (rs ++ [⟨A, c, l⟩]) := by
  obtain ⟨h1, h2, h3⟩ := hD
  have hge : ∀ g, (⟨A, c, l⟩ : Rw3).b = some g → w.heap.size + 1 ≤ g := fun g hg => ownsRow_base h2 (by rw [← hg]; exact v_own ⟨A, c, l⟩)
  refine (h.addR (r := ⟨A, c, l⟩) hb (ownsRow_le h2 (Nat.le_trans h.bs (Nat.le_succ _))) (fun g hg => by have := hge g hg; omega)).addB h1 h.bs (fun k us e => by have := h.lt e; omega) fun k r hk e => ?_
  rcases get_snoc hk with hk' | ⟨_, e2⟩
  · have := (own_b (h.row k r hk') e).2; omega
  · rw [e2] at e; have := hge _ e; omega
/-- In another order. -/
theorem Mem.re (h : Mem w B fx rs) (σ : List Nat) (hσ : σ.Nodup) (hl : ∀ j ∈ σ, j < fx.length) : Mem w B (σ.map fun j => fx.getD j (0, [])) rs := by
  have key : ∀ (k b : Nat) (vs : List Value), (σ.map fun j => fx.getD j (0, []))[k]? = some (b, vs) → ∃ j, σ[k]? = some j ∧ fx[j]? = some (b, vs) := fun k b vs hk => by
    rw [List.getElem?_map] at hk
    obtain ⟨j, h1, h2⟩ := Option.map_eq_some_iff.1 hk
    refine ⟨j, h1, ?_⟩
    have := hl j (List.mem_of_getElem? h1)
    rw [getD_get _ _ this] at h2
    rw [List.getElem?_eq_getElem this, h2]
  refine ⟨fun k b vs hk => by obtain ⟨j, _, h2⟩ := key k b vs hk; exact h.blk _ _ _ h2, fun k b vs hk => by obtain ⟨j, _, h2⟩ := key k b vs hk; exact h.ge _ _ _ h2, fun i k b vs us hi hk => ?_, h.row, h.dis, fun i k r b vs hi hk => by obtain ⟨j, _, h2⟩ := key k b vs hk; exact h.sep _ _ _ _ _ hi h2, h.bs⟩
  obtain ⟨j1, a1, a2⟩ := key i b vs hi
  obtain ⟨j2, b1, b2⟩ := key k b us hk
  have := h.ne _ _ _ _ _ a2 b2
  subst this
  obtain ⟨l1, e1⟩ := List.getElem?_eq_some_iff.1 a1
  obtain ⟨l2, e2⟩ := List.getElem?_eq_some_iff.1 b1
  exact (List.getElem_inj hσ).1 (e1.trans e2.symm)
theorem Mem.dropL {rs1 : List Rw3} (h : Mem w B fx (rs1 ++ rs)) : Mem w B fx rs := by
  have up : ∀ (k : Nat) (s : Rw3), rs[k]? = some s → (rs1 ++ rs)[rs1.length + k]? = some s := fun k s hk => by rw [List.getElem?_append_right (by omega)]; simpa using hk
  exact ⟨h.blk, h.ge, h.ne, fun k s hk => h.row _ s (up k s hk), fun j k s t g hj hk h1 h2 => by have := h.dis _ _ s t g (up j s hj) (up k t hk) h1 h2; omega, fun j k s b vs hj hk => h.sep _ k s b vs (up j s hj) hk, h.bs⟩
theorem Mem.lower (h : Mem w B fx rs) {B' : Nat} (hB : B' ≤ B) : Mem w B' fx rs :=
  ⟨h.blk, fun k b vs hk => Nat.le_trans hB (h.ge k b vs hk), h.ne, fun k r hk => ownsRow_le (h.row k r hk) hB, h.dis, h.sep, Nat.le_trans hB h.bs⟩
theorem flat_same {α : Type} {enc : α → List Value} (y : α) : ∀ (l : List α) (i : Nat) (hi : i < l.length), enc y = enc l[i] → (l.set i y).flatMap enc = l.flatMap enc
  | x :: l, 0, _, h => by simp only [List.getElem_cons_zero] at h; simp [h]
  | x :: l, i + 1, hi, h => by simp only [List.getElem_cons_succ] at h; simp [flat_same y l i (by simpa using hi) h]
/-- Rows that are nil. -/
theorem Mem.addN (h : Mem w B fx rs) : ∀ m : Nat, Mem w B fx (rs ++ List.replicate m noRw)
  | 0 => by simpa using h
  | m + 1 => by
    have := (h.addN m).addR (Below.refl _ _) (r := noRw) (World.ownsRow_nil _ _ _ _) (fun g e => by cases e)
    rw [List.append_assoc] at this
    rw [List.replicate_succ']
    exact this
end
/-- The memory when Sticky begins. -/
theorem mem_start {X : World} {B ab ar bs rs : Nat} (hB : B ≤ X.heap.size) (h1 : Blk X ab [.int .i64 (bs : Nat)]) (h2 : Blk X ar [.int .i64 (rs : Nat)]) (g1 : B ≤ ab) (g2 : B ≤ ar) (hne : ab ≠ ar) : Mem X B [(ab, [.int .i64 (bs : Nat)]), (ar, [.int .i64 (rs : Nat)])] [] :=
  (((Mem.nil X B hB).addB h1 g1 (fun k us e => by simp at e) (fun k r e => by simp at e)).addB h2 g2 (fun k us e => by cases k <;> simp at e; exact hne e.1) (fun k r e => by simp at e))
end Go.Proofs.Ytbjjhnlifgbpmaa
