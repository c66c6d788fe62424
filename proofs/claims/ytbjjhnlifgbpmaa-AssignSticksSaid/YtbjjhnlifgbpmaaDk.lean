/- assign's deck: whole, take, top. -/
import Derived.Test.YtbjjhnlifgbpmaaSo
import Derived.Test.YtbjjhnlifgbpmaaFx
import Derived.Test.YtbjjhnlifgbpmaaOx
import Derived.Lib.Slices
namespace Go.Proofs.Ytbjjhnlifgbpmaa
open Go.RowKit Go.Shelf Go.Sort
attribute [local go_sem] Oper.semAt_some

theorem own_cell {w : World} {base g c : Nat} {l : List Int} (h : w.ownsRow base 3 1 (.slice (some ⟨g, 0, none⟩) l.length c) l.length (l.flatMap encI)) : ∀ j, j < l.length → w.cell? ⟨g, 0 + j, none⟩ = some (.int .i64 (l.getD j 0)) := fun j hj => by
  obtain ⟨b, o, e, _, hc⟩ := LAt.of_own encI_len h rfl j hj
  cases e
  have := hc 0 _ rfl
  rw [getD_get _ _ hj]
  simpa using this

theorem index_any (A : Option Addr) (c base : Nat) (l : List Int) (x : Int) (w : World) (h : w.ownsRow base 3 1 (.slice A l.length c) l.length (l.flatMap encI)) (hl : l.length ≤ 140737488351232) :
    Calls Try.prog 45 #[.slice A l.length c, .int .i64 x] w fun e w' => e = .returned (.int .i64 (Lib.idxOf l x)) ∧ w' = w := by
  rcases h.2 with ⟨e, hz⟩ | ⟨g, cap, cur, e, hbase, hgb, r1, r2, r3, r4⟩
  · obtain rfl : l = [] := List.eq_nil_of_length_eq_zero hz
    exact AnyG.slices_Index_int_empty Try.indexI A c x w
  · simp only [Value.slice.injEq] at e
    obtain ⟨rfl, _, rfl⟩ := e
    have := AnyG.slices_Index_int Try.indexI g 0 l.length c l x w (Nat.le_refl _) (by omega) (own_cell h)
    rwa [List.take_length] at this

theorem idx_erase {l : List Int} {x : Int} (hx : x ∈ l) : ∃ k : Nat, k < l.length ∧ Lib.idxOf l x = (k : Int) ∧ l.erase x = l.take k ++ l.drop (k + 1) := by
  refine ⟨l.idxOf x, List.idxOf_lt_length_of_mem hx, ?_, ?_⟩
  · have := Lib.idxOf_hit l l.length (l.idxOf x) x (List.idxOf_lt_length_of_mem hx) (Nat.le_refl _) (by rw [getD_get _ _ (List.idxOf_lt_length_of_mem hx)]; exact List.getElem_idxOf _) (fun j hj => by
      rw [getD_get _ _ (Nat.lt_trans hj (List.idxOf_lt_length_of_mem hx))]
      intro e
      have h2 := List.not_of_lt_findIdx (p := (· == x)) (xs := l) (i := j) (by simpa [List.idxOf] using hj)
      simp [e] at h2)
    rwa [List.take_length] at this
  · rw [List.erase_eq_eraseIdx_of_idxOf (i := l.idxOf x) rfl, List.eraseIdx_eq_take_drop_succ]
theorem idx_none {l : List Int} {x : Int} (hx : x ∉ l) : Lib.idxOf l x = -1 := by
  have := Lib.idxOf_miss l l.length x (fun j hj e => hx (by rw [getD_get _ _ hj] at e; exact e ▸ List.getElem_mem _))
  rwa [List.take_length] at this

theorem delete_any (A : Option Addr) (c base : Nat) (l : List Int) (k : Nat) (w : World) (h : w.ownsRow base 3 1 (.slice A l.length c) l.length (l.flatMap encI)) (hk : k < l.length) :
    Calls Try.prog 46 #[.slice A l.length c, .int .i64 (k : Nat), .int .i64 ((k : Int) + 1)] w fun e w' => e = .returned (.slice A (l.length - 1) c) ∧
      w'.ownsRow base 3 1 (.slice A (l.length - 1) c) (l.length - 1) ((l.take k ++ l.drop (k + 1)).flatMap encI) ∧ w.grownBy w' (Value.slice A l.length c).ownBlock := by
  rcases h.2 with ⟨e, hz⟩ | ⟨g, cap, cur, e, hbase, hgb, r1, r2, r3, r4⟩
  · omega
  · simp only [Value.slice.injEq] at e
    obtain ⟨rfl, _, rfl⟩ := e
    have hH : Holds (Value.int .i64) w g 0 l.toArray := holds_of_blockI hgb (by simpa [encI_map] using r4)
    have := AnyG.slices_Delete_int Try.deleteI g 0 c k (k + 1) l w hH r1 (by simp only [maxLen] at r2; omega) (by omega) (by omega)
    rw [show k + 1 - k = 1 from by omega, show (((k + 1 : Nat)) : Int) = (k : Int) + 1 from by omega] at this
    refine this.mono ?_
    rintro e w' ⟨rfl, q, rfl⟩
    have hb := heap_sortedI (n := q) (os := #[]) (l.take k ++ l.drop (k + 1) ++ List.replicate 1 0).toArray hgb
    have hg := grownBy_sortedI (w := w) (g := g) (n := q) (os := #[]) (l.take k ++ l.drop (k + 1) ++ List.replicate 1 0).toArray
    rw [grow_empty] at hb hg
    refine ⟨rfl, ⟨?_, .inr ⟨g, c, _, rfl, hbase, hb, by omega, r2, by simp [putCells, r3], ?_⟩⟩, hg⟩
    · rw [encI_map]; simp; omega
    · have ht := take_putCellsI cur (l.take k ++ l.drop (k + 1) ++ List.replicate 1 0) (by simp; omega)
      have h2 := congrArg (List.take (l.length - 1)) ht
      rw [List.take_take] at h2
      rw [Nat.mul_one, encI_map]
      have e1 : l.length - 1 ≤ (l.take k ++ l.drop (k + 1) ++ List.replicate 1 (0 : Int)).length := by simp only [List.length_append, List.length_take, List.length_drop, List.length_replicate]; omega
      have e2 : l.length - 1 = ((l.take k ++ l.drop (k + 1)).map (Value.int .i64)).length := by simp; omega
      rw [Nat.min_eq_left e1] at h2
      rw [h2, List.map_append, e2, List.take_left]

/-- A deck: its block, its cards in a row of the call's own. -/
def DeckAt (w : World) (base D : Nat) (A : Option Addr) (c : Nat) (l : List Int) : Prop :=
  Blk w D [.slice A l.length c] ∧ w.ownsRow base 3 1 (.slice A l.length c) l.length (l.flatMap encI) ∧ ∀ g o, A = some ⟨g, o, none⟩ → g ≠ D
/-- Its blocks. -/
def DkS (D : Nat) (A : Option Addr) (b : Nat) : Prop := b = D ∨ ∃ a : Addr, A = some a ∧ b = a.block

set_option maxRecDepth 100000 in
set_option maxHeartbeats 2000000 in
theorem take_any (D base : Nat) (A : Option Addr) (c : Nat) (l : List Int) (x : Int) (w : World) (h : DeckAt w base D A c l) (hl : l.length ≤ 140737488351232) :
    Calls Try.prog 26 #[.pointer (some ⟨D, 0, none⟩), .int .i64 x] w fun e w' => e = .returned (.bool (decide (x ∈ l))) ∧ DeckAt w' base D A c (l.erase x) ∧ FrX (DkS D A) w w' := by
  obtain ⟨hB, hR, hne⟩ := h
  have q := hB.cell
  have u := hB.unf
  by_cases hx : x ∈ l
  · obtain ⟨k, hk, hi, he⟩ := idx_erase hx
    have hk0 : (0 : Int) ≤ (k : Int) := by omega
    have hkd : decide ((k : Int) ≥ 0) = true := by simp
    have hel : (l.erase x).length = l.length - 1 := by rw [he]; simp; omega
    go_enter Try.func26, Try.ntmps26
    go_wp2_with (first
      | (go_at_call 45; refine (index_any A c base l x _ hR hl).mono ?_; rintro e w1 ⟨rfl, rfl⟩; rw [hi])
      | (go_at_call 46; refine (delete_any A c base l k _ hR hk).mono ?_; rintro e w2 ⟨rfl, h2, h3⟩; have hB2 := hB.grown h3 (by cases A with | none => simp [Value.ownBlock] | some a => have hs := ownsRow_tells hR; obtain ⟨A', c', e', hh⟩ := hs; cases e'; obtain ⟨g, e1, _⟩ := hh (by omega); cases e1; simp only [Value.ownBlock, ne_eq, Option.some.injEq]; exact fun e => hne g 0 rfl e.symm); have q2 := hB2.cell; have u2 := hB2.unf))
    go_ret
    refine ⟨ret_bool (by simp [hx]), ?_, ?_⟩
    · refine ⟨by rw [hel]; simpa using hB2.set_same 0 (.slice A (l.length - 1) c), ?_, hne⟩
      rw [hel, he]
      exact (FrX.set (S := fun b => b = D) (FrX.refl _ _) D 0 (.inl rfl) _).own h2 fun g hg e => by
        cases A with
        | none => simp [Value.ownBlock] at hg
        | some a => have hs := ownsRow_tells hR; obtain ⟨A', c', e', hh⟩ := hs; cases e'; obtain ⟨g', e1, _⟩ := hh (by omega); cases e1; simp only [Value.ownBlock, Option.some.injEq] at hg; exact hne g' 0 rfl (hg.trans e)
    · refine (FrX.of_grown h3 fun g hg => .inl ?_).set D 0 (.inl (.inl rfl)) _
      cases A with
      | none => simp [Value.ownBlock] at hg
      | some a => exact .inr ⟨a, rfl, by simpa [Value.ownBlock] using hg.symm⟩
  · have hi := idx_none hx
    go_enter Try.func26, Try.ntmps26
    go_wp2_with (go_at_call 45; refine (index_any A c base l x _ hR hl).mono ?_; rintro e w1 ⟨rfl, rfl⟩; rw [hi])
    go_ret
    exact ⟨ret_bool (by simp [hx]), by rw [List.erase_of_not_mem hx]; exact ⟨hB, hR, hne⟩, FrX.refl _ _⟩
end Go.Proofs.Ytbjjhnlifgbpmaa
