/- Names in order: sortS tells the one list in order that has the same. No program in sight. -/
import Derived.Test.YtbjjhnlifgbpmaaSo
import Derived.Test.YtbjjhnlifgbpmaaSt
namespace Go.Proofs.Ytbjjhnlifgbpmaa
open Go.RowKit

theorem before_lt : ∀ (a b : List UInt8), bytesBefore a b = true ↔ a < b
  | [], [] => by simp [bytesBefore]
  | [], _ :: _ => by simp [bytesBefore]
  | _ :: _, [] => by simp [bytesBefore]
  | a :: x, b :: y => by
    have ih := before_lt x y
    simp only [bytesBefore, List.cons_lt_cons_iff]
    simp only [Bool.or_eq_true, decide_eq_true_eq, Bool.and_eq_true, beq_iff_eq, ih]
theorem sb_lt (a b : ByteArray) : sb a b = true ↔ kb a < kb b := before_lt _ _
theorem kb_un (s : List UInt8) : kb ⟨s.toArray⟩ = s := by simp [kb]
theorem sortS_kb (l : List ByteArray) : (sortS l).map kb = (l.map kb).mergeSort fun x y => decide (x ≤ y) := by
  simp only [sortS, List.map_map]
  conv => rhs; rw [← List.map_id ((l.map kb).mergeSort fun x y => decide (x ≤ y))]
  exact List.map_congr_left fun s _ => kb_un s
theorem kbs_inj : ∀ {l m : List ByteArray}, l.map kb = m.map kb → l = m
  | [], [], _ => rfl
  | [], _ :: _, h => by simp at h
  | _ :: _, [], h => by simp at h
  | a :: l, b :: m, h => by
    simp only [List.map_cons, List.cons.injEq] at h
    rw [kb_inj h.1, kbs_inj h.2]
theorem sortS_of {l L : List ByteArray} (h : L.Perm l) (hs : L.Pairwise fun a b => sb b a = false) : sortS l = L := by
  apply kbs_inj
  rw [sortS_kb]
  have tr : ∀ a b c : List UInt8, (decide (a ≤ b)) = true → (decide (b ≤ c)) = true → (decide (a ≤ c)) = true := fun a b c h1 h2 => by
    simp only [decide_eq_true_eq] at *; exact List.le_trans h1 h2
  have tot : ∀ a b : List UInt8, ((decide (a ≤ b)) || (decide (b ≤ a))) = true := fun a b => by
    simp only [Bool.or_eq_true, decide_eq_true_eq]; exact List.le_total a b
  have hp := (List.pairwise_mergeSort tr tot (l.map kb)).imp (S := fun a b => a ≤ b) (by intro a b h; simpa using h)
  refine List.Perm.eq_of_pairwise (le := fun a b => a ≤ b) (fun a b _ _ h1 h2 => List.le_antisymm h1 h2) hp ?_ ((List.mergeSort_perm _ _).trans (h.map kb).symm)
  rw [List.pairwise_map]
  refine hs.imp ?_
  intro a b hab
  rw [← Bool.not_eq_true, sb_lt] at hab
  exact List.not_lt.1 hab
end Go.Proofs.Ytbjjhnlifgbpmaa
