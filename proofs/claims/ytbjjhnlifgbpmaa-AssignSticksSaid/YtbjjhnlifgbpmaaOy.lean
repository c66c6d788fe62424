/- Layer 14 as plain lists: cards dealt in order. -/
import Derived.Test.YtbjjhnlifgbpmaaSo
import Derived.Test.YtbjjhnlifgbpmaaOx
namespace Go.Proofs.Ytbjjhnlifgbpmaa

theorem sortZ_perm (l : List Int) : (sortZ l).Perm l := List.mergeSort_perm l _
theorem sortZ_sorted (l : List Int) : (sortZ l).Pairwise (· ≤ ·) := by
  have tr : ∀ a b c : Int, (decide (a ≤ b)) = true → (decide (b ≤ c)) = true → (decide (a ≤ c)) = true := fun a b c h1 h2 => by simp only [decide_eq_true_eq] at *; omega
  have tot : ∀ a b : Int, ((decide (a ≤ b)) || (decide (b ≤ a))) = true := fun a b => by simp only [Bool.or_eq_true, decide_eq_true_eq]; omega
  exact (List.pairwise_mergeSort tr tot l).imp (by intro a b h; simpa using h)
theorem sortZ_mem {l : List Int} {x : Int} : x ∈ sortZ l ↔ x ∈ l := (sortZ_perm l).mem_iff
/-- Two lists in order that have the same, however often, are one. -/
theorem sorted_eq {l m : List Int} (hl : l.Pairwise (· ≤ ·)) (hm : m.Pairwise (· ≤ ·)) (h : l.Perm m) : l = m :=
  List.Perm.eq_of_pairwise (le := fun a b => a ≤ b) (fun a b _ _ h1 h2 => Int.le_antisymm h1 h2) hl hm h
theorem sortZ_of_perm {l m : List Int} (hm : m.Pairwise (· < ·)) (h : l.Perm m) : sortZ l = m :=
  sorted_eq (sortZ_sorted l) (hm.imp fun h => Int.le_of_lt h) ((sortZ_perm l).trans h)

/-- Of D those that are among the first k of s; those that are not. -/
def inK (D s : List Int) (k : Nat) : List Int := D.filter fun x => (s.take k).contains x
def outK (D s : List Int) (k : Nat) : List Int := D.filter fun x => !(s.take k).contains x
theorem mem_inK {D s : List Int} {k : Nat} {x : Int} : x ∈ inK D s k ↔ x ∈ D ∧ x ∈ s.take k := by simp [inK]
theorem mem_outK {D s : List Int} {k : Nat} {x : Int} : x ∈ outK D s k ↔ x ∈ D ∧ x ∉ s.take k := by simp [outK]
theorem inK_zero (D s : List Int) : inK D s 0 = [] := by simp [inK]
theorem outK_zero (D s : List Int) : outK D s 0 = D := by simp [outK]
theorem mem_take_succ {s : List Int} {k : Nat} (hk : k < s.length) {x : Int} : x ∈ s.take (k + 1) ↔ x ∈ s.take k ∨ x = s[k] := by
  rw [List.take_succ_eq_append_getElem hk, List.mem_append, List.mem_singleton]
theorem outK_yes {D s : List Int} (hD : D.Pairwise (· < ·)) {k : Nat} (hk : k < s.length) : (outK D s k).erase s[k] = outK D s (k + 1) := by
  have hr : (outK D s k).Pairwise (· < ·) := hD.filter _
  refine rising_ext (hr.sublist (List.erase_sublist ..)) (hD.filter _) fun x => ?_
  rw [(nodup_of_rising hr).mem_erase_iff, mem_outK, mem_outK, mem_take_succ hk]
  constructor
  · rintro ⟨h1, h2, h3⟩; exact ⟨h2, by rintro (h | h); exact h3 h; exact h1 h⟩
  · rintro ⟨h1, h2⟩; exact ⟨fun e => h2 (.inr e), h1, fun e => h2 (.inl e)⟩
theorem inK_yes {D s : List Int} (hD : D.Pairwise (· < ·)) (hs : s.Pairwise (· ≤ ·)) {k : Nat} (hk : k < s.length) (hp : s[k] ∈ outK D s k) : inK D s k ++ [s[k]] = inK D s (k + 1) := by
  obtain ⟨hp1, hp2⟩ := mem_outK.1 hp
  refine rising_ext (List.pairwise_append.2 ⟨hD.filter _, by simp, fun x hx y hy => ?_⟩) (hD.filter _) fun x => ?_
  · rw [List.mem_singleton] at hy
    subst hy
    obtain ⟨_, hx2⟩ := mem_inK.1 hx
    obtain ⟨j, hj, e⟩ := List.mem_take_iff_getElem.1 hx2
    have := List.pairwise_iff_getElem.1 hs j k (by omega) hk (by omega)
    have hne : x ≠ s[k] := fun e => hp2 (e ▸ hx2)
    omega
  · rw [List.mem_append, mem_inK, mem_inK, mem_take_succ hk, List.mem_singleton]
    constructor
    · rintro (⟨h1, h2⟩ | h)
      · exact ⟨h1, .inl h2⟩
      · subst h; exact ⟨hp1, .inr rfl⟩
    · rintro ⟨h1, h2 | h2⟩
      · exact .inl ⟨h1, h2⟩
      · exact .inr h2
theorem outK_no {D s : List Int} {k : Nat} (hk : k < s.length) (hp : s[k] ∉ outK D s k) : outK D s (k + 1) = outK D s k := by
  unfold outK
  refine List.filter_congr fun x hx => ?_
  have h : x ∈ s.take (k + 1) ↔ x ∈ s.take k := by
    rw [mem_take_succ hk]
    exact ⟨fun h => h.elim id fun e => Classical.byContradiction fun hn => hp (mem_outK.2 ⟨e ▸ hx, e ▸ hn⟩), .inl⟩
  rw [Bool.eq_iff_iff]
  simp [h]
theorem inK_no {D s : List Int} {k : Nat} (hk : k < s.length) (hp : s[k] ∉ outK D s k) : inK D s (k + 1) = inK D s k := by
  unfold inK
  refine List.filter_congr fun x hx => ?_
  have h : x ∈ s.take (k + 1) ↔ x ∈ s.take k := by
    rw [mem_take_succ hk]
    exact ⟨fun h => h.elim id fun e => Classical.byContradiction fun hn => hp (mem_outK.2 ⟨e ▸ hx, e ▸ hn⟩), .inl⟩
  rw [Bool.eq_iff_iff]
  simp [h]
theorem inK_all (D l : List Int) : inK D (sortZ l) (sortZ l).length = D.filter fun x => l.contains x := by
  unfold inK
  refine List.filter_congr fun x _ => ?_
  rw [List.take_length, Bool.eq_iff_iff]
  simp [sortZ_mem]
theorem outK_all (D l : List Int) : outK D (sortZ l) (sortZ l).length = D.filter fun x => !l.contains x := by
  unfold outK
  refine List.filter_congr fun x _ => ?_
  rw [List.take_length, Bool.eq_iff_iff]
  simp [sortZ_mem]
end Go.Proofs.Ytbjjhnlifgbpmaa
