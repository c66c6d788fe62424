/- Layer 14 as plain lists: what a member had is free when it is taken. -/
import Derived.Test.YtbjjhnlifgbpmaaOw
namespace Go.Proofs.Ytbjjhnlifgbpmaa

theorem getD_get {α : Type} (l : List α) (d : α) {i : Nat} (h : i < l.length) : l.getD i d = l[i] := by simp [List.getD_eq_getElem?_getD, h]
theorem hads_mem : ∀ (fs : List (List Int)) (D : List Int) (i : Nat) (x : Int), x ∈ (hadsL D fs).getD i [] → x ∈ D ∧ x ∈ fs.getD i [] ∧ ∀ j < i, x ∉ fs.getD j []
  | [], D, i, x, h => by simp [hadsL] at h
  | f :: fs, D, 0, x, h => by
    simp only [hadsL, List.getD_cons_zero, List.mem_filter, List.contains_iff_mem] at h
    exact ⟨h.1, by simpa using h.2, fun j hj => by omega⟩
  | f :: fs, D, i + 1, x, h => by
    simp only [hadsL, List.getD_cons_succ] at h
    obtain ⟨h1, h2, h3⟩ := hads_mem fs _ i x h
    rw [List.mem_filter] at h1
    refine ⟨h1.1, by simpa using h2, fun j hj => ?_⟩
    cases j with
    | zero => simpa using h1.2
    | succ j => simpa using h3 j (by omega)
theorem hads_rising : ∀ (fs : List (List Int)) (D : List Int), D.Pairwise (· < ·) → ∀ i, ((hadsL D fs).getD i []).Pairwise (· < ·)
  | [], D, _, i => by simp [hadsL]
  | f :: fs, D, h, 0 => by simpa [hadsL] using h.filter _
  | f :: fs, D, h, i + 1 => by simpa [hadsL] using hads_rising fs _ (h.filter _) i
theorem hads_disj {fs : List (List Int)} {D : List Int} {i j : Nat} {x : Int} (hi : x ∈ (hadsL D fs).getD i []) (hj : x ∈ (hadsL D fs).getD j []) : i = j := by
  obtain ⟨_, a1, a2⟩ := hads_mem fs D i x hi
  obtain ⟨_, b1, b2⟩ := hads_mem fs D j x hj
  rcases Nat.lt_trichotomy i j with h | h | h
  · exact absurd a1 (b2 i h)
  · exact h
  · exact absurd b1 (a2 j h)

theorem setsF_get (i : Nat) {x : Nat} : ∀ (l : List Int) (own : List Int), (∀ p ∈ l, 0 ≤ p ∧ p < own.length) → 0 ≤ (setsF own i l).getD x (-1) → 0 ≤ own.getD x (-1) ∨ (x : Int) ∈ l
  | [], own, _, h => .inl h
  | p :: l, own, hl, h => by
    have hp := hl p (List.mem_cons_self ..)
    rcases setsF_get i l (own.set p.toNat (i : Int)) (fun q hq => by rw [List.length_set]; exact hl q (List.mem_cons_of_mem _ hq)) h with h1 | h1
    · rw [getD_set (by omega)] at h1
      by_cases e : x = p.toNat
      · exact .inr (by rw [show (x : Int) = p by omega]; exact List.mem_cons_self ..)
      · rw [if_neg e] at h1; exact .inl h1
    · exact .inr (List.mem_cons_of_mem _ h1)
theorem own0_get (parts x : Nat) : ¬ 0 ≤ (own0 parts).getD x (-1) := by
  unfold own0
  rw [List.getD_eq_getElem?_getD, List.getElem?_replicate]
  split <;> simp

section
variable {parts base rest : Nat} {fs : List (List Int)}

theorem hads_in {i : Nat} {p : Int} (h : p ∈ (hadsL (wholeL parts) fs).getD i []) : 0 ≤ p ∧ p < parts := mem_wholeL.1 (hads_mem fs _ i p h).1

theorem keepTo_get {x : Nat} : ∀ k, 0 ≤ (keepTo base (hadsL (wholeL parts) fs) (own0 parts) k).getD x (-1) → ∃ j < k, (x : Int) ∈ ((hadsL (wholeL parts) fs).getD j []).take base
  | 0, h => absurd h (own0_get _ _)
  | k + 1, h => by
    rcases setsF_get k _ _ (fun p hp => by rw [keepTo_len]; simpa [own0] using hads_in (List.mem_of_mem_take hp)) h with h1 | h1
    · obtain ⟨j, hj, hm⟩ := keepTo_get k h1
      exact ⟨j, by omega, hm⟩
    · exact ⟨k, by omega, h1⟩
theorem moreTo_get {x n : Nat} : ∀ k, 0 ≤ (moreTo base rest (hadsL (wholeL parts) fs) (keepTo base (hadsL (wholeL parts) fs) (own0 parts) n) k).2.getD x (-1) →
    (∃ j < n, (x : Int) ∈ ((hadsL (wholeL parts) fs).getD j []).take base) ∨ ∃ j < k, ((hadsL (wholeL parts) fs).getD j [])[base]? = some (x : Int)
  | 0, h => .inl (keepTo_get n h)
  | k + 1, h => by
    simp only [moreTo] at h
    split at h
    · rename_i hc
      have hm : ((hadsL (wholeL parts) fs).getD k []).getD base 0 ∈ (hadsL (wholeL parts) fs).getD k [] := by
        rw [getD_get _ _ hc.1]; exact List.getElem_mem _
      have hin := hads_in hm
      rw [getD_set (by rw [moreTo_len, keepTo_len]; simp only [own0, List.length_replicate]; omega)] at h
      by_cases e : x = (((hadsL (wholeL parts) fs).getD k []).getD base 0).toNat
      · refine .inr ⟨k, by omega, ?_⟩
        rw [List.getElem?_eq_getElem hc.1, ← getD_get _ 0 hc.1]
        congr 1
        omega
      · rw [if_neg e] at h
        rcases moreTo_get k h with h1 | ⟨j, hj, h1⟩
        · exact .inl h1
        · exact .inr ⟨j, by omega, h1⟩
    · rcases moreTo_get k h with h1 | ⟨j, hj, h1⟩
      · exact .inl h1
      · exact .inr ⟨j, by omega, h1⟩

/-- What a member had is free when it keeps it. -/
theorem keep_free {i k : Nat} {p : Int} (_ : k < base) (hp : ((hadsL (wholeL parts) fs).getD i [])[k]? = some p) :
    (setsF (keepTo base (hadsL (wholeL parts) fs) (own0 parts) i) i (((hadsL (wholeL parts) fs).getD i []).take k)).getD p.toNat (-1) < 0 := by
  obtain ⟨hlt, hpe⟩ := List.getElem?_eq_some_iff.1 hp
  have hm : p ∈ (hadsL (wholeL parts) fs).getD i [] := hpe ▸ List.getElem_mem _
  have hin := hads_in hm
  refine Int.not_le.1 fun h => ?_
  rcases setsF_get i _ _ (fun q hq => by rw [keepTo_len]; simpa [own0] using hads_in (List.mem_of_mem_take hq)) h with h1 | h1
  · obtain ⟨j, hj, h2⟩ := keepTo_get i h1
    rw [show ((p.toNat : Nat) : Int) = p by omega] at h2
    have := hads_disj hm (List.mem_of_mem_take h2)
    omega
  · rw [show ((p.toNat : Nat) : Int) = p by omega] at h1
    obtain ⟨j, hj, e⟩ := List.mem_take_iff_getElem.1 h1
    have hr := List.pairwise_iff_getElem.1 (hads_rising fs _ (wholeL_rising parts) i) j k (by omega) hlt (by omega)
    omega
theorem more_free {i n : Nat} {p : Int} (_ : i < n) (hp : ((hadsL (wholeL parts) fs).getD i [])[base]? = some p) :
    (moreTo base rest (hadsL (wholeL parts) fs) (keepTo base (hadsL (wholeL parts) fs) (own0 parts) n) i).2.getD p.toNat (-1) < 0 := by
  obtain ⟨hlt, hpe⟩ := List.getElem?_eq_some_iff.1 hp
  have hm : p ∈ (hadsL (wholeL parts) fs).getD i [] := hpe ▸ List.getElem_mem _
  have hin := hads_in hm
  refine Int.not_le.1 fun h => ?_
  rcases moreTo_get i h with ⟨j, hj, h1⟩ | ⟨j, hj, h1⟩
  · rw [show ((p.toNat : Nat) : Int) = p by omega] at h1
    have e := hads_disj hm (List.mem_of_mem_take h1)
    subst e
    obtain ⟨t, ht, e⟩ := List.mem_take_iff_getElem.1 h1
    have hr := List.pairwise_iff_getElem.1 (hads_rising fs _ (wholeL_rising parts) i) t base (by omega) hlt (by omega)
    omega
  · rw [show ((p.toNat : Nat) : Int) = p by omega] at h1
    obtain ⟨_, e1⟩ := List.getElem?_eq_some_iff.1 h1
    have := hads_disj hm (show p ∈ (hadsL (wholeL parts) fs).getD j [] from e1 ▸ List.getElem_mem _)
    omega
end

/-- The lowest free one, by the list of those that nobody has. -/
theorem give_free (own : List Int) (i : Nat) : (freeL own = [] ∧ give own i = none) ∨ ∃ p : Nat, p < own.length ∧ own.getD p (-1) < 0 ∧ freeL own = (p : Int) :: freeL (own.set p (i : Int)) ∧ give own i = some (own.set p (i : Int)) := by
  cases hf : own.findIdx? (fun o => decide (o < 0)) with
  | none =>
    refine .inl ⟨?_, by simp [give, hf]⟩
    rw [List.eq_nil_iff_forall_not_mem]
    intro x hx
    obtain ⟨h1, h2, h3⟩ := mem_freeL.1 hx
    rw [List.findIdx?_eq_none_iff] at hf
    have := hf (own.getD x.toNat (-1)) (by rw [getD_get _ _ (by omega)]; exact List.getElem_mem _)
    rw [decide_eq_false_iff_not] at this
    exact this h3
  | some p =>
    obtain ⟨hp, h1, h2⟩ := List.findIdx?_eq_some_iff_getElem.1 hf
    have hneg : own.getD p (-1) < 0 := by rw [getD_get _ _ hp]; simpa using h1
    refine .inr ⟨p, hp, hneg, ?_, by simp [give, hf]⟩
    have hmin : ∀ x ∈ freeL own, (p : Int) ≤ x := fun x hx => by
      obtain ⟨k1, k2, k3⟩ := mem_freeL.1 hx
      refine Int.not_lt.1 fun hlt => ?_
      have := h2 x.toNat (by omega)
      rw [getD_get _ _ (by omega)] at k3
      simp at this
      omega
    refine rising_ext (freeL_rising _) (List.pairwise_cons.2 ⟨fun x hx => ?_, freeL_rising _⟩) fun x => ?_
    · rw [freeL_set hp, List.mem_filter] at hx
      have := hmin x hx.1
      have := hx.2
      simp only [bne_iff_ne, ne_eq] at this
      omega
    · rw [freeL_set hp, List.mem_cons, List.mem_filter]
      simp only [bne_iff_ne, ne_eq]
      constructor
      · intro h; by_cases e : x = (p : Int)
        · exact .inl e
        · exact .inr ⟨h, e⟩
      · rintro (rfl | h)
        · exact mem_freeL.2 ⟨by omega, by omega, by simpa using hneg⟩
        · exact h.1
theorem cnt_set {own : List Int} {p : Nat} (hp : p < own.length) (i : Nat) (hf : own.getD p (-1) < 0) : cnt (own.set p (i : Int)) i = cnt own i + 1 := by
  have h := (ofL_set_perm hp i hf (List.Perm.refl _)).length_eq
  rw [List.length_append, ofL_len, ofL_len] at h
  simpa using h.symm
theorem cnt_set_ne {own : List Int} {p : Nat} (hp : p < own.length) {i j : Nat} (hij : j ≠ i) (hf : own.getD p (-1) < 0) : cnt (own.set p (i : Int)) j = cnt own j := by
  rw [← ofL_len, ← ofL_len, ofL_set_ne hp hij (by omega)]
end Go.Proofs.Ytbjjhnlifgbpmaa
