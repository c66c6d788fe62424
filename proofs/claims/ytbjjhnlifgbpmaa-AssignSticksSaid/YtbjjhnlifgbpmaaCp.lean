/- What covers asks for, told by members' lists. No program in sight. -/
import Derived.Test.YtbjjhnlifgbpmaaEu
import Derived.Test.YtbjjhnlifgbpmaaEn
namespace Go.Proofs.Ytbjjhnlifgbpmaa

theorem count_parts {f : Nat → List Int} (hr : ∀ j, (f j).Pairwise (· < ·)) (ha : ∀ i j x, x ∈ f i → x ∈ f j → i = j) (x : Int) : ∀ n, ((List.range n).flatMap f).count x = if ∃ i, i < n ∧ x ∈ f i then 1 else 0
  | 0 => by simp
  | n + 1 => by
    have ih := count_parts hr ha x n
    rw [List.range_succ, List.flatMap_append, List.count_append, ih]
    simp only [List.flatMap_cons, List.flatMap_nil, List.append_nil]
    by_cases hx : x ∈ f n
    · have h0 : ¬ ∃ i, i < n ∧ x ∈ f i := by rintro ⟨i, hi, h⟩; have := ha i n x h hx; omega
      have h1 : (f n).count x = 1 := by
        have := List.count_pos_iff.2 hx
        have := List.nodup_iff_count.1 (nodup_of_rising (hr n)) x
        omega
      rw [if_neg h0, if_pos ⟨n, by omega, hx⟩, h1]
    · rw [List.count_eq_zero.2 hx]
      by_cases h0 : ∃ i, i < n ∧ x ∈ f i
      · obtain ⟨i, hi, h⟩ := h0
        rw [if_pos ⟨i, hi, h⟩, if_pos ⟨i, by omega, h⟩]
      · rw [if_neg h0, if_neg]
        rintro ⟨i, hi, h⟩
        by_cases e : i = n
        · subst e; exact hx h
        · exact h0 ⟨i, by omega, h⟩
theorem flat_getD {os : List Ou} {n : Nat} {f : Nat → List Int} (hl : os.length = n) (hf : ∀ j, j < n → (os.getD j default).r.l = f j) : os.flatMap (·.r.l) = (List.range n).flatMap f := by
  have : os.map (·.r.l) = (List.range n).map f := by
    apply List.ext_getElem
    · simp [hl]
    · intro j h1 h2
      have hj : j < os.length := by simpa using h1
      simp only [List.getElem_map, List.getElem_range]
      rw [← hf j (by omega), List.getD_eq_getElem?_getD, List.getElem?_eq_getElem hj]
      rfl
  rw [List.flatMap_def, List.flatMap_def, this]
/-- What covers asks for. -/
theorem cov_of {os : List Ou} {n parts b : Nat} {f : Nat → List Int} (hl : os.length = n) (hf : ∀ j, j < n → (os.getD j default).r.l = f j) (hr : ∀ j, (f j).Pairwise (· < ·)) (ha : ∀ i j x, x ∈ f i → x ∈ f j → i = j)
    (hin : ∀ j, j < n → ∀ x, x ∈ f j → 0 ≤ x ∧ x < (parts : Int)) (hall : ∀ p, p < parts → ∃ i, i < n ∧ (p : Int) ∈ f i) (hb : ∀ j, j < n → b ≤ (f j).length ∧ (f j).length ≤ b + 1) :
    (∀ i (h : i < os.length), (os[i].r.l.Pairwise (· < ·)) ∧ (∀ x ∈ os[i].r.l, 0 ≤ x ∧ x < (parts : Int)) ∧ b ≤ os[i].r.l.length ∧ os[i].r.l.length ≤ b + 1) ∧
      (∀ p, p < parts → (os.flatMap (·.r.l)).count (p : Int) = 1) := by
  refine ⟨fun i h => ?_, fun p hp => ?_⟩
  · have e := hf i (by omega)
    rw [List.getD_eq_getElem?_getD, List.getElem?_eq_getElem h] at e
    simp only [Option.getD_some] at e
    rw [e]
    exact ⟨hr i, fun x hx => hin i (by omega) x hx, hb i (by omega)⟩
  · rw [flat_getD hl hf, count_parts hr ha, if_pos (hall p hp)]
theorem rangeL_in {parts n j : Nat} (hj : j < n) {x : Int} (hx : x ∈ rangeL parts n j) : 0 ≤ x ∧ x < (parts : Int) := by
  have h := mem_rangeL.1 hx
  have h1 := startR_mono parts n (j + 1) (n - (j + 1))
  rw [show j + 1 + (n - (j + 1)) = n from by omega, startR_end (by omega)] at h1
  omega
theorem cov_range {os : List Ou} {n parts : Nat} (hn : 1 ≤ n) (hl : os.length = n) (hf : ∀ j, j < n → (os.getD j default).r.l = rangeL parts n j) :
    (∀ i (h : i < os.length), (os[i].r.l.Pairwise (· < ·)) ∧ (∀ x ∈ os[i].r.l, 0 ≤ x ∧ x < (parts : Int)) ∧ parts / n ≤ os[i].r.l.length ∧ os[i].r.l.length ≤ parts / n + 1) ∧
      (∀ p, p < parts → (os.flatMap (·.r.l)).count (p : Int) = 1) :=
  cov_of hl hf (fun j => rangeL_rising parts n j) (fun _ _ _ h1 h2 => rangeL_apart h1 h2) (fun j hj x hx => rangeL_in hj hx)
    (fun p hp => rangeL_all p n (by rw [startR_end hn]; exact hp)) (fun j _ => by rw [rangeL_len]; unfold lenR; split <;> omega)
theorem cov_own {os : List Ou} {n parts : Nat} (hn : 1 ≤ n) (fs : List (List Int)) (hl : os.length = n) (hf : ∀ j, j < n → (os.getD j default).r.l = ofL (own4 parts n fs) j) :
    (∀ i (h : i < os.length), (os[i].r.l.Pairwise (· < ·)) ∧ (∀ x ∈ os[i].r.l, 0 ≤ x ∧ x < (parts : Int)) ∧ parts / n ≤ os[i].r.l.length ∧ os[i].r.l.length ≤ parts / n + 1) ∧
      (∀ p, p < parts → (os.flatMap (·.r.l)).count (p : Int) = 1) :=
  cov_of hl hf (fun j => ofL_rising _ j) (fun _ _ _ h1 h2 => ofL_apart h1 h2) (fun j _ x hx => by have := mem_ofL.1 hx; rw [own4_len] at this; exact ⟨this.1, this.2.1⟩)
    (fun p hp => own4_all hn fs hp) (fun j hj => by rw [ofL_len]; exact (own4_fair parts n hn fs).2.2 j hj)
end Go.Proofs.Ytbjjhnlifgbpmaa
