/- What a table keeps by noting: keys, numbers and counts stay in range. No program in sight but for the batches' check. -/
import Derived.Test.YtejjiiakficafaaOnceLaw
import Derived.Test.YtejjiiakficafaaEnts
namespace Go.Proofs.Ytejjiiakficafaa

/-- A table whose keys, numbers and counts are in range. -/
def GoodM (m : List (Int × St)) (i : Nat) : Prop :=
  ∀ x ∈ m, 0 ≤ x.1 ∧ x.1 < 281474976710656 ∧ 0 ≤ x.2.next ∧ x.2.next ≤ 2147483648 ∧ x.2.ds.length ≤ i

theorem GoodM.mono {m : List (Int × St)} {i j : Nat} (h : GoodM m i) (hj : i ≤ j) : GoodM m j := fun x hx => by
  obtain ⟨a, b, c, d, e⟩ := h x hx
  exact ⟨a, b, c, d, by omega⟩
theorem GoodM.nil (i : Nat) : GoodM [] i := fun x hx => by simp at hx
theorem lookI_some {α : Type} {m : List (Int × α)} {p : Int} {v : α} (h : lookI m p = some v) : (p, v) ∈ m := by
  unfold lookI at h
  cases hf : m.find? (fun x => x.1 == p) with
  | none => rw [hf] at h; cases h
  | some x =>
    rw [hf] at h
    have h1 := List.mem_of_find?_eq_some hf
    have h2 : x.1 = p := by simpa using List.find?_some hf
    obtain ⟨a, b⟩ := x
    simp at h h2
    subst h h2
    exact h1
theorem GoodM.look {m : List (Int × St)} {i : Nat} (h : GoodM m i) {p : Int} {st : St} (hs : lookI m p = some st) : 0 ≤ st.next ∧ st.next ≤ 2147483648 ∧ st.ds.length ≤ i := by
  obtain ⟨_, _, c, d, e⟩ := h _ (lookI_some hs)
  exact ⟨c, d, e⟩
theorem mem_insI {α : Type} {x y : Int × α} : ∀ {l : List (Int × α)}, y ∈ insI x l → y = x ∨ y ∈ l
  | [], h => by simp [insI] at h; exact .inl h
  | z :: l, h => by
    unfold insI at h
    split at h
    · rcases List.mem_cons.1 h with h | h
      · exact .inl h
      · exact .inr h
    · rcases List.mem_cons.1 h with h | h
      · exact .inr (h ▸ List.mem_cons_self ..)
      · rcases mem_insI h with h | h
        · exact .inl h
        · exact .inr (List.mem_cons_of_mem _ h)
theorem mem_putI {α : Type} {m : List (Int × α)} {k : Int} {v : α} {y : Int × α} (h : y ∈ putI m k v) : y = (k, v) ∨ y ∈ m := by
  rcases mem_insI h with h | h
  · exact .inl h
  · exact .inr ((List.mem_filter.1 h).1)

theorem GoodM.note {m : List (Int × St)} {i : Nat} (h : GoodM m i) (k p ep s : Int) (t : Bool) (rs : List Rec) (off : Int) : GoodM (noteF m k p ep s t rs off).2 (i + 1) := by
  unfold noteF
  split
  · exact h.mono (by omega)
  · split
    · exact h.mono (by omega)
    · rename_i h1 h2
      have e1 : (decideF (lookI m p) k p ep s t rs).2.2 = 0 := by
        by_cases e : (decideF (lookI m p) k p ep s t rs).2.2 = 0
        · exact e
        · exact absurd (.inl e) h2
      have e2 : (decideF (lookI m p) k p ep s t rs).2.1 = false := by
        cases e : (decideF (lookI m p) k p ep s t rs).2.1
        · rfl
        · exact absurd (.inr (.inl e)) h2
      have e3 : 0 ≤ p := by
        by_cases e : 0 ≤ p
        · exact e
        · exact absurd (.inr (.inr (by omega))) h2
      have hc := decideF_check e1 e3
      obtain ⟨c1, c2, c3, c4, c5⟩ := checkE_ok hc
      intro x hx
      rcases mem_putI hx with rfl | hx
      · refine ⟨e3, c4, ?_⟩
        dsimp only
        unfold decideF at e1 e2
        rw [if_neg (by simp [hc]; omega)] at e1 e2
        unfold noteSt
        cases hl : lookI m p with
        | none =>
          rw [hl] at e1 e2
          by_cases hk : k = 1
          · subst hk
            simp at e1 e2
            have := ringF_ok e1 e2
            obtain ⟨d1, d2, d3⟩ := c5 rfl
            simp [st0] at this ⊢
            omega
          · simp [hk]
        | some st =>
          obtain ⟨g1, g2, g3⟩ := h.look hl
          rw [hl] at e1 e2
          by_cases hk : k = 1
          · subst hk
            by_cases he : ep < st.epoch
            · simp [he] at e1
            · simp [he] at e1 e2
              obtain ⟨d1, d2, d3⟩ := c5 rfl
              by_cases he2 : st.epoch = ep
              · subst he2
                simp at e1 e2
                have := ringF_ok e1 e2
                simp
                omega
              · have he3 : st.epoch < ep := by omega
                simp [he3] at e1 e2
                have := ringF_ok e1 e2
                simp [st0] at this
                simp [he2]
                omega
          · by_cases he2 : st.epoch = ep
            · simp [hk, he2]; omega
            · simp [hk, he2]
      · obtain ⟨a, b, c, d, e⟩ := h x hx
        exact ⟨a, b, c, d, by omega⟩
theorem GoodM.ents {m : List (Int × St)} {i : Nat} (h : GoodM m i) : ∀ x ∈ m.map entOf, x.last.length ≤ 5 ∧ 0 ≤ x.nx ∧ x.nx ≤ 2147483648 := by
  intro x hx
  obtain ⟨y, hy, rfl⟩ := List.mem_map.1 hx
  obtain ⟨a, b, c, d, e⟩ := h y hy
  exact ⟨by simp only [entOf, lasts_length]; omega, c, d⟩
theorem sorted_ents {m : List (Int × St)} (h : m.Pairwise fun a b => a.1 < b.1) : (m.map entOf).Pairwise fun a b => a.p < b.p := by
  rw [List.pairwise_map]; exact h
end Go.Proofs.Ytejjiiakficafaa
