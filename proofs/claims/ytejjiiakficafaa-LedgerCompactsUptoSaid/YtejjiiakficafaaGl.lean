/- What a ledger keeps by taking entries: its numbers stay in range. No walk. -/
import Derived.Test.YtejjiiakficafaaPu
namespace Go.Proofs.Ytejjiiakficafaa

theorem GoodL.mono {L : Lg} {n k : Nat} (h : GoodL L n) (hk : n ≤ k) : GoodL L k :=
  ⟨h.m.mono hk, by have := h.rl; omega, by have := h.ol; omega, by have := h.gl; omega, h.s0, h.sf, by have := h.ff; omega, h.key, h.off, h.fst⟩
theorem GoodL.stable {L : Lg} {n : Nat} (h : GoodL L n) : 0 ≤ L.stable ∧ L.stable ≤ L.fin := by
  have h1 := h.s0
  have h2 := h.sf
  exact stableF_in L.fin 0 L.fin L.opn (by omega) (Int.le_refl _) (fun t ht => by have := h.fst t ht; omega)

/-- What the check lets in of a batch's length. -/
theorem checkE_len2 {k p ep s : Int} {t : Bool} {rs : List Rec} (h : checkE k p ep s t rs = 0) : (k = 1 ∧ 1 ≤ rs.length ∧ isM k = false) ∨ (k ≠ 1 ∧ rs.length = 0 ∧ isM k = true) := by
  by_cases hk : k = 1
  · exact .inl ⟨hk, ((checkE_ok h).2.2.2.2 hk).1, by rw [hk]; rfl⟩
  · unfold checkE at h
    repeat' split at h
    all_goals first | (exfalso; omega) | skip
    rename_i h1 _ _ _ h5 _ _
    have hm : isM k = true := by simpa [q1, hk] using h1
    simp [q5, hm] at h5
    exact .inr ⟨hk, by simp [h5], hm⟩

theorem GoodL.put {L : Lg} {nn : Nat} (h : GoodL L nn) {b : Bat} (hc : checkE b.k b.p b.ep b.s b.t b.rs = 0) (hk : ∀ r ∈ b.rs, r.key.size ≤ 140737488351232) : GoodL (L.put b) (nn + 1) := by
  obtain ⟨k, p, ep, s, t, rs⟩ := b
  dsimp only at hc hk
  have hl := checkE_len hc
  have h2 := checkE_len2 hc
  have hb : lenB (isM k) rs.length = if k = 1 then (rs.length : Int) else 1 := by
    rcases h2 with ⟨e1, e2, e3⟩ | ⟨e1, e2, e3⟩
    · rw [if_pos e1]; unfold lenB; rw [e3]; rfl
    · simp [lenB, e1, e3]
  have hb1 : 1 ≤ lenB (isM k) rs.length ∧ lenB (isM k) rs.length ≤ 64 := by rw [hb]; split <;> omega
  have g1 := h.rl
  have g2 := h.ol
  have g3 := h.gl
  have g4 := h.s0
  have g5 := h.sf
  have g6 := h.ff
  refine ⟨h.m.note k p ep s t rs L.fin, ?_, ?_, ?_, g4, ?_, ?_, ?_, ?_, ?_⟩
  · simp [Lg.put, rowsOf]; omega
  · skip
    simp only [Lg.put]
    split
    · split <;> (try simp) <;> omega
    · split
      · have := List.length_eraseIdx_le L.opn ‹_›; omega
      · omega
  · simp only [Lg.put]
    split
    · omega
    · split
      · split <;> (try simp) <;> omega
      · omega
  · simp only [Lg.put]; omega
  · simp only [Lg.put]; omega
  · intro r hr
    simp only [Lg.put, List.mem_append] at hr
    rcases hr with hr | hr
    · exact h.key r hr
    · obtain ⟨i, hi, rfl⟩ := List.mem_mapIdx.1 hr
      exact hk _ (List.getElem_mem _)
  · intro r hr
    simp only [Lg.put, List.mem_append] at hr ⊢
    rcases hr with hr | hr
    · have := h.off r hr; omega
    · obtain ⟨i, hi, rfl⟩ := List.mem_mapIdx.1 hr
      dsimp only
      rcases h2 with ⟨e1, e2, e3⟩ | ⟨e1, e2, e3⟩
      · rw [hb, if_pos e1]; omega
      · omega
  · intro x hx
    simp only [Lg.put] at hx ⊢
    have old : x ∈ L.opn → 0 ≤ x.first ∧ x.first < L.fin + lenB (isM k) rs.length := fun hx => by have := h.fst x hx; omega
    split at hx
    · split at hx
      · rcases List.mem_append.1 hx with hx | hx
        · exact old hx
        · rw [List.mem_singleton.1 hx]; dsimp only; omega
      · exact old hx
    · split at hx
      · exact old (List.mem_of_mem_eraseIdx hx)
      · exact old hx

/-- What Decide lets through. -/
theorem decide_go {L : Lg} {x : En} (h1 : (L.decide x).2.2 = 0) (h2 : (L.decide x).2.1 = false) : rightB x = true ∧ (x.kind ≠ 1 → x.n ≤ L.stable) ∧ (x.kind = 2 → L.start < x.n) := by
  unfold Lg.decide at h1 h2
  by_cases e0 : rightB x = false
  · rw [if_pos e0] at h1; simp at h1
  · rw [if_neg e0] at h1 h2
    refine ⟨by simpa using e0, ?_, ?_⟩
    · intro hk
      by_cases e : L.stable < x.n
      · rw [if_pos ⟨hk, e⟩] at h1; simp at h1
      · omega
    · intro hk
      by_cases e : x.kind ≠ 1 ∧ L.stable < x.n
      · rw [if_pos e] at h1; simp at h1
      · rw [if_neg e, if_pos hk] at h2
        simp at h2
        omega
theorem GoodL.apply {L : Lg} {nn : Nat} (h : GoodL L nn) (x : En) (hk : ∀ r ∈ x.b.rs, r.key.size ≤ 140737488351232) : GoodL (L.apply x) (nn + 1) := by
  unfold Lg.apply
  by_cases hd : (L.decide x).2.2 ≠ 0 ∨ (L.decide x).2.1 = true
  · rw [if_pos hd]; exact h.mono (by omega)
  · rw [if_neg hd]
    have h1 : (L.decide x).2.2 = 0 := by
      by_cases e : (L.decide x).2.2 = 0
      · exact e
      · exact absurd (.inl e) hd
    have h2 : (L.decide x).2.1 = false := by
      cases e : (L.decide x).2.1
      · rfl
      · exact absurd (.inr e) hd
    obtain ⟨r1, r2, r3⟩ := decide_go h1 h2
    have g1 := h.rl
    have g2 := h.ol
    have g3 := h.gl
    have g4 := h.s0
    have g5 := h.sf
    have g6 := h.ff
    have g7 := h.stable
    by_cases e1 : x.kind = 1
    · rw [if_pos e1]
      exact h.put (by simp [rightB, e1] at r1; exact r1.2) hk
    · rw [if_neg e1]
      have r2' := r2 e1
      by_cases e2 : x.kind = 2
      · rw [if_pos e2]
        have r3' := r3 e2
        refine ⟨h.m.mono (by omega), ?_, ?_, ?_, ?_, ?_, ?_, ?_, ?_, ?_⟩
        · have := List.length_filter_le (fun r : Rw => decide (x.n ≤ r.off)) L.rows; simp; omega
        · simp; omega
        · have := List.length_filter_le (fun g : Gn => decide (x.n ≤ g.last)) L.gone; simp; omega
        · simp; omega
        · simp; omega
        · simp; omega
        · intro r hr; exact h.key r (List.mem_filter.1 hr).1
        · intro r hr; exact h.off r (List.mem_filter.1 hr).1
        · exact h.fst
      · rw [if_neg e2]
        refine ⟨h.m.mono (by omega), ?_, ?_, ?_, g4, g5, ?_, ?_, ?_, h.fst⟩
        · have := List.length_filter_le (staysP L.gone x.n (lastF L.gone x.n L.rows)) L.rows; simp [Lg.kept]; omega
        · simp; omega
        · simp; omega
        · simp; omega
        · intro r hr; exact h.key r (List.mem_filter.1 hr).1
        · intro r hr; exact h.off r (List.mem_filter.1 hr).1
end Go.Proofs.Ytejjiiakficafaa
