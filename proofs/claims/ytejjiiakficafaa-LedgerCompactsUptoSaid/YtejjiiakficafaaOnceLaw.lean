/- The plain law behind ProducerOnce: a producer's numbers go on one behind the other. No program in sight but for the batches' check. -/
import Derived.Test.YtejjiiakficafaaNote
namespace Go.Proofs.Ytejjiiakficafaa

theorem lookI_ins {α : Type} (x : Int × α) (q : Int) : ∀ l : List (Int × α), (∀ y ∈ l, y.1 ≠ x.1) → lookI (insI x l) q = if q = x.1 then some x.2 else lookI l q
  | [], _ => by
    by_cases e : q = x.1
    · simp [lookI, insI, e]
    · have e' : ¬ x.1 = q := fun h => e h.symm
      simp [lookI, insI, e, e']
  | y :: r, h => by
    unfold insI
    split
    · by_cases e : q = x.1
      · simp [lookI, e]
      · have e' : ¬ x.1 = q := fun h => e h.symm
        simp [lookI, e, e']
    · have ih := lookI_ins x q r (fun z hz => h z (List.mem_cons_of_mem _ hz))
      have hy := h y (List.mem_cons_self ..)
      unfold lookI at ih ⊢
      by_cases e : y.1 = q
      · have : ¬ q = x.1 := fun h => hy (e.trans h)
        simp [e, this]
      · rw [List.find?_cons_of_neg (by simpa using e), ih, List.find?_cons_of_neg (by simpa using e)]
theorem lookI_del {α : Type} (m : List (Int × α)) (k q : Int) (h : q ≠ k) : lookI (delI m k) q = lookI m q := by
  unfold lookI delI
  rw [List.find?_filter]
  congr 2
  funext p
  by_cases e : p.1 = q
  · have : ¬ p.1 = k := fun h' => h (e.symm.trans h')
    simp [e, h]
  · simp [e]
theorem lookI_put {α : Type} (m : List (Int × α)) (k : Int) (v : α) (q : Int) : lookI (putI m k v) q = if q = k then some v else lookI m q := by
  unfold putI
  rw [lookI_ins _ _ _ (by intro y hy; simpa [delI] using (List.mem_filter.1 hy).2)]
  dsimp only
  split
  · rfl
  · exact lookI_del m k q ‹_›

/-- What the check lets in. -/
theorem checkE_ok {k p ep s : Int} {t : Bool} {rs : List Rec} (h : checkE k p ep s t rs = 0) : 0 ≤ ep ∧ ep < 2147483648 ∧ 0 ≤ s ∧ p < 281474976710656 ∧
    (k = 1 → 1 ≤ rs.length ∧ rs.length ≤ 64 ∧ s + rs.length ≤ 2147483648) := by
  unfold checkE at h
  repeat' split at h
  all_goals first | (exfalso; omega) | skip
  all_goals simp [q1, q2, q3, q4, q5, q6, lenB] at *
  refine ⟨by omega, by omega, by omega, by omega, fun hk => ?_⟩
  subst hk
  simp [show isM 1 = false from rfl] at *
  have := List.length_pos_iff.2 (show rs ≠ [] by rintro rfl; simp_all)
  omega

theorem ringF_ok {st : St} {s : Int} {n : Nat} (h : (ringF st s n).2.2 = 0) (h2 : (ringF st s n).2.1 = false) : s = st.next := by
  unfold ringF at h h2
  by_cases e : s = st.next
  · exact e
  · exfalso
    simp only [e, if_false] at h h2
    cases hf : (lasts st.ds).find? (fun d => d.seq == s && d.len == (n : Int)) with
    | some d => rw [hf] at h2; simp at h2
    | none => rw [hf] at h; simp only at h; by_cases h3 : s < st.next <;> simp [h3] at h

structure Onc (m : List (Int × St)) (tp : Int → Int) (nx : Int × Int → Int) (i : Nat) : Prop where
  neg : ∀ p st, lookI m p = some st → 0 ≤ p
  some : ∀ p st, 0 ≤ p → lookI m p = some st → 0 ≤ st.epoch ∧ st.epoch < 2147483648 ∧ tp p = st.epoch ∧ nx (p, st.epoch) = st.next ∧ (∀ e, st.epoch < e → nx (p, e) = 0) ∧ 0 ≤ st.next ∧ st.next ≤ 2147483648 ∧ st.ds.length ≤ i
  none : ∀ p, 0 ≤ p → lookI m p = none → tp p = 0 ∧ ∀ e, nx (p, e) = 0

theorem Onc.start : Onc [] (fun _ => 0) (fun _ => 0) 0 := ⟨fun _ _ h => by simp [lookI] at h, fun _ _ _ h => by simp [lookI] at h, fun _ _ _ => ⟨rfl, fun _ => rfl⟩⟩
theorem Onc.mono {m : List (Int × St)} {tp : Int → Int} {nx : Int × Int → Int} {i j : Nat} (h : Onc m tp nx i) (hj : i ≤ j) : Onc m tp nx j :=
  ⟨h.neg, fun p st hp hs => by obtain ⟨a, b, c, d, e, f, g, n⟩ := h.some p st hp hs; exact ⟨a, b, c, d, e, f, g, by omega⟩, h.none⟩

/-- A batch that is let in and new: what it means. -/
theorem Onc.ok {m : List (Int × St)} {tp : Int → Int} {nx : Int × Int → Int} {i : Nat} (h : Onc m tp nx i) (off : Int) {k p ep s : Int} {t : Bool} {rs : List Rec} (hp : 0 ≤ p)
    (hd : (decideF (lookI m p) k p ep s t rs).2.2 = 0) (hn : (decideF (lookI m p) k p ep s t rs).2.1 = false) :
    tp p ≤ ep ∧ checkE k p ep s t rs = 0 ∧ (k = 1 → s = nx (p, ep)) ∧
    Onc (putI m p (noteSt (lookI m p) k ep s rs.length off)) (fun q => if q = p then ep else tp q) (if k = 1 then (fun q => if q = (p, ep) then nx (p, ep) + rs.length else nx q) else nx) (i + 1) := by
  have hc := decideF_check hd hp
  have hneg : ∀ q st, lookI (putI m p (noteSt (lookI m p) k ep s rs.length off)) q = Option.some st → 0 ≤ q := by
    intro q st hst
    rw [lookI_put] at hst
    split at hst
    · omega
    · exact h.neg q st hst
  obtain ⟨c1, c2, c3, c4, c5⟩ := checkE_ok hc
  unfold decideF at hd hn
  rw [if_neg (by omega)] at hd hn
  cases hl : lookI m p with
  | none =>
    obtain ⟨z1, z2⟩ := h.none p hp hl
    rw [hl] at hd hn
    simp at hd hn
    have hs : k = 1 → s = 0 := by
      intro hk
      simp [hk] at hd hn
      exact ringF_ok hd hn
    refine ⟨by omega, hc, fun hk => by rw [z2, hs hk], hl ▸ hneg, fun q st hq hst => ?_, fun q hq hst => ?_⟩
    · rw [lookI_put] at hst
      by_cases e : q = p
      · subst e
        simp [noteSt] at hst
        by_cases hk : k = 1
        · simp [hk] at hst ⊢
          subst hst
          have := c5 hk
          have := hs hk
          refine ⟨c1, c2, rfl, by simp [z2], fun e he => ?_, by simp, by simp; omega, by simp⟩
          rw [if_neg (by intro h; dsimp only at he; omega), z2]
        · simp [hk] at hst ⊢
          subst hst
          exact ⟨c1, c2, rfl, z2 _, fun e _ => z2 e, by simp, by simp, by simp⟩
      · rw [if_neg e] at hst
        obtain ⟨a1, a2, a3, a4, a5, a6, a7, a8⟩ := h.some q st hq hst
        refine ⟨a1, a2, by simp [e, a3], ?_, fun x hx => ?_, a6, a7, by omega⟩
        · split <;> simp [e, a4]
        · split <;> simp [e, a5 x hx]
    · rw [lookI_put] at hst
      by_cases e : q = p
      · rw [if_pos e] at hst; cases hst
      · rw [if_neg e] at hst
        obtain ⟨a1, a2⟩ := h.none q hq hst
        refine ⟨by simp [e, a1], fun x => ?_⟩
        split <;> simp [e, a2]
  | some u =>
    obtain ⟨b1, b2, b3, b4, b5, b6, b7, b8⟩ := h.some p u hp hl
    rw [hl] at hd hn
    by_cases hlt : ep < u.epoch
    · exfalso
      simp [hlt] at hd
    have hle : u.epoch ≤ ep := by omega
    have hnx : nx (p, ep) = if u.epoch < ep then 0 else u.next := by
      split
      · exact b5 _ ‹_›
      · rw [← b4]; congr 2; omega
    have hs : k = 1 → s = nx (p, ep) := by
      intro hk
      rw [hnx]
      simp [hk, hlt] at hd hn
      by_cases hlt2 : u.epoch < ep
      · simp [hlt2] at hd hn ⊢
        exact ringF_ok hd hn
      · simp [hlt2] at hd hn ⊢
        exact ringF_ok hd hn
    refine ⟨by omega, hc, hs, hl ▸ hneg, fun q st hq hst => ?_, fun q hq hst => ?_⟩
    · rw [lookI_put] at hst
      by_cases e : q = p
      · subst e
        simp [noteSt] at hst
        by_cases he : u.epoch = ep
        · have hnx' : nx (q, ep) = u.next := by rw [hnx, if_neg (by omega)]
          by_cases hk : k = 1
          · simp [hk, he] at hst ⊢
            subst hst
            have := c5 hk
            have := hs hk
            refine ⟨by simp; omega, by simp; omega, by simp, by simp [hnx'], fun x hx => ?_, by simp; omega, by simp; omega, by simp; omega⟩
            simp only at hx
            rw [if_neg (by intro h; omega)]
            exact b5 x (by omega)
          · simp [hk, he] at hst ⊢
            subst hst
            exact ⟨by omega, by omega, he.symm, b4, fun x hx => b5 x hx, b6, b7, by omega⟩
        · have hnx' : nx (q, ep) = 0 := by rw [hnx, if_pos (by omega)]
          by_cases hk : k = 1
          · simp [hk, he] at hst ⊢
            subst hst
            have := c5 hk
            have := hs hk
            refine ⟨c1, c2, rfl, by simp [hnx'], fun x hx => ?_, by simp, by simp; omega, by simp⟩
            simp only at hx
            rw [if_neg (by intro h; omega)]
            exact b5 x (by omega)
          · simp [hk, he] at hst ⊢
            subst hst
            exact ⟨c1, c2, rfl, hnx', fun x hx => b5 x (by simp only at hx; omega), by simp, by simp, by simp⟩
      · rw [if_neg e] at hst
        obtain ⟨a1, a2, a3, a4, a5, a6, a7, a8⟩ := h.some q st hq hst
        refine ⟨a1, a2, by simp [e, a3], ?_, fun x hx => ?_, a6, a7, by omega⟩
        · split <;> simp [e, a4]
        · split <;> simp [e, a5 x hx]
    · rw [lookI_put] at hst
      by_cases e : q = p
      · rw [if_pos e] at hst; cases hst
      · rw [if_neg e] at hst
        obtain ⟨a1, a2⟩ := h.none q hq hst
        refine ⟨by simp [e, a1], fun x => ?_⟩
        split <;> simp [e, a2]
end Go.Proofs.Ytejjiiakficafaa
