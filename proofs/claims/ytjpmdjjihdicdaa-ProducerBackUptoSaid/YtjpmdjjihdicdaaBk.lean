/- A table that noting made may be told and loaded; what is loaded decides and notes alike. No program in sight but for the batches' check. -/
import Derived.Test.YtjpmdjjihdicdaaLw
namespace Go.Proofs.Ytjpmdjjihdicdaa

theorem rightD_pre : ∀ (a b : List Dn) (nx : Int), rightD nx (a ++ b) = true → rightD nx a = true
  | [], _, _, _ => rfl
  | d :: a, b, nx, h => by
    simp only [List.cons_append, rightD, Bool.and_eq_true] at h ⊢
    exact ⟨h.1, rightD_pre a b _ h.2⟩
theorem rightD_mem : ∀ (l : List Dn) (nx : Int), nx ≤ 2147483648 → rightD nx l = true → ∀ d ∈ l, 1 ≤ d.len ∧ d.len ≤ 64 ∧ 0 ≤ d.off ∧ d.off ≤ 281474976710656 ∧ 0 ≤ d.seq ∧ d.seq ≤ 2147483648
  | [], _, _, _, d, hd => by simp at hd
  | x :: l, nx, hn, h, d, hd => by
    simp only [rightD, Bool.and_eq_true, Bool.not_eq_true'] at h
    have hb := h.1
    unfold badD at hb
    simp at hb
    rcases List.mem_cons.1 hd with rfl | hd
    · omega
    · exact rightD_mem l x.seq (by omega) h.2 d hd

/-- What noting keeps, besides. -/
def GoodR (m : List (Int × St)) : Prop := ∀ x ∈ m, 0 ≤ x.1 ∧ x.1 < 281474976710656 ∧ 0 ≤ x.2.epoch ∧ x.2.epoch < 2147483648 ∧ 0 ≤ x.2.next ∧ x.2.next ≤ 2147483648 ∧ rightD x.2.next x.2.ds.reverse = true
theorem GoodR.nil : GoodR [] := fun x hx => by simp at hx
theorem GoodR.note {m : List (Int × St)} (h : GoodR m) (k p ep s : Int) (t : Bool) (rs : List Rec) (off : Int) : GoodR (noteF m k p ep s t rs off).2 := by
  unfold noteF
  split
  · exact h
  · rename_i h0
    split
    · exact h
    · rename_i h2
      have e1 : (decideF (lookI m p) k p ep s t rs).2.2 = 0 := by
        by_cases e : (decideF (lookI m p) k p ep s t rs).2.2 = 0
        · exact e
        · exact absurd (.inl e) h2
      have e2 : (decideF (lookI m p) k p ep s t rs).2.1 = false := by
        cases e : (decideF (lookI m p) k p ep s t rs).2.1
        · rfl
        · exact absurd (.inr (.inl e)) h2
      have e3 : 0 ≤ p := by
        by_cases e : 0 ≤ p
        · exact e
        · exact absurd (.inr (.inr (by omega))) h2
      have hc := decideF_check e1 e3
      obtain ⟨c1, c2, c3, c4, c5⟩ := checkE_ok hc
      have ho : 0 ≤ off ∧ off ≤ 281474976710656 := by omega
      clear h0 h2
      intro x hx
      rcases mem_putI hx with rfl | hx
      · refine ⟨e3, c4, ?_⟩
        dsimp only
        unfold decideF at e1 e2
        rw [if_neg (by simp [hc]; omega)] at e1 e2
        unfold noteSt
        have fresh : k = 1 → s = 0 → rightD (0 + (rs.length : Int)) ([] ++ [(⟨s, rs.length, off⟩ : Dn)]).reverse = true := by
          intro hk hs
          obtain ⟨d1, d2, d3⟩ := c5 hk
          subst hs
          simp only [List.nil_append, List.reverse_singleton, rightD, badD, Bool.and_true, Bool.not_eq_true']
          simp
          omega
        cases hl : lookI m p with
        | none =>
          rw [hl] at e1 e2
          by_cases hk : k = 1
          · subst hk
            simp at e1 e2
            have := ringF_ok e1 e2
            obtain ⟨d1, d2, d3⟩ := c5 rfl
            simp [st0] at this
            have hf := fresh rfl this
            simp at hf ⊢
            exact ⟨by omega, by omega, by omega, hf⟩
          · simp [hk, rightD]; omega
        | some st =>
          obtain ⟨_, _, g1, g2, g3, g4, g5⟩ := h _ (lookI_some hl)
          dsimp only at g1 g2 g3 g4 g5
          rw [hl] at e1 e2
          by_cases hk : k = 1
          · subst hk
            by_cases he : ep < st.epoch
            · simp [he] at e1
            · simp [he] at e1 e2
              obtain ⟨d1, d2, d3⟩ := c5 rfl
              by_cases he2 : st.epoch = ep
              · subst he2
                simp at e1 e2
                have hs := ringF_ok e1 e2
                simp
                refine ⟨by omega, by omega, by omega, by omega, ?_⟩
                simp only [rightD, Bool.and_eq_true, Bool.not_eq_true']
                refine ⟨?_, by rw [hs]; exact g5⟩
                unfold badD
                simp
                omega
              · have he3 : st.epoch < ep := by omega
                simp [he3] at e1 e2
                have := ringF_ok e1 e2
                simp [st0] at this
                have hf := fresh rfl this
                simp [he2] at hf ⊢
                exact ⟨by omega, by omega, by omega, hf⟩
          · by_cases he2 : st.epoch = ep
            · simp [hk, he2]; exact ⟨by omega, by omega, by omega, by omega, g5⟩
            · simp [hk, he2, rightD]; omega
      · exact h x hx

theorem lasts_rev (ds : List Dn) : ∃ r, ds.reverse = (lasts ds).reverse ++ r := by
  refine ⟨(ds.take (ds.length - 5)).reverse, ?_⟩
  unfold lasts
  rw [← List.reverse_append, List.take_append_drop]
theorem GoodR.right {m : List (Int × St)} (h : GoodR m) : ∀ x ∈ m, rightE (entOf x) = true ∧ ∀ d ∈ (entOf x).last, 1 ≤ d.len ∧ d.len ≤ 64 ∧ 0 ≤ d.off ∧ d.off ≤ 281474976710656 ∧ 0 ≤ d.seq ∧ d.seq ≤ 2147483648 := by
  intro x hx
  obtain ⟨a, b, c, d, e, f, g⟩ := h x hx
  obtain ⟨r, hr⟩ := lasts_rev x.2.ds
  rw [hr] at g
  have g' := rightD_pre _ _ _ g
  have hl := lasts_length x.2.ds
  refine ⟨?_, fun y hy => rightD_mem _ _ f g' y (List.mem_reverse.2 hy)⟩
  unfold rightE badE entOf
  dsimp only
  rw [g']
  simp
  omega
theorem goodFrom_of : ∀ (l : List Ent) (q : Int), (∀ x ∈ l, rightE x = true ∧ q < x.p) → (l.Pairwise fun a b => a.p < b.p) → goodFrom q l = true
  | [], _, _, _ => rfl
  | x :: l, q, h, hp => by
    obtain ⟨h1, h2⟩ := h x (List.mem_cons_self ..)
    obtain ⟨p1, p2⟩ := List.pairwise_cons.1 hp
    simp only [goodFrom, h1, h2, decide_true, Bool.true_and]
    exact goodFrom_of l x.p (fun y hy => ⟨(h y (List.mem_cons_of_mem _ hy)).1, p1 y hy⟩) p2
/-- The entries of a table that noting made may be loaded. -/
theorem GoodR.load {m : List (Int × St)} (h : GoodR m) (hs : m.Pairwise fun a b => a.1 < b.1) : goodL (m.map entOf) = true := by
  refine goodFrom_of _ _ (fun x hx => ?_) (sorted_ents hs)
  obtain ⟨y, hy, rfl⟩ := List.mem_map.1 hx
  have := h y hy
  exact ⟨(h.right y hy).1, by simp only [entOf]; omega⟩

/-- Tables with the same entries decide alike .. -/
theorem decide_alike {m m' : List (Int × St)} (h : m.map entOf = m'.map entOf) (k p ep s : Int) (t : Bool) (rs : List Rec) : decideF (lookI m p) k p ep s t rs = decideF (lookI m' p) k p ep s t rs := by
  rw [← decideR_eq, ← decideR_eq, h]
/-- .. and note alike. -/
theorem note_alike {m m' : List (Int × St)} (h : m.map entOf = m'.map entOf) (hm : m.Pairwise fun a b => a.1 < b.1) (hm' : m'.Pairwise fun a b => a.1 < b.1) (k p ep s : Int) (t : Bool) (rs : List Rec) (off : Int) :
    (noteF m k p ep s t rs off).1 = (noteF m' k p ep s t rs off).1 ∧ (noteF m k p ep s t rs off).2.map entOf = (noteF m' k p ep s t rs off).2.map entOf := by
  have h1 := noteR_eq m hm k p ep s t rs off
  have h2 := noteR_eq m' hm' k p ep s t rs off
  rw [h, h2] at h1
  exact ⟨(congrArg Prod.fst h1).symm, (congrArg Prod.snd h1).symm⟩
end Go.Proofs.Ytjpmdjjihdicdaa
