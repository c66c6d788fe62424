/- How many each member owns: base and one more at the most. No program in sight. -/
import Derived.Test.YtbjjhnlifgbpmaaOx
namespace Go.Proofs.Ytbjjhnlifgbpmaa
theorem cnt_set_le (i j : Nat) : ∀ (own : List Int) (p : Nat), cnt (own.set p (i : Int)) j ≤ cnt own j + if j = i then 1 else 0
  | [], p => by simp [cnt]
  | x :: r, 0 => by
    simp only [List.set_cons_zero, cnt, List.countP_cons, beq_iff_eq]
    split <;> split <;> split <;> omega
  | x :: r, p + 1 => by
    have := cnt_set_le i j r p
    simp only [List.set_cons_succ, cnt, List.countP_cons] at this ⊢
    omega
theorem cnt_set_off {i j : Nat} (h : j ≠ i) (own : List Int) (p : Nat) : cnt (own.set p (i : Int)) j ≤ cnt own j := by
  have := cnt_set_le i j own p
  rw [if_neg h] at this; exact this
theorem cnt_sets_le (i j : Nat) : ∀ (l : List Int) (own : List Int), cnt (setsF own i l) j ≤ cnt own j + if j = i then l.length else 0
  | [], own => by simp [setsF]
  | p :: l, own => by
    have h1 := cnt_sets_le i j l (own.set p.toNat (i : Int))
    have h2 := cnt_set_le i j own p.toNat
    have e : setsF own i (p :: l) = setsF (own.set p.toNat (i : Int)) i l := rfl
    rw [e, List.length_cons]
    split <;> simp_all <;> omega
theorem cnt_own0 (parts j : Nat) : cnt (own0 parts) j = 0 := by
  unfold cnt own0
  rw [List.countP_eq_zero]
  intro x hx
  rw [(List.mem_replicate.1 hx).2]
  simp only [beq_iff_eq]
  omega
theorem cnt_keep (base : Nat) (hads : List (List Int)) (parts j : Nat) : ∀ k, cnt (keepTo base hads (own0 parts) k) j ≤ if j < k then base else 0
  | 0 => by rw [keepTo, cnt_own0]; omega
  | k + 1 => by
    have h := cnt_keep base hads parts j k
    have h2 := cnt_sets_le k j ((hads.getD k []).take base) (keepTo base hads (own0 parts) k)
    have h3 : ((hads.getD k []).take base).length ≤ base := by rw [List.length_take]; omega
    rw [keepTo]
    by_cases e : j = k
    · rw [if_pos e] at h2; rw [if_neg (by omega)] at h; rw [if_pos (by omega)]; omega
    · rw [if_neg e] at h2
      by_cases hl : j < k
      · rw [if_pos hl] at h; rw [if_pos (by omega)]; omega
      · rw [if_neg hl] at h; omega
theorem cnt_more (base rest : Nat) (hads : List (List Int)) (own : List Int) (j : Nat) : ∀ k, cnt (moreTo base rest hads own k).2 j ≤ cnt own j + if j < k then 1 else 0
  | 0 => by simp [moreTo]
  | k + 1 => by
    have h := cnt_more base rest hads own j k
    simp only [moreTo]
    split
    · dsimp only
      have h2 := cnt_set_le k j (moreTo base rest hads own k).2 ((hads.getD k []).getD base 0).toNat
      by_cases e : j = k
      · rw [if_pos e] at h2; rw [if_neg (by omega)] at h; rw [if_pos (by omega)]; omega
      · rw [if_neg e] at h2
        by_cases hl : j < k
        · rw [if_pos hl] at h; rw [if_pos (by omega)]; omega
        · rw [if_neg hl] at h; exact Nat.le_trans h2 (Nat.le_trans h (by omega))
    · by_cases hl : j < k
      · rw [if_pos hl] at h; rw [if_pos (by omega)]; omega
      · rw [if_neg hl] at h; exact Nat.le_trans h (by omega)
theorem cnt_give {own o : List Int} {i : Nat} (h : give own i = some o) (j : Nat) : cnt o j ≤ cnt own j + if j = i then 1 else 0 := by
  obtain ⟨p, _, rfl⟩ := Option.map_eq_some_iff.1 h
  exact cnt_set_le i j own p
theorem cnt_fill (i base j top : Nat) (ht : base ≤ top) : ∀ (m : Nat) (own : List Int), cnt own j ≤ top → cnt (fill m own i base) j ≤ top
  | 0, own, h => h
  | m + 1, own, h => by
    unfold fill
    split
    · split
      · rename_i hlt _ o hg
        refine cnt_fill i base j top ht m o ?_
        have := cnt_give hg j
        by_cases e : j = i
        · subst e; rw [if_pos rfl] at this; omega
        · rw [if_neg e] at this; omega
      · exact h
    · exact h
theorem cnt_fillTo (base j top : Nat) (ht : base ≤ top) (own : List Int) (h : cnt own j ≤ top) : ∀ k, cnt (fillTo base own k) j ≤ top
  | 0 => h
  | k + 1 => cnt_fill k base j top ht _ _ (cnt_fillTo base j top ht own h k)
theorem cnt_topTo (base j : Nat) (own : List Int) (h : cnt own j ≤ base + 1) : ∀ k, cnt (topTo base own k) j ≤ base + 1
  | 0 => h
  | k + 1 => by
    have ih := cnt_topTo base j own h k
    rw [topTo]
    split
    · rename_i he
      cases hg : give (topTo base own k) k with
      | none => exact ih
      | some o =>
        have := cnt_give hg j
        show cnt o j ≤ _
        by_cases e : j = k
        · subst e; rw [if_pos rfl] at this; omega
        · rw [if_neg e] at this; omega
    · exact ih
/-- Nobody owns more than base and one. -/
theorem own4_le (parts n : Nat) (fs : List (List Int)) (j : Nat) : cnt (own4 parts n fs) j ≤ parts / n + 1 := by
  refine cnt_topTo _ _ _ (cnt_fillTo _ _ _ (by omega) _ ?_ _) _
  have h1 := cnt_more (parts / n) (parts % n) (hadsL (wholeL parts) fs) (own1 parts n fs) j n
  have h2 := cnt_keep (parts / n) (hadsL (wholeL parts) fs) parts j n
  show cnt (own2 parts n fs) j ≤ _
  change cnt (own1 parts n fs) j ≤ _ at h2
  change cnt (own2 parts n fs) j ≤ _ at h1
  by_cases hl : j < n
  · rw [if_pos hl] at h1 h2; omega
  · rw [if_neg hl] at h1 h2; have := Nat.zero_le (parts / n); omega
end Go.Proofs.Ytbjjhnlifgbpmaa
/- How many each member owns: base at the least, and each partition has an owner. No program in sight. -/
namespace Go.Proofs.Ytbjjhnlifgbpmaa
def sumTo (f : Nat → Nat) : Nat → Nat
  | 0 => 0
  | n + 1 => sumTo f n + f n
theorem sumTo_le {f g : Nat → Nat} : ∀ {n : Nat}, (∀ i < n, f i ≤ g i) → sumTo f n ≤ sumTo g n
  | 0, _ => by simp [sumTo]
  | n + 1, h => by
    have h1 := sumTo_le (n := n) fun i hi => h i (by omega)
    have h2 := h n (by omega)
    simp only [sumTo]; omega
theorem sumTo_one {f g : Nat → Nat} (k : Nat) : ∀ {n : Nat}, (∀ i < n, f i ≤ g i + if i = k then 1 else 0) → sumTo f n ≤ sumTo g n + if k < n then 1 else 0
  | 0, _ => by simp [sumTo]
  | n + 1, h => by
    have h1 := sumTo_one k (n := n) fun i hi => h i (by omega)
    have h2 := h n (by omega)
    simp only [sumTo]
    by_cases e : n = k
    · rw [if_pos e] at h2; rw [if_neg (by omega)] at h1; rw [if_pos (by omega)]; omega
    · rw [if_neg e] at h2
      by_cases hl : k < n
      · rw [if_pos hl] at h1; rw [if_pos (by omega)]; omega
      · rw [if_neg hl] at h1; rw [if_neg (by omega)]; omega
theorem sumTo_add (f g : Nat → Nat) : ∀ n, sumTo (fun i => f i + g i) n = sumTo f n + sumTo g n
  | 0 => rfl
  | n + 1 => by simp only [sumTo, sumTo_add f g n]; omega
theorem sumTo_const (c : Nat) : ∀ n, sumTo (fun _ => c) n = n * c
  | 0 => by simp [sumTo]
  | n + 1 => by simp only [sumTo, sumTo_const c n]; rw [Nat.succ_mul]
theorem sumTo_hit (x : Int) : ∀ n : Nat, sumTo (fun i => if x = (i : Int) then 1 else 0) n = if 0 ≤ x ∧ x < (n : Int) then 1 else 0
  | 0 => by rw [sumTo, if_neg (by omega)]
  | n + 1 => by
    rw [sumTo, sumTo_hit x n]
    by_cases h : x = (n : Int)
    · rw [if_neg (by omega), if_pos h, if_pos (by omega)]
    · rw [if_neg h]
      by_cases h2 : 0 ≤ x ∧ x < (n : Int)
      · rw [if_pos h2, if_pos (by omega)]
      · rw [if_neg h2, if_neg (by omega)]
/-- How many nobody owns. -/
def fr (own : List Int) : Nat := own.countP fun o => decide (o < 0)
theorem tot_fr (n : Nat) : ∀ own : List Int, (∀ x ∈ own, x < (n : Int)) → sumTo (cnt own) n + fr own = own.length
  | [], _ => by
    have : sumTo (cnt []) n = sumTo (fun _ => 0) n := rfl
    rw [this, sumTo_const]; rfl
  | x :: r, h => by
    have ih := tot_fr n r fun y hy => h y (List.mem_cons_of_mem _ hy)
    have hx := h x List.mem_cons_self
    have e : (cnt (x :: r)) = fun i => cnt r i + if x = (i : Int) then 1 else 0 := by
      funext i; simp [cnt, List.countP_cons]
    rw [e, sumTo_add, sumTo_hit]
    have e2 : fr (x :: r) = fr r + if x < 0 then 1 else 0 := by simp [fr, List.countP_cons]
    rw [e2, List.length_cons]
    by_cases h0 : x < 0
    · rw [if_pos h0, if_neg (by omega)]; omega
    · rw [if_neg h0, if_pos (by omega)]; omega
/-- How many are owned above base. -/
def exc (base n : Nat) (own : List Int) : Nat := sumTo (fun i => cnt own i - base) n
theorem exc_le {base n : Nat} {a b : List Int} (h : ∀ i < n, cnt a i - base ≤ cnt b i - base) : exc base n a ≤ exc base n b := sumTo_le h
theorem exc_zero {base n : Nat} {a : List Int} (h : ∀ i < n, cnt a i ≤ base) : exc base n a = 0 := by
  have := sumTo_le (f := fun i => cnt a i - base) (g := fun _ => 0) (n := n) fun i hi => by have := h i hi; omega
  rw [sumTo_const] at this
  unfold exc; omega
theorem exc_more (base rest n : Nat) (hads : List (List Int)) (own : List Int) (h0 : ∀ i, cnt own i ≤ base) : ∀ k,
    exc base n (moreTo base rest hads own k).2 ≤ (moreTo base rest hads own k).1 ∧ (moreTo base rest hads own k).1 ≤ rest
  | 0 => by
    refine ⟨?_, Nat.zero_le _⟩
    show exc base n own ≤ 0
    rw [exc_zero fun i _ => h0 i]; exact Nat.le_refl _
  | k + 1 => by
    have ih := exc_more base rest n hads own h0 k
    have hk := cnt_more base rest hads own
    simp only [moreTo]
    split
    · rename_i hc
      refine ⟨?_, by dsimp only; omega⟩
      dsimp only
      have := sumTo_one (f := fun i => cnt ((moreTo base rest hads own k).2.set ((hads.getD k []).getD base 0).toNat (k : Int)) i - base) (g := fun i => cnt (moreTo base rest hads own k).2 i - base) k (n := n) fun i _ => by
        have h2 := cnt_set_le k i (moreTo base rest hads own k).2 ((hads.getD k []).getD base 0).toNat
        by_cases e : i = k
        · rw [if_pos e] at h2 ⊢; omega
        · rw [if_neg e] at h2 ⊢; omega
      unfold exc at ih ⊢
      refine Nat.le_trans this ?_
      have h3 : (if k < n then 1 else 0) ≤ 1 := by split <;> omega
      omega
    · exact ih
end Go.Proofs.Ytbjjhnlifgbpmaa
/- Each partition has an owner, each member base of them or one more. No program in sight. -/
namespace Go.Proofs.Ytbjjhnlifgbpmaa
theorem give_cases (own : List Int) (i : Nat) : (fr own = 0 ∧ give own i = none) ∨ ∃ o, give own i = some o ∧ 0 < fr own ∧ o.length = own.length ∧ (∀ j, cnt o j = cnt own j + if j = i then 1 else 0) ∧ (∀ x ∈ o, x ∈ own ∨ x = (i : Int)) := by
  rcases give_free own i with ⟨hf, hg⟩ | ⟨p, hp, hn, _, hg⟩
  · refine .inl ⟨?_, hg⟩
    rw [fr, List.countP_eq_zero]
    intro x hx
    obtain ⟨k, hk, rfl⟩ := List.mem_iff_getElem.1 hx
    rw [decide_eq_true_eq]
    intro hneg
    have : (k : Int) ∈ freeL own := mem_freeL.2 ⟨by omega, by omega, by rw [Int.toNat_natCast, getD_get _ _ hk]; exact hneg⟩
    rw [hf] at this
    exact absurd this (by simp)
  · refine .inr ⟨_, hg, ?_, by simp, fun j => ?_, fun x hx => List.mem_or_eq_of_mem_set hx⟩
    · rw [fr, List.countP_pos_iff]
      rw [getD_get _ _ hp] at hn
      exact ⟨own[p], List.getElem_mem hp, by simpa using hn⟩
    · by_cases e : j = i
      · subst e; rw [if_pos rfl, cnt_set hp j hn]
      · rw [if_neg e, cnt_set_ne hp e hn]; rfl
theorem fill_does (i base : Nat) : ∀ (m : Nat) (own : List Int), (∀ j, cnt own j ≤ cnt (fill m own i base) j) ∧ (fr own = 0 → fill m own i base = own) ∧
    (base ≤ cnt own i + m → base ≤ cnt (fill m own i base) i ∨ fr (fill m own i base) = 0) ∧ (∀ x ∈ fill m own i base, x ∈ own ∨ x = (i : Int)) ∧ ∀ j, cnt (fill m own i base) j - base ≤ cnt own j - base
  | 0, own => ⟨fun _ => Nat.le_refl _, fun _ => rfl, fun h => .inl h, fun _ h => .inl h, fun _ => Nat.le_refl _⟩
  | m + 1, own => by
    unfold fill
    by_cases hlt : cnt own i < base
    · rw [if_pos hlt]
      rcases give_cases own i with ⟨hf, hg⟩ | ⟨o, hg, hf, hl, hc, hm⟩
      · simp only [hg]
        exact ⟨fun _ => Nat.le_refl _, fun _ => trivial, fun _ => .inr hf, fun _ h => .inl h, fun _ => Nat.le_refl _⟩
      · simp only [hg]
        obtain ⟨h1, h2, h3, h4, h5⟩ := fill_does i base m o
        refine ⟨fun j => ?_, fun h => by omega, fun h => h3 ?_, fun x hx => ?_, fun j => ?_⟩
        · have a := h1 j; have b := hc j; omega
        · have b := hc i; rw [if_pos rfl] at b; omega
        · rcases h4 x hx with h | h
          · exact hm x h
          · exact .inr h
        · have a := h5 j; have b := hc j
          by_cases e : j = i
          · subst e; rw [if_pos rfl] at b; omega
          · rw [if_neg e] at b; omega
    · rw [if_neg hlt]
      exact ⟨fun _ => Nat.le_refl _, fun _ => rfl, fun _ => .inl (by omega), fun _ h => .inl h, fun _ => Nat.le_refl _⟩
theorem fillTo_does (base : Nat) (own : List Int) (n : Nat) (hb : ∀ x ∈ own, x < (n : Int)) : ∀ k, k ≤ n → (∀ x ∈ fillTo base own k, x < (n : Int)) ∧ (∀ j, cnt (fillTo base own k) j - base ≤ cnt own j - base) ∧
    ∀ i < k, base ≤ cnt (fillTo base own k) i ∨ fr (fillTo base own k) = 0
  | 0, _ => ⟨hb, fun _ => Nat.le_refl _, fun i hi => absurd hi (by omega)⟩
  | k + 1, hk => by
    obtain ⟨h1, h2, h3⟩ := fillTo_does base own n hb k (by omega)
    obtain ⟨g1, g2, g3, g4, g5⟩ := fill_does k base (base + 1) (fillTo base own k)
    rw [fillTo]
    refine ⟨fun x hx => ?_, fun j => Nat.le_trans (g5 j) (h2 j), fun i hi => ?_⟩
    · rcases g4 x hx with h | h
      · exact h1 x h
      · omega
    · by_cases e : i = k
      · subst e; exact g3 (by omega)
      · rcases h3 i (by omega) with h | h
        · have := g1 i; exact .inl (by omega)
        · rw [g2 h]; exact .inr h
theorem topTo_does (base : Nat) (own : List Int) (n : Nat) (hb : ∀ x ∈ own, x < (n : Int)) (hc : ∀ i < n, base ≤ cnt own i) : ∀ k, k ≤ n → (∀ x ∈ topTo base own k, x < (n : Int)) ∧ (∀ i < n, base ≤ cnt (topTo base own k) i) ∧
    ∀ i < k, base + 1 ≤ cnt (topTo base own k) i ∨ fr (topTo base own k) = 0
  | 0, _ => ⟨hb, hc, fun i hi => absurd hi (by omega)⟩
  | k + 1, hk => by
    obtain ⟨h1, h2, h3⟩ := topTo_does base own n hb hc k (by omega)
    rw [topTo]
    split
    · rename_i he
      rcases give_cases (topTo base own k) k with ⟨hf, hg⟩ | ⟨o, hg, hf, hl, hcn, hm⟩
      · rw [hg, Option.getD_none]
        exact ⟨h1, h2, fun _ _ => .inr hf⟩
      · rw [hg, Option.getD_some]
        refine ⟨fun x hx => ?_, fun i hi => ?_, fun i hi => ?_⟩
        · rcases hm x hx with h | h
          · exact h1 x h
          · omega
        · have := h2 i hi; have := hcn i; omega
        · have b := hcn i
          by_cases e : i = k
          · subst e; rw [if_pos rfl] at b; exact .inl (by omega)
          · rcases h3 i (by omega) with h | h
            · exact .inl (by omega)
            · omega
    · rename_i he
      refine ⟨h1, h2, fun i hi => ?_⟩
      by_cases e : i = k
      · subst e; have := h2 i (by omega); exact .inl (by omega)
      · exact h3 i (by omega)
end Go.Proofs.Ytbjjhnlifgbpmaa
/- The owners are fair: each partition has one, each member parts / n of them or one more. No program in sight. -/
namespace Go.Proofs.Ytbjjhnlifgbpmaa
theorem sets_mem (i : Nat) : ∀ (l own : List Int), ∀ x ∈ setsF own i l, x ∈ own ∨ x = (i : Int)
  | [], _, _, h => .inl h
  | p :: l, own, x, h => by
    rcases sets_mem i l (own.set p.toNat (i : Int)) x h with h | h
    · exact List.mem_or_eq_of_mem_set h
    · exact .inr h
theorem keepTo_mem (base : Nat) (hads : List (List Int)) (own : List Int) (n : Nat) (hb : ∀ x ∈ own, x < (n : Int)) : ∀ k, k ≤ n → ∀ x ∈ keepTo base hads own k, x < (n : Int)
  | 0, _, x, h => hb x h
  | k + 1, hk, x, h => by
    rcases sets_mem k _ _ x h with h | h
    · exact keepTo_mem base hads own n hb k (by omega) x h
    · omega
theorem moreTo_mem (base rest : Nat) (hads : List (List Int)) (own : List Int) (n : Nat) (hb : ∀ x ∈ own, x < (n : Int)) : ∀ k, k ≤ n → ∀ x ∈ (moreTo base rest hads own k).2, x < (n : Int)
  | 0, _, x, h => hb x h
  | k + 1, hk, x, h => by
    have ih := moreTo_mem base rest hads own n hb k (by omega)
    simp only [moreTo] at h
    split at h
    · rcases List.mem_or_eq_of_mem_set h with h | h
      · exact ih x h
      · omega
    · exact ih x h
theorem own2_mem (parts n : Nat) (fs : List (List Int)) : ∀ x ∈ own2 parts n fs, x < (n : Int) := by
  refine moreTo_mem _ _ _ _ n (keepTo_mem _ _ _ n (fun x hx => ?_) n (Nat.le_refl _)) n (Nat.le_refl _)
  rw [(List.mem_replicate.1 hx).2]; omega
theorem sum_low {f : Nat → Nat} {b n k : Nat} (hk : k < n) (h : f k < b) : sumTo f n + 1 ≤ n * b + sumTo (fun i => f i - b) n := by
  have h1 := sumTo_one (f := fun i => f i + if i = k then 1 else 0) (g := f) k (n := n) fun i _ => Nat.le_refl _
  have h2 := sumTo_le (f := fun i => f i + if i = k then 1 else 0) (g := fun i => b + (f i - b)) (n := n) fun i _ => by
    by_cases e : i = k
    · subst e; rw [if_pos rfl]; omega
    · rw [if_neg e]; omega
  rw [sumTo_add (fun _ => b), sumTo_const] at h2
  rw [sumTo_add] at h2
  have h3 : 1 ≤ sumTo (fun i => if i = k then 1 else 0) n := by
    clear h1 h2 h
    induction n with
    | zero => omega
    | succ m ih =>
      rw [sumTo]
      by_cases e : m = k
      · rw [if_pos e]; omega
      · have := ih (by omega); omega
  omega
theorem own3_len (parts n : Nat) (fs : List (List Int)) : (own3 parts n fs).length = parts := by
  rw [own3, fillTo_len, own2, moreTo_len, own1, keepTo_len, own0, List.length_replicate]
theorem own4_len (parts n : Nat) (fs : List (List Int)) : (own4 parts n fs).length = parts := by
  rw [own4, topTo_len, own3_len]
theorem own3_ge (parts n : Nat) (fs : List (List Int)) : ∀ i < n, parts / n ≤ cnt (own3 parts n fs) i := fun i hi => by
  obtain ⟨h1, h2, h3⟩ := fillTo_does (parts / n) (own2 parts n fs) n (own2_mem parts n fs) n (Nat.le_refl _)
  rcases h3 i hi with h | h
  · exact h
  · refine Nat.not_lt.1 fun hlt => ?_
    have hs := tot_fr n (own3 parts n fs) h1
    have hz : fr (own3 parts n fs) = 0 := h
    rw [own3_len, hz] at hs
    have hx := sum_low (f := cnt (own3 parts n fs)) hi hlt
    have he : sumTo (fun i => cnt (own3 parts n fs) i - parts / n) n ≤ exc (parts / n) n (own2 parts n fs) := sumTo_le fun j _ => h2 j
    have h0 : ∀ j, cnt (own1 parts n fs) j ≤ parts / n := fun j => by
      have := cnt_keep (parts / n) (hadsL (wholeL parts) fs) parts j n
      change cnt (own1 parts n fs) j ≤ _ at this
      split at this
      · exact this
      · exact Nat.le_trans this (Nat.zero_le _)
    have hm := exc_more (parts / n) (parts % n) n (hadsL (wholeL parts) fs) (own1 parts n fs) h0 n
    have hm1 : exc (parts / n) n (own2 parts n fs) ≤ parts % n := Nat.le_trans hm.1 hm.2
    have hd := Nat.div_add_mod parts n
    omega
/-- Each partition has an owner; each member has parts / n of them, or one more. -/
theorem own4_fair (parts n : Nat) (hn : 1 ≤ n) (fs : List (List Int)) : fr (own4 parts n fs) = 0 ∧ (∀ x ∈ own4 parts n fs, x < (n : Int)) ∧
    ∀ i < n, parts / n ≤ cnt (own4 parts n fs) i ∧ cnt (own4 parts n fs) i ≤ parts / n + 1 := by
  have hb := (fillTo_does (parts / n) (own2 parts n fs) n (own2_mem parts n fs) n (Nat.le_refl _)).1
  obtain ⟨h1, h2, h3⟩ := topTo_does (parts / n) (own3 parts n fs) n hb (own3_ge parts n fs) n (Nat.le_refl _)
  refine ⟨?_, h1, fun i hi => ⟨h2 i hi, own4_le parts n fs i⟩⟩
  by_cases hz : fr (own4 parts n fs) = 0
  · exact hz
  · have ht := tot_fr n (own4 parts n fs) h1
    have hs := sumTo_le (f := fun _ => parts / n + 1) (g := cnt (own4 parts n fs)) (n := n) fun i hi => by
      rcases h3 i hi with h | h
      · exact h
      · exact absurd h hz
    rw [sumTo_const, Nat.mul_add, Nat.mul_one] at hs
    rw [own4_len] at ht
    have hd := Nat.div_add_mod parts n
    have := Nat.mod_lt parts hn
    omega
end Go.Proofs.Ytbjjhnlifgbpmaa
/- What is owned stays owned: filling and topping up take only what is free. No program in sight. -/
namespace Go.Proofs.Ytbjjhnlifgbpmaa
/-- Who owns something in a owns it in b. -/
def Kept (a b : List Int) : Prop := ∀ x : Nat, 0 ≤ a.getD x (-1) → b.getD x (-1) = a.getD x (-1)
theorem Kept.rfl' {a : List Int} : Kept a a := fun _ _ => rfl
theorem Kept.trans {a b c : List Int} (h : Kept a b) (g : Kept b c) : Kept a c := fun x hx => by
  have := h x hx
  rw [g x (by omega), this]
theorem kept_set {own : List Int} {p : Nat} (hn : own.getD p (-1) < 0) (v : Int) : Kept own (own.set p v) := fun x hx => by
  by_cases e : p = x
  · subst e; omega
  · rw [List.getD_eq_getElem?_getD, List.getElem?_set_ne e, ← List.getD_eq_getElem?_getD]
theorem kept_give {own o : List Int} {i : Nat} (h : give own i = some o) : Kept own o := by
  rcases give_free own i with ⟨_, hg⟩ | ⟨p, _, hn, _, hg⟩
  · rw [hg] at h; exact absurd h (by simp)
  · rw [hg] at h
    cases h
    exact kept_set hn _
theorem kept_fill (i base : Nat) : ∀ (m : Nat) (own : List Int), Kept own (fill m own i base)
  | 0, _ => Kept.rfl'
  | m + 1, own => by
    unfold fill
    split
    · split
      · rename_i o hg; exact (kept_give hg).trans (kept_fill i base m o)
      · exact Kept.rfl'
    · exact Kept.rfl'
theorem kept_fillTo (base : Nat) (own : List Int) : ∀ k, Kept own (fillTo base own k)
  | 0 => Kept.rfl'
  | k + 1 => (kept_fillTo base own k).trans (kept_fill k base _ _)
theorem kept_topTo (base : Nat) (own : List Int) : ∀ k, Kept own (topTo base own k)
  | 0 => Kept.rfl'
  | k + 1 => by
    have ih := kept_topTo base own k
    rw [topTo]
    split
    · cases hg : give (topTo base own k) k with
      | none => exact ih
      | some o => exact ih.trans (kept_give hg)
    · exact ih
/-- What was owned after the second step is owned by the same one at the end. -/
theorem kept_own4 (parts n : Nat) (fs : List (List Int)) : Kept (own2 parts n fs) (own4 parts n fs) := (kept_fillTo _ _ _).trans (kept_topTo _ _ _)
theorem setsF_miss (i : Nat) {x : Nat} : ∀ (l own : List Int), (∀ p ∈ l, p.toNat ≠ x) → (setsF own i l).getD x (-1) = own.getD x (-1)
  | [], _, _ => rfl
  | p :: l, own, h => by
    have h1 := setsF_miss i l (own.set p.toNat (i : Int)) fun q hq => h q (List.mem_cons_of_mem _ hq)
    have h2 := h p List.mem_cons_self
    change (setsF (own.set p.toNat (i : Int)) i l).getD x (-1) = _
    rw [h1, List.getD_eq_getElem?_getD, List.getElem?_set_ne h2, ← List.getD_eq_getElem?_getD]
theorem setsF_hit (i : Nat) {p : Int} : ∀ (l own : List Int), p ∈ l → p.toNat < own.length → (setsF own i l).getD p.toNat (-1) = (i : Int)
  | [], _, h, _ => absurd h (by simp)
  | q :: l, own, h, hl => by
    change (setsF (own.set q.toNat (i : Int)) i l).getD p.toNat (-1) = _
    by_cases hm : p ∈ l
    · exact setsF_hit i l _ hm (by simpa using hl)
    · by_cases hz : ∃ r ∈ l, r.toNat = p.toNat
      · obtain ⟨r, hr, he⟩ := hz
        rw [← he]
        exact setsF_hit i l _ hr (by rw [he]; simpa using hl)
      · rw [setsF_miss i l _ fun r hr e => hz ⟨r, hr, e⟩]
        rcases List.mem_cons.1 h with e | e
        · subst e; rw [getD_get _ _ (by simpa using hl)]; simp
        · exact absurd e hm
end Go.Proofs.Ytbjjhnlifgbpmaa
/- Who had no more than base keeps it all. No program in sight. -/
namespace Go.Proofs.Ytbjjhnlifgbpmaa
section
variable {parts base rest : Nat} {fs : List (List Int)}
theorem keepTo_has {i : Nat} {p : Int} (hp : p ∈ ((hadsL (wholeL parts) fs).getD i []).take base) : ∀ m, i < m → (keepTo base (hadsL (wholeL parts) fs) (own0 parts) m).getD p.toNat (-1) = (i : Int)
  | 0, h => absurd h (by omega)
  | m + 1, h => by
    have hr := hads_in (List.mem_of_mem_take hp)
    rw [keepTo]
    by_cases e : i = m
    · subst e
      refine setsF_hit i _ _ hp ?_
      rw [keepTo_len, own0, List.length_replicate]; omega
    · rw [setsF_miss m _ _ fun q hq he => ?_]
      · exact keepTo_has hp m (by omega)
      · have hq' := List.mem_of_mem_take hq
        have hqr := hads_in hq'
        have : q = p := by omega
        subst this
        exact e (hads_disj (List.mem_of_mem_take hp) hq')
theorem kept_more (n : Nat) : ∀ k, k ≤ n → Kept (keepTo base (hadsL (wholeL parts) fs) (own0 parts) n) (moreTo base rest (hadsL (wholeL parts) fs) (keepTo base (hadsL (wholeL parts) fs) (own0 parts) n) k).2
  | 0, _ => Kept.rfl'
  | k + 1, hk => by
    have ih := kept_more n k (by omega)
    have hf := more_free (parts := parts) (base := base) (rest := rest) (fs := fs) (i := k) (n := n) (p := ((hadsL (wholeL parts) fs).getD k []).getD base 0) (by omega)
    simp only [moreTo]
    split
    · rename_i hc
      refine ih.trans (kept_set (hf ?_) _)
      rw [List.getElem?_eq_getElem hc.1, getD_get _ _ hc.1]
    · exact ih
end
/-- Who had no more than base keeps it all. -/
theorem own4_keeps {parts n : Nat} {fs : List (List Int)} {i : Nat} (hi : i < n) {p : Int} (hp : p ∈ ((hadsL (wholeL parts) fs).getD i []).take (parts / n)) : p ∈ ofL (own4 parts n fs) i := by
  have hr := hads_in (List.mem_of_mem_take hp)
  have h1 : (own1 parts n fs).getD p.toNat (-1) = (i : Int) := keepTo_has hp n hi
  have h2 : Kept (own1 parts n fs) (own4 parts n fs) := (kept_more (rest := parts % n) n n (Nat.le_refl _)).trans (kept_own4 parts n fs)
  have h3 := h2 p.toNat (by omega)
  rw [mem_ofL, own4_len]
  exact ⟨hr.1, hr.2, by rw [h3, h1]⟩
end Go.Proofs.Ytbjjhnlifgbpmaa
/- With the same members nothing moves. No program in sight. -/
namespace Go.Proofs.Ytbjjhnlifgbpmaa
section
variable {parts base rest : Nat} {fs : List (List Int)}
theorem kept_more_on (n k : Nat) : ∀ d, k + d ≤ n → Kept (moreTo base rest (hadsL (wholeL parts) fs) (keepTo base (hadsL (wholeL parts) fs) (own0 parts) n) k).2 (moreTo base rest (hadsL (wholeL parts) fs) (keepTo base (hadsL (wholeL parts) fs) (own0 parts) n) (k + d)).2
  | 0, _ => Kept.rfl'
  | d + 1, hk => by
    have ih := kept_more_on n k d (by omega)
    have hf := more_free (parts := parts) (base := base) (rest := rest) (fs := fs) (i := k + d) (n := n) (p := ((hadsL (wholeL parts) fs).getD (k + d) []).getD base 0) (by omega)
    rw [← Nat.add_assoc]
    simp only [moreTo]
    split
    · rename_i hc
      refine ih.trans (kept_set (hf ?_) _)
      rw [List.getElem?_eq_getElem hc.1, getD_get _ _ hc.1]
    · exact ih
theorem more_le (hads : List (List Int)) (own : List Int) : ∀ k, (moreTo base rest hads own k).1 ≤ sumTo (fun i => (hads.getD i []).length - base) k
  | 0 => Nat.le_refl _
  | k + 1 => by
    have ih := more_le hads own k
    simp only [moreTo, sumTo]
    split
    · dsimp only; omega
    · omega
theorem sumTo_mono (f : Nat → Nat) (k : Nat) : ∀ d, sumTo f k ≤ sumTo f (k + d)
  | 0 => Nat.le_refl _
  | d + 1 => Nat.le_trans (sumTo_mono f k d) (by rw [← Nat.add_assoc, sumTo]; omega)
end
theorem own2_all {parts n : Nat} {fs : List (List Int)} (hm : sumTo (fun i => ((hadsL (wholeL parts) fs).getD i []).length - parts / n) n ≤ parts % n)
    {i : Nat} (hi : i < n) (hl : ((hadsL (wholeL parts) fs).getD i []).length ≤ parts / n + 1) {p : Int} (hp : p ∈ (hadsL (wholeL parts) fs).getD i []) : (own2 parts n fs).getD p.toNat (-1) = (i : Int) := by
  obtain ⟨x, hx, he⟩ := List.mem_iff_getElem.1 hp
  have hr := hads_in hp
  by_cases hb : x < parts / n
  · have ht : p ∈ ((hadsL (wholeL parts) fs).getD i []).take (parts / n) := by
      rw [← he, List.mem_take_iff_getElem]
      exact ⟨x, by omega, rfl⟩
    have h1 : (own1 parts n fs).getD p.toNat (-1) = (i : Int) := keepTo_has ht n hi
    have h2 : Kept (own1 parts n fs) (own2 parts n fs) := kept_more (rest := parts % n) n n (Nat.le_refl _)
    rw [h2 p.toNat (by omega), h1]
  · have hx' : x = parts / n := by omega
    subst hx'
    have h0 := more_le (base := parts / n) (rest := parts % n) (hadsL (wholeL parts) fs) (own1 parts n fs) i
    have h1 := sumTo_mono (fun i => ((hadsL (wholeL parts) fs).getD i []).length - parts / n) (i + 1) (n - (i + 1))
    rw [show i + 1 + (n - (i + 1)) = n by omega, sumTo] at h1
    have hlt : (moreTo (parts / n) (parts % n) (hadsL (wholeL parts) fs) (own1 parts n fs) i).1 < parts % n := by
      generalize sumTo (fun i => ((hadsL (wholeL parts) fs).getD i []).length - parts / n) i = S at *
      omega
    have hs : (moreTo (parts / n) (parts % n) (hadsL (wholeL parts) fs) (own1 parts n fs) (i + 1)).2.getD p.toNat (-1) = (i : Int) := by
      simp only [moreTo]
      rw [if_pos ⟨hx, hlt⟩, getD_get _ _ hx, he]
      have : p.toNat < (moreTo (parts / n) (parts % n) (hadsL (wholeL parts) fs) (own1 parts n fs) i).2.length := by
        rw [moreTo_len, own1, keepTo_len, own0, List.length_replicate]; omega
      dsimp only
      rw [getD_get _ _ (by simpa using this)]
      simp
    have hk := kept_more_on (parts := parts) (base := parts / n) (rest := parts % n) (fs := fs) n (i + 1) (n - (i + 1)) (by omega)
    rw [show i + 1 + (n - (i + 1)) = n by omega] at hk
    have := hk p.toNat (by have := hs; unfold own1 at this; omega)
    unfold own2
    unfold own1 at hs ⊢
    rw [this, hs]
end Go.Proofs.Ytbjjhnlifgbpmaa
/- With the same members nothing moves: the law. No program in sight. -/
namespace Go.Proofs.Ytbjjhnlifgbpmaa
theorem fillTo_still (base : Nat) (own : List Int) (h : fr own = 0) : ∀ k, fillTo base own k = own
  | 0 => rfl
  | k + 1 => by rw [fillTo, fillTo_still base own h k, (fill_does k base (base + 1) own).2.1 h]
theorem topTo_still (base : Nat) (own : List Int) (h : fr own = 0) : ∀ k, topTo base own k = own
  | 0 => rfl
  | k + 1 => by
    rw [topTo, topTo_still base own h k]
    rcases give_cases own k with ⟨_, hg⟩ | ⟨o, _, hf, _⟩
    · rw [hg, Option.getD_none]; exact ite_self _
    · omega
theorem own4_still {parts n : Nat} {fs : List (List Int)} (h : fr (own2 parts n fs) = 0) : own4 parts n fs = own2 parts n fs := by
  rw [own4, own3, fillTo_still _ _ h, topTo_still _ _ h]
/-- What was dealt fairly before stays as it was. -/
theorem own4_same {parts n : Nat} {fs : List (List Int)} (hall : ∀ p : Nat, p < parts → ∃ i < n, (p : Int) ∈ (hadsL (wholeL parts) fs).getD i [])
    (hm : sumTo (fun i => ((hadsL (wholeL parts) fs).getD i []).length - parts / n) n ≤ parts % n) (hl : ∀ i < n, ((hadsL (wholeL parts) fs).getD i []).length ≤ parts / n + 1) :
    ∀ i < n, ofL (own4 parts n fs) i = (hadsL (wholeL parts) fs).getD i [] := by
  have hlen : (own2 parts n fs).length = parts := by rw [own2, moreTo_len, own1, keepTo_len, own0, List.length_replicate]
  have hz : fr (own2 parts n fs) = 0 := by
    rw [fr, List.countP_eq_zero]
    intro x hx
    obtain ⟨k, hk, rfl⟩ := List.mem_iff_getElem.1 hx
    obtain ⟨i, hi, hp⟩ := hall k (by omega)
    have := own2_all hm hi (hl i hi) hp
    rw [Int.toNat_natCast, getD_get _ _ hk] at this
    rw [decide_eq_true_eq, this]
    omega
  intro i hi
  rw [own4_still hz]
  refine rising_ext (ofL_rising _ _) (hads_rising _ _ (wholeL_rising _) i) fun x => ?_
  rw [mem_ofL, hlen]
  constructor
  · rintro ⟨h1, h2, h3⟩
    obtain ⟨j, hj, hp⟩ := hall x.toNat (by omega)
    have h4 := own2_all hm hj (hl j hj) hp
    rw [show ((x.toNat : Nat) : Int) = x by omega] at h4 hp
    rw [h3] at h4
    have : i = j := by omega
    subst this
    exact hp
  · intro hp
    have hr := hads_in hp
    exact ⟨hr.1, hr.2, own2_all hm hi (hl i hi) hp⟩
end Go.Proofs.Ytbjjhnlifgbpmaa
/- Lists that share nothing: what each had is what it brought. No program in sight. -/
namespace Go.Proofs.Ytbjjhnlifgbpmaa
theorem hads_has : ∀ (fs : List (List Int)) (D : List Int) (i : Nat) (x : Int), x ∈ D → x ∈ fs.getD i [] → (∀ j < i, x ∉ fs.getD j []) → x ∈ (hadsL D fs).getD i []
  | [], _, i, x, _, h, _ => by simp at h
  | f :: fs, D, 0, x, hD, h, _ => by
    rw [List.getD_cons_zero] at h
    rw [hadsL, List.getD_cons_zero, List.mem_filter]
    exact ⟨hD, by simpa using h⟩
  | f :: fs, D, i + 1, x, hD, h, hn => by
    rw [List.getD_cons_succ] at h
    rw [hadsL, List.getD_cons_succ]
    refine hads_has fs _ i x ?_ h fun j hj => ?_
    · rw [List.mem_filter]
      have := hn 0 (by omega)
      rw [List.getD_cons_zero] at this
      exact ⟨hD, by simpa using this⟩
    · have := hn (j + 1) (by omega)
      rwa [List.getD_cons_succ] at this
theorem hads_own {fs : List (List Int)} {D : List Int} (hD : D.Pairwise (· < ·)) (hr : ∀ i, (fs.getD i []).Pairwise (· < ·)) (hs : ∀ i, ∀ x ∈ fs.getD i [], x ∈ D)
    (hd : ∀ i j x, x ∈ fs.getD i [] → x ∈ fs.getD j [] → i = j) (i : Nat) : (hadsL D fs).getD i [] = fs.getD i [] := by
  refine rising_ext (hads_rising _ _ hD i) (hr i) fun x => ⟨fun h => (hads_mem fs D i x h).2.1, fun h => hads_has fs D i x (hs i x h) h fun j hj hx => ?_⟩
  have := hd i j x h hx
  omega
end Go.Proofs.Ytbjjhnlifgbpmaa
/- Range's own lists: consecutive, fair, and all of them. No program in sight. -/
namespace Go.Proofs.Ytbjjhnlifgbpmaa
def startR (parts n i : Nat) : Nat := i * (parts / n) + min i (parts % n)
def lenR (parts n i : Nat) : Nat := parts / n + if i < parts % n then 1 else 0
/-- What Range deals to member i. -/
def rangeL (parts n i : Nat) : List Int := (List.range' (startR parts n i) (lenR parts n i)).map Int.ofNat
theorem startR_succ (parts n i : Nat) : startR parts n (i + 1) = startR parts n i + lenR parts n i := by
  unfold startR lenR
  rw [Nat.succ_mul]
  by_cases h : i < parts % n
  · rw [if_pos h]; omega
  · rw [if_neg h]; omega
theorem startR_end {parts n : Nat} (hn : 1 ≤ n) : startR parts n n = parts := by
  unfold startR
  have := Nat.div_add_mod parts n
  have := Nat.mod_lt parts hn
  rw [Nat.min_eq_right (by omega)]; omega
theorem startR_mono (parts n i : Nat) : ∀ d, startR parts n i ≤ startR parts n (i + d)
  | 0 => Nat.le_refl _
  | d + 1 => by have := startR_mono parts n i d; rw [← Nat.add_assoc, startR_succ]; omega
theorem mem_rangeL {parts n i : Nat} {x : Int} : x ∈ rangeL parts n i ↔ (startR parts n i : Int) ≤ x ∧ x < (startR parts n (i + 1) : Int) := by
  rw [startR_succ]
  simp only [rangeL, List.mem_map, List.mem_range'_1]
  constructor
  · rintro ⟨a, ⟨h1, h2⟩, rfl⟩; simp only [Int.ofNat_eq_natCast]; omega
  · rintro ⟨h1, h2⟩; exact ⟨x.toNat, by omega, by simp only [Int.ofNat_eq_natCast]; omega⟩
theorem rangeL_apart {parts n i j : Nat} {x : Int} (hi : x ∈ rangeL parts n i) (hj : x ∈ rangeL parts n j) : i = j := by
  obtain ⟨a, b⟩ := mem_rangeL.1 hi
  obtain ⟨c, d⟩ := mem_rangeL.1 hj
  rcases Nat.lt_trichotomy i j with h | h | h
  · have := startR_mono parts n (i + 1) (j - (i + 1))
    rw [show i + 1 + (j - (i + 1)) = j by omega] at this; omega
  · exact h
  · have := startR_mono parts n (j + 1) (i - (j + 1))
    rw [show j + 1 + (i - (j + 1)) = i by omega] at this; omega
theorem rangeL_all {parts n : Nat} (p : Nat) : ∀ k, p < startR parts n k → ∃ i < k, (p : Int) ∈ rangeL parts n i
  | 0, h => by unfold startR at h; omega
  | k + 1, h => by
    by_cases hp : p < startR parts n k
    · obtain ⟨i, hi, hm⟩ := rangeL_all p k hp
      exact ⟨i, by omega, hm⟩
    · exact ⟨k, by omega, mem_rangeL.2 ⟨by omega, by omega⟩⟩
theorem rangeL_rising (parts n i : Nat) : (rangeL parts n i).Pairwise (· < ·) := ofNat_rising List.pairwise_lt_range'
theorem rangeL_len (parts n i : Nat) : (rangeL parts n i).length = lenR parts n i := by simp [rangeL]
end Go.Proofs.Ytbjjhnlifgbpmaa
/- What Range dealt, Sticky leaves as it is. No program in sight. -/
namespace Go.Proofs.Ytbjjhnlifgbpmaa
def fsR (parts n : Nat) : List (List Int) := (List.range n).map (rangeL parts n)
theorem fsR_get {parts n i : Nat} : (fsR parts n).getD i [] = if i < n then rangeL parts n i else [] := by
  unfold fsR
  by_cases h : i < n
  · rw [if_pos h, getD_get _ _ (by simpa using h)]; simp
  · rw [if_neg h, List.getD_eq_getElem?_getD, List.getElem?_eq_none (by simpa using h)]; rfl
theorem hads_fsR {parts n : Nat} (hn : 1 ≤ n) (i : Nat) : (hadsL (wholeL parts) (fsR parts n)).getD i [] = if i < n then rangeL parts n i else [] := by
  rw [← fsR_get]
  refine hads_own (wholeL_rising parts) (fun i => ?_) (fun i x hx => ?_) (fun i j x hi hj => ?_) i
  · rw [fsR_get]; split
    · exact rangeL_rising parts n i
    · exact List.Pairwise.nil
  · rw [fsR_get] at hx
    split at hx
    · obtain ⟨h1, h2⟩ := mem_rangeL.1 hx
      have := startR_mono parts n (i + 1) (n - (i + 1))
      rw [show i + 1 + (n - (i + 1)) = n by omega, startR_end hn] at this
      exact mem_wholeL.2 ⟨by omega, by omega⟩
    · exact absurd hx (by simp)
  · rw [fsR_get] at hi hj
    split at hi
    · split at hj
      · exact rangeL_apart hi hj
      · exact absurd hj (by simp)
    · exact absurd hi (by simp)
theorem sum_min (r : Nat) : ∀ n, sumTo (fun i => if i < r then 1 else 0) n = min n r
  | 0 => by simp [sumTo]
  | n + 1 => by
    rw [sumTo, sum_min r n]
    split <;> omega
/-- What Range dealt, Sticky leaves as it is. -/
theorem stays_same {parts n : Nat} (hn : 1 ≤ n) : ∀ i < n, ofL (own4 parts n (fsR parts n)) i = rangeL parts n i := by
  have hg : ∀ i < n, (hadsL (wholeL parts) (fsR parts n)).getD i [] = rangeL parts n i := fun i hi => by rw [hads_fsR hn, if_pos hi]
  have ha : ∀ p : Nat, p < parts → ∃ i < n, (p : Int) ∈ (hadsL (wholeL parts) (fsR parts n)).getD i [] := fun p hp => by
    obtain ⟨j, hj, hm⟩ := rangeL_all (parts := parts) (n := n) p n (by rw [startR_end hn]; exact hp)
    exact ⟨j, hj, by rw [hg j hj]; exact hm⟩
  have hs : sumTo (fun i => ((hadsL (wholeL parts) (fsR parts n)).getD i []).length - parts / n) n ≤ parts % n := by
    refine Nat.le_trans (sumTo_le (g := fun i => if i < parts % n then 1 else 0) fun j hj => ?_) ?_
    · rw [hg j hj, rangeL_len, lenR]; split <;> omega
    · rw [sum_min]; exact Nat.min_le_right _ _
  have hl : ∀ i < n, ((hadsL (wholeL parts) (fsR parts n)).getD i []).length ≤ parts / n + 1 := fun j hj => by
    rw [hg j hj, rangeL_len, lenR]; split <;> omega
  intro i hi
  rw [own4_same ha hs hl i hi, hg i hi]
end Go.Proofs.Ytbjjhnlifgbpmaa
/- Who stays and had no more than its share keeps what it had. No program in sight. -/
namespace Go.Proofs.Ytbjjhnlifgbpmaa
theorem stays_keeps {parts n : Nat} {fs : List (List Int)} (hr : ∀ i, (fs.getD i []).Pairwise (· < ·)) (hs : ∀ i, ∀ x ∈ fs.getD i [], 0 ≤ x ∧ x < parts)
    (hd : ∀ i j x, x ∈ fs.getD i [] → x ∈ fs.getD j [] → i = j) {i : Nat} (hi : i < n) (hl : (fs.getD i []).length ≤ parts / n) {p : Int} (hp : p ∈ fs.getD i []) : p ∈ ofL (own4 parts n fs) i := by
  refine own4_keeps hi ?_
  rw [hads_own (wholeL_rising parts) hr (fun i x hx => mem_wholeL.2 (hs i x hx)) hd i, List.take_of_length_le hl]
  exact hp
end Go.Proofs.Ytbjjhnlifgbpmaa
/- Each partition lies in the list of one member alone. No program in sight. -/
namespace Go.Proofs.Ytbjjhnlifgbpmaa
theorem ofL_apart {own : List Int} {i j : Nat} {x : Int} (hi : x ∈ ofL own i) (hj : x ∈ ofL own j) : i = j := by
  have a := (mem_ofL.1 hi).2.2
  have b := (mem_ofL.1 hj).2.2
  omega
theorem own4_all {parts n : Nat} (hn : 1 ≤ n) (fs : List (List Int)) {p : Nat} (hp : p < parts) : ∃ i < n, (p : Int) ∈ ofL (own4 parts n fs) i := by
  obtain ⟨hz, hb, _⟩ := own4_fair parts n hn fs
  have hl : p < (own4 parts n fs).length := by rw [own4_len]; exact hp
  have hm := List.getElem_mem hl
  have h1 := hb _ hm
  have h0 : ¬ (own4 parts n fs)[p] < 0 := by
    rw [fr, List.countP_eq_zero] at hz
    simpa using hz _ hm
  refine ⟨((own4 parts n fs)[p]).toNat, by omega, mem_ofL.2 ⟨by omega, by omega, ?_⟩⟩
  rw [Int.toNat_natCast, getD_get _ _ hl]
  omega
end Go.Proofs.Ytbjjhnlifgbpmaa
