/- The document's table as data, and that it says what the program's says. No program in sight but for the batches' check. -/
import Derived.Test.YtjpmdjjihdicdaaRefF
import Derived.Test.YtjpmdjjihdicdaaOnceLaw
namespace Go.Proofs.Ytjpmdjjihdicdaa

theorem find_ent (m : List (Int × St)) (p : Int) : (m.map entOf).find? (fun x => x.p == p) = (m.find? fun x => x.1 == p).map entOf := by
  rw [List.find?_map]; rfl
theorem find_fst {m : List (Int × St)} {p : Int} {x : Int × St} (h : m.find? (fun x => x.1 == p) = some x) : x.1 = p := by simpa using List.find?_some h

theorem check_neg {k p ep s : Int} {t : Bool} {rs : List Rec} (h : checkE k p ep s t rs = 0) : -1 ≤ p := by
  unfold checkE at h
  repeat' split at h
  all_goals first | (exfalso; omega) | skip
  all_goals simp [q1, q2, q3, q4, q5, q6, lenB] at *
  omega

/-- The document decides as the program does. -/
theorem decideR_eq (m : List (Int × St)) (k p ep s : Int) (t : Bool) (rs : List Rec) :
    decideR ((m.map entOf).find? fun x => x.p == p) k p ep s t rs = decideF (lookI m p) k p ep s t rs := by
  unfold decideR decideF
  by_cases hc : checkE k p ep s t rs = 0
  · have hp := check_neg hc
    obtain ⟨_, _, hs, _, _⟩ := checkE_ok hc
    by_cases hp1 : p = -1
    · rw [if_pos (.inr hp1), if_pos (.inr (by omega))]
    · rw [if_neg (show ¬ (checkE k p ep s t rs ≠ 0 ∨ p = -1) from by simp [hc, hp1]), if_neg (show ¬ (checkE k p ep s t rs ≠ 0 ∨ p < 0) from by simp [hc]; omega), find_ent]
      unfold lookI
      cases hf : m.find? (fun x => x.1 == p) with
      | none =>
        simp
        by_cases hk : k = 1
        · simp [hk, ringF, st0, lasts]
          by_cases h0 : s = 0
          · simp [h0]
          · simp [h0, show ¬ s < 0 by omega]
        · simp [hk]
      | some x =>
        obtain ⟨xp, st⟩ := x
        simp [entOf]
        by_cases he : ep < st.epoch
        · simp [he]
        · simp [he]
          by_cases hk : k = 1
          · simp [hk]
            by_cases he2 : st.epoch < ep
            · simp [he2, ringF, st0, lasts]
              by_cases h0 : s = 0
              · simp [h0]
              · simp [h0, show ¬ s < 0 by omega]
            · simp [he2, ringF]
              by_cases h6 : s = st.next
              · simp [h6]
              · simp [h6]
                cases List.find? (fun d => d.seq == s && d.len == (rs.length : Int)) (lasts st.ds) <;> rfl
          · simp [hk]
  · rw [if_pos (.inl hc), if_pos (.inl hc)]

/-- An entry put into its place. -/
def putE : List Ent → Ent → List Ent
  | [], x => [x]
  | y :: l, x => if y.p < x.p then y :: putE l x else if y.p = x.p then x :: l else x :: y :: l

theorem putE_at (x : Ent) : ∀ (r : List Ent) (k : Nat), k ≤ r.length → (∀ j (h : j < r.length), j < k → r[j].p < x.p) → (∀ h : k < r.length, x.p ≤ r[k].p) →
    putE r x = if (∃ h : k < r.length, r[k].p = x.p) then r.set k x else r.take k ++ x :: r.drop k
  | [], k, hk, _, _ => by
    obtain rfl : k = 0 := by simpa using hk
    simp [putE]
  | y :: l, 0, _, _, h2 => by
    have h := h2 (by simp)
    simp at h
    unfold putE
    rw [if_neg (by omega)]
    by_cases e : y.p = x.p <;> simp [e]
  | y :: l, k + 1, hk, h1, h2 => by
    have h := h1 0 (by simp) (by omega)
    simp at h
    unfold putE
    rw [if_pos h, putE_at x l k (by simpa using hk) (fun j hj hjk => h1 (j + 1) (by simpa using hj) (by omega)) (fun hj => h2 (by simpa using hj))]
    by_cases e : ∃ h : k < l.length, l[k].p = x.p
    · rw [if_pos e, if_pos (by simpa using e)]; simp
    · rw [if_neg e, if_neg (by simpa using e)]; simp

theorem delI_none {m : List (Int × St)} {k : Int} (h : ∀ x ∈ m, x.1 ≠ k) : delI m k = m := by
  unfold delI
  rw [List.filter_eq_self]
  intro x hx
  simpa using h x hx

theorem putE_put (p : Int) (v : St) : ∀ m : List (Int × St), (m.Pairwise fun a b => a.1 < b.1) → (putI m p v).map entOf = putE (m.map entOf) (entOf (p, v))
  | [], _ => by simp [putI, delI, insI, putE]
  | y :: l, hs => by
    obtain ⟨h1, h2⟩ := List.pairwise_cons.1 hs
    have ih := putE_put p v l h2
    have hP : putE ((y :: l).map entOf) (entOf (p, v)) = if y.1 < p then entOf y :: putE (l.map entOf) (entOf (p, v)) else if y.1 = p then entOf (p, v) :: l.map entOf else entOf (p, v) :: entOf y :: l.map entOf := rfl
    rw [hP]
    unfold putI at ih ⊢
    by_cases hlt : y.1 < p
    · have hd : delI (y :: l) p = y :: delI l p := by
        unfold delI
        rw [List.filter_cons_of_pos]
        simp; omega
      rw [hd]
      rw [if_pos hlt, ← ih]
      simp only [insI, if_neg (show ¬ p < y.1 by omega), List.map_cons]
    · have hd : delI l p = l := delI_none fun x hx => by have := h1 x hx; omega
      by_cases he : y.1 = p
      · have hd2 : delI (y :: l) p = l := by
          unfold delI at hd ⊢
          rw [List.filter_cons_of_neg (by simp [he]), hd]
        rw [hd2]
        have hins : insI (p, v) l = (p, v) :: l := by
          cases l with
          | nil => rfl
          | cons z l' => have := h1 z (List.mem_cons_self ..); simp [insI, show p < z.1 by omega]
        rw [hins]
        rw [if_neg hlt, if_pos he]
        simp
      · have hd2 : delI (y :: l) p = y :: l := delI_none fun x hx => by
          rcases List.mem_cons.1 hx with rfl | hx
          · exact he
          · have := h1 x hx; omega
        rw [hd2]
        rw [if_neg hlt, if_neg he]
        simp [insI, show p < y.1 by omega]

/-- What the document notes. -/
def noteEnt (sk : Option Ent) (k p ep s : Int) (n : Nat) (off : Int) : Ent :=
  let z := match sk with
    | some x => if x.ep ≠ ep then ⟨p, ep, 0, []⟩ else x
    | none => ⟨p, ep, 0, []⟩
  if k = 1 then ⟨z.p, z.ep, z.nx + n, (if 5 < (z.last ++ [(⟨s, n, off⟩ : Dn)]).length then (z.last ++ [⟨s, n, off⟩]).drop 1 else z.last ++ [⟨s, n, off⟩])⟩ else z
def noteR (r : List Ent) (k p ep s : Int) (t : Bool) (rs : List Rec) (off : Int) : Int × List Ent :=
  if off < 0 ∨ 281474976710656 < off then (1, r) else
  if (decideR (r.find? fun x => x.p == p) k p ep s t rs).2.2 ≠ 0 ∨ (decideR (r.find? fun x => x.p == p) k p ep s t rs).2.1 = true ∨ p = -1 then ((decideR (r.find? fun x => x.p == p) k p ep s t rs).2.2, r) else
  (0, putE r (noteEnt (r.find? fun x => x.p == p) k p ep s rs.length off))

theorem lasts_snoc (ds : List Dn) (d : Dn) : lasts (ds ++ [d]) = if 5 < (lasts ds ++ [d]).length then (lasts ds ++ [d]).drop 1 else lasts ds ++ [d] := by
  have hl := lasts_length ds
  by_cases h : 5 ≤ ds.length
  · rw [if_pos (by simp; omega)]
    unfold lasts
    rw [List.length_append, List.length_singleton, show ds.length + 1 - 5 = ds.length - 5 + 1 by omega, List.drop_append_of_le_length (by omega), List.drop_append_of_le_length (by simp; omega), List.drop_drop]
  · rw [if_neg (by simp; omega)]
    unfold lasts
    rw [List.length_append, List.length_singleton, show ds.length + 1 - 5 = 0 by omega, show ds.length - 5 = 0 by omega]
    simp

theorem noteEnt_eq (m : List (Int × St)) (k p ep s : Int) (n : Nat) (off : Int) : noteEnt ((m.map entOf).find? fun x => x.p == p) k p ep s n off = entOf (p, noteSt (lookI m p) k ep s n off) := by
  rw [find_ent]
  unfold lookI noteEnt noteSt
  cases hf : m.find? (fun x => x.1 == p) with
  | none => by_cases hk : k = 1 <;> simp [hk, entOf, lasts]
  | some x =>
    have hx := find_fst hf
    obtain ⟨xp, st⟩ := x
    dsimp only at hx
    subst hx
    by_cases he : st.epoch = ep
    · by_cases hk : k = 1
      · simp [hk, he, entOf, lasts_snoc]
      · simp [hk, he, entOf]
    · by_cases hk : k = 1 <;> simp [hk, he, entOf, lasts]

/-- The document notes as the program does. -/
theorem noteR_eq (m : List (Int × St)) (hm : m.Pairwise fun a b => a.1 < b.1) (k p ep s : Int) (t : Bool) (rs : List Rec) (off : Int) :
    noteR (m.map entOf) k p ep s t rs off = ((noteF m k p ep s t rs off).1, (noteF m k p ep s t rs off).2.map entOf) := by
  unfold noteR noteF
  rw [decideR_eq]
  split
  · rfl
  · by_cases h : (decideF (lookI m p) k p ep s t rs).2.2 ≠ 0 ∨ (decideF (lookI m p) k p ep s t rs).2.1 = true ∨ p < 0
    · rw [if_pos h]
      by_cases h2 : (decideF (lookI m p) k p ep s t rs).2.2 ≠ 0 ∨ (decideF (lookI m p) k p ep s t rs).2.1 = true ∨ p = -1
      · rw [if_pos h2]
      · exfalso
        rcases h with h | h | h
        · exact h2 (.inl h)
        · exact h2 (.inr (.inl h))
        · have hd : (decideF (lookI m p) k p ep s t rs).2.2 = checkE k p ep s t rs := by
            unfold decideF; rw [if_pos (.inr h)]
          have hc : checkE k p ep s t rs = 0 := by
            rw [← hd]
            by_cases h3 : (decideF (lookI m p) k p ep s t rs).2.2 = 0
            · exact h3
            · exact absurd (.inl h3) h2
          have := check_neg hc
          exact h2 (.inr (.inr (by omega)))
    · rw [if_neg h, if_neg (fun h2 => h (h2.imp id (Or.imp id (fun e => by omega)))), noteEnt_eq, putE_put _ _ _ hm]
end Go.Proofs.Ytjpmdjjihdicdaa
