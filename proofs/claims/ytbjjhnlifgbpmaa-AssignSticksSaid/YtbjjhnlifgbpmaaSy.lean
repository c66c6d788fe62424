/- What AssignStays asks for, in plain lists. No program in sight. -/
import Derived.Test.YtbjjhnlifgbpmaaEu
import Derived.Test.YtbjjhnlifgbpmaaFm
import Derived.Test.YtbjjhnlifgbpmaaSq
import Derived.Test.YtbjjhnlifgbpmaaNm
import Derived.Test.YtbjjhnlifgbpmaaPh
namespace Go.Proofs.Ytbjjhnlifgbpmaa

theorem sortS_sorted (l : List ByteArray) : (sortS l).Pairwise fun a b => sb b a = false := by
  have tr : ∀ a b c : List UInt8, (decide (a ≤ b)) = true → (decide (b ≤ c)) = true → (decide (a ≤ c)) = true := fun a b c h1 h2 => by
    simp only [decide_eq_true_eq] at *; exact List.le_trans h1 h2
  have tot : ∀ a b : List UInt8, ((decide (a ≤ b)) || (decide (b ≤ a))) = true := fun a b => by
    simp only [Bool.or_eq_true, decide_eq_true_eq]; exact List.le_total a b
  have hp := (List.pairwise_mergeSort tr tot (l.map kb)).imp (S := fun a b => a ≤ b) (by intro a b h; simpa using h)
  rw [← sortS_kb, List.pairwise_map] at hp
  refine hp.imp ?_
  intro a b hab
  rw [← Bool.not_eq_true, sb_lt]
  exact List.not_lt.2 hab
theorem goodTo_at {S : List ByteArray} : ∀ {k : Nat}, goodTo S k = true → ∀ i, i < k → goodN S i = true
  | 0, _, i, hi => by omega
  | k + 1, h, i, hi => by
    simp only [goodTo, Bool.and_eq_true] at h
    by_cases e : i = k
    · subst e; exact h.2
    · exact goodTo_at h.1 i (by omega)
theorem ok_nodup {S : List ByteArray} {parts : Int} (h : okN S parts = true) (hs : S.Pairwise fun a b => sb b a = false) : S.Nodup := by
  simp only [okN, Bool.and_eq_true, decide_eq_true_eq] at h
  have hg := goodTo_at h.2
  have hstep : ∀ i (h1 : i + 1 < S.length), sb S[i] S[i + 1] = true := fun i h1 => by
    have h2 := hg (i + 1) h1
    simp only [goodN, Nat.add_sub_cancel, getD_get S default h1, getD_get S default (show i < S.length by omega), Bool.and_eq_true, Bool.or_eq_true, decide_eq_true_eq, Bool.not_eq_true', decide_eq_false_iff_not] at h2
    have h3 : S[i + 1] ≠ S[i] := h2.2.resolve_left (by omega)
    have h4 := List.pairwise_iff_getElem.1 hs i (i + 1) (by omega) h1 (by omega)
    rcases sb_total h3 with h5 | h5
    · rw [h4] at h5; cases h5
    · exact h5
  have hlt : ∀ d i (h1 : i + d + 1 < S.length), sb S[i] S[i + d + 1] = true := fun d => by
    induction d with
    | zero => exact fun i h1 => hstep i h1
    | succ d ih => exact fun i h1 => sb_trans (ih i (by omega)) (hstep (i + d + 1) h1)
  rw [List.Nodup, List.pairwise_iff_getElem]
  intro i j hi hj hij e
  have h1 := hlt (j - i - 1) i (by omega)
  have e2 : i + (j - i - 1) + 1 = j := by omega
  simp only [e2] at h1
  rw [← e, sb_irrefl] at h1
  cases h1
theorem find_own : ∀ {os : List Ou}, (os.map Ou.m).Nodup → ∀ {j : Nat} (hj : j < os.length), os.find? (fun x => decide (x.m = os[j].m)) = some os[j]
  | o :: os, hd, 0, _ => by simp [List.find?]
  | o :: os, hd, j + 1, hj => by
    simp only [List.map_cons, List.nodup_cons] at hd
    have hj' : j < os.length := by simpa using hj
    have hne : ¬ o.m = os[j].m := fun e => hd.1 (by rw [e]; exact List.mem_map_of_mem (List.getElem_mem _))
    have ih := find_own hd.2 hj'
    rw [List.getElem_cons_succ, List.find?_cons, decide_eq_false hne]
    exact ih

section
variable {os : List Ou} {parts n : Nat}
/-- What a name had: its own list. -/
theorem had_at (hd : (os.map Ou.m).Nodup) {j : Nat} (hj : j < os.length) : (hadOf (fmL os (bk os.length)) os[j].m).l = os[j].r.l := by
  rw [hadOf, look_first, find_own hd hj]; rfl
theorem had_in {s : ByteArray} {x : Int} (h : x ∈ (hadOf (fmL os (bk os.length)) s).l) : ∃ j, ∃ h : j < os.length, os[j].m = s ∧ x ∈ os[j].r.l := by
  rw [hadOf, look_first] at h
  cases hf : os.find? (fun x => decide (x.m = s)) with
  | none => rw [hf] at h; simp [noRow] at h
  | some o =>
    rw [hf] at h
    obtain ⟨j, hj, e⟩ := List.getElem_of_mem (List.mem_of_find?_eq_some hf)
    have hm := List.find?_some hf
    simp only [decide_eq_true_eq] at hm
    exact ⟨j, hj, by rw [e]; exact hm, by rw [e]; exact h⟩
theorem had_rising (hr : ∀ j (h : j < os.length), os[j].r.l.Pairwise (· < ·)) (s : ByteArray) : (hadOf (fmL os (bk os.length)) s).l.Pairwise (· < ·) := by
  rw [hadOf, look_first]
  cases hf : os.find? (fun x => decide (x.m = s)) with
  | none => simp [noRow]
  | some o =>
    obtain ⟨j, hj, e⟩ := List.getElem_of_mem (List.mem_of_find?_eq_some hf)
    have := hr j hj
    rw [e] at this
    exact this
theorem fps_get (fm : List (ByteArray × Rw3)) (S : List ByteArray) (i : Nat) : (fpsOf fm S).getD i [] = if h : i < S.length then (hadOf fm S[i]).l else [] := by
  rw [List.getD_eq_getElem?_getD, fpsOf, List.getElem?_map]
  split
  · rename_i h; rw [List.getElem?_eq_getElem h]; rfl
  · rename_i h; rw [List.getElem?_eq_none (by omega)]; rfl

theorem fps_range (hl : os.length = n) (hd : (os.map Ou.m).Nodup) (hj : ∀ j, j < n → (os.getD j default).r.l = rangeL parts n j) : fpsOf (fmL os (bk os.length)) (os.map Ou.m) = fsR parts n := by
  apply List.ext_getElem
  · simp [fpsOf, fsR, hl]
  · intro i h1 h2
    have hi : i < os.length := by simpa [fpsOf] using h1
    have := hj i (by omega)
    rw [List.getD_eq_getElem?_getD, List.getElem?_eq_getElem hi] at this
    simp only [fpsOf, fsR, List.getElem_map, List.getElem_range]
    rw [had_at hd hi, ← this]; rfl
/-- Who stays keeps what it had. -/
theorem stays_within (hn : 1 ≤ n) (hl : os.length = n) (hd : (os.map Ou.m).Nodup) (hj : ∀ j, j < n → (os.getD j default).r.l = rangeL parts n j) {S : List ByteArray} (hS : S.length = n) (hSd : S.Nodup) {i k : Nat} (hi : i < n) (hk : k < n)
    (he : (os.getD k default).m = S.getD i default) (hb : (rangeL parts n k).length ≤ parts / n) : ∀ p ∈ rangeL parts n k, p ∈ ofL (own4 parts n (fpsOf (fmL os (bk os.length)) S)) i := by
  have hg : ∀ j (h : j < os.length), os[j].r.l = rangeL parts n j := fun j h => by
    have := hj j (by omega)
    rwa [getD_get _ _ h] at this
  have hki : k < os.length := by omega
  rw [getD_get _ _ hki, getD_get _ _ (show i < S.length by omega)] at he
  have hfi : (fpsOf (fmL os (bk os.length)) S).getD i [] = rangeL parts n k := by
    rw [fps_get, dif_pos (by omega), ← he, had_at hd hki, hg k hki]
  intro p hp
  refine stays_keeps (fun j => ?_) (fun j x hx => ?_) (fun a b x hxa hxb => ?_) hi (by rw [hfi]; exact hb) (by rw [hfi]; exact hp)
  · rw [fps_get]
    split
    · exact had_rising (fun j h => by rw [hg j h]; exact rangeL_rising parts n j) _
    · exact List.Pairwise.nil
  · rw [fps_get] at hx
    split at hx
    · obtain ⟨m, hm, _, hxm⟩ := had_in hx
      rw [hg m hm] at hxm
      have h := mem_rangeL.1 hxm
      have h1 := startR_mono parts n (m + 1) (n - (m + 1))
      rw [show m + 1 + (n - (m + 1)) = n from by omega, startR_end (by omega)] at h1
      omega
    · simp at hx
  · rw [fps_get] at hxa hxb
    split at hxa
    · split at hxb
      · rename_i ha hb'
        obtain ⟨m, hm, e1, hxm⟩ := had_in hxa
        obtain ⟨q, hq, e2, hxq⟩ := had_in hxb
        rw [hg m hm] at hxm
        rw [hg q hq] at hxq
        have := rangeL_apart hxm hxq
        subst this
        exact (List.getElem_inj hSd).1 (e1.symm.trans e2)
      · simp at hxb
    · simp at hxa
end
end Go.Proofs.Ytbjjhnlifgbpmaa
