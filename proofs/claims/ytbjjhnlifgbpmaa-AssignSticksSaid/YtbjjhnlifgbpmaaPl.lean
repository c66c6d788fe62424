/- Layer 14 as plain lists: how the lists of what is free and what members get follow the owners. -/
import Derived.Test.YtbjjhnlifgbpmaaOy
namespace Go.Proofs.Ytbjjhnlifgbpmaa

/-- What is free and what members get, as the owners tell it. -/
def RelO (own : List Int) (n : Nat) (f : List Int) (os : List (List Int)) : Prop := f = freeL own ∧ os.length = n ∧ ∀ j, j < n → (os.getD j []).Perm (ofL own j)

theorem erase_filter {l : List Int} (h : l.Nodup) (p : Int) : l.erase p = l.filter fun x => x != p := by
  rw [h.erase_eq_filter]
theorem getD_setL {os : List (List Int)} {i j : Nat} (hi : i < os.length) (l : List Int) : (os.set i l).getD j [] = if j = i then l else os.getD j [] := by
  simp only [List.getD_eq_getElem?_getD, List.getElem?_set]
  by_cases e : j = i
  · subst e; simp [hi]
  · rw [if_neg e, if_neg (Ne.symm e)]
/-- One that is free is taken. -/
theorem RelO.take {own : List Int} {n : Nat} {f : List Int} {os : List (List Int)} (h : RelO own n f os) {i : Nat} (hi : i < n) {p : Int} (h0 : 0 ≤ p) (hp : p.toNat < own.length) (hf : own.getD p.toNat (-1) < 0) :
    RelO (own.set p.toNat (i : Int)) n (f.erase p) (os.set i (os.getD i [] ++ [p])) := by
  obtain ⟨h1, h2, h3⟩ := h
  have hpp : ((p.toNat : Nat) : Int) = p := by omega
  refine ⟨?_, by simpa using h2, fun j hj => ?_⟩
  · rw [h1, erase_filter (nodup_of_rising (freeL_rising own)), freeL_set hp, hpp]
  · rw [getD_setL (by omega)]
    by_cases e : j = i
    · subst e
      rw [if_pos rfl]
      have := ofL_set_perm hp j hf (h3 j hj)
      rwa [hpp] at this
    · rw [if_neg e, ofL_set_ne hp e (by omega)]
      exact h3 j hj
/-- The first k of a list that are free are taken, one by one. -/
theorem RelO.takes {own : List Int} {n : Nat} {f : List Int} {os : List (List Int)} (h : RelO own n f os) {i : Nat} (hi : i < n) (l : List Int) (hl : ∀ p ∈ l, 0 ≤ p ∧ p.toNat < own.length)
    (hf : ∀ k p, l[k]? = some p → (setsF own i (l.take k)).getD p.toNat (-1) < 0) : ∀ k, k ≤ l.length → RelO (setsF own i (l.take k)) n ((l.take k).foldl List.erase f) (os.set i (os.getD i [] ++ l.take k))
  | 0, _ => by
    obtain ⟨h1, h2, h3⟩ := h
    have e : os.set i (os.getD i []) = os := by rw [getD_get _ _ (by omega)]; exact List.set_getElem_self (by omega)
    simp only [List.take_zero, List.foldl_nil, List.append_nil, e]
    exact ⟨h1, h2, h3⟩
  | k + 1, hk => by
    have ih := h.takes hi l hl hf k (by omega)
    have hkl : k < l.length := by omega
    have hp := hl l[k] (List.getElem_mem _)
    have := ih.take hi (p := l[k]) hp.1 (by rw [setsF_len]; exact hp.2) (hf k l[k] (List.getElem?_eq_getElem hkl))
    rw [getD_setL (by rw [h.2.1]; exact hi), if_pos rfl, List.set_set] at this
    rw [List.take_succ_eq_append_getElem hkl, setsF_snoc, List.foldl_append, List.foldl_cons, List.foldl_nil, ← List.append_assoc]
    exact this
theorem freeL_len_le (own : List Int) : (freeL own).length ≤ own.length := by
  unfold freeL
  rw [List.length_map]
  exact Nat.le_trans (List.length_filter_le ..) (by simp)
theorem ofL_len_le (own : List Int) (i : Nat) : (ofL own i).length ≤ own.length := by rw [ofL_len]; exact List.countP_le_length ..
/-- The lowest free ones, till there are base: told by the list of free ones. -/
theorem RelO.fills {n : Nat} {i : Nat} (hi : i < n) (base : Nat) : ∀ (m : Nat) (own : List Int) (f : List Int) (os : List (List Int)), RelO own n f os → base - (os.getD i []).length < m →
    RelO (fill m own i base) n (f.drop (base - (os.getD i []).length)) (os.set i (os.getD i [] ++ f.take (base - (os.getD i []).length)))
  | 0, own, f, os, h, hm => by omega
  | m + 1, own, f, os, h, hm => by
    have hlen : (os.getD i []).length = cnt own i := by rw [(h.2.2 i hi).length_eq, ofL_len]
    have hself : os.set i (os.getD i []) = os := by have := h.2.1; rw [getD_get _ _ (by omega)]; exact List.set_getElem_self (by omega)
    by_cases hb : cnt own i < base
    · rcases give_free own i with ⟨h1, h2⟩ | ⟨p, hp, hneg, h1, h2⟩
      · have e : fill (m + 1) own i base = own := by rw [show fill (m + 1) own i base = if cnt own i < base then (match give own i with | some o => fill m o i base | none => own) else own from rfl, if_pos hb, h2]
        rw [e, h.1, h1]
        simp only [List.drop_nil, List.take_nil, List.append_nil, hself]
        rw [← h1, ← h.1]; exact h
      · have e : fill (m + 1) own i base = fill m (own.set p (i : Int)) i base := by rw [show fill (m + 1) own i base = if cnt own i < base then (match give own i with | some o => fill m o i base | none => own) else own from rfl, if_pos hb, h2]
        have ht := h.take hi (p := (p : Int)) (by omega) (by simpa using hp) (by simpa using hneg)
        simp only [Int.toNat_natCast] at ht
        have hf' : f.erase (p : Int) = freeL (own.set p (i : Int)) := ht.1
        have hos : (os.set i (os.getD i [] ++ [(p : Int)])).getD i [] = os.getD i [] ++ [(p : Int)] := by rw [getD_setL (by have := h.2.1; omega), if_pos rfl]
        have ih := RelO.fills hi base m _ _ _ ht (by rw [hos, List.length_append, List.length_singleton]; omega)
        rw [e]
        rw [hos, List.set_set, hf', List.length_append, List.length_singleton] at ih
        have hd : base - (os.getD i []).length = (base - ((os.getD i []).length + 1)) + 1 := by omega
        rw [hd, h.1, h1, List.drop_succ_cons, List.take_succ_cons]
        rw [List.append_assoc, List.singleton_append] at ih
        exact ih
    · have e : fill (m + 1) own i base = own := by rw [show fill (m + 1) own i base = if cnt own i < base then (match give own i with | some o => fill m o i base | none => own) else own from rfl, if_neg hb]
      rw [e, show base - (os.getD i []).length = 0 from by omega, List.drop_zero, List.take_zero, List.append_nil, hself]
      exact h
theorem RelO.top {n : Nat} {i : Nat} (hi : i < n) (base : Nat) {own f : List Int} {os : List (List Int)} (h : RelO own n f os) :
    RelO (if cnt own i = base then (give own i).getD own else own) n (f.drop (if (os.getD i []).length = base then 1 else 0)) (os.set i (os.getD i [] ++ f.take (if (os.getD i []).length = base then 1 else 0))) := by
  have hlen : (os.getD i []).length = cnt own i := by rw [(h.2.2 i hi).length_eq, ofL_len]
  have hself : os.set i (os.getD i []) = os := by have := h.2.1; rw [getD_get _ _ (by omega)]; exact List.set_getElem_self (by omega)
  rw [hlen]
  by_cases hb : cnt own i = base
  · rw [if_pos hb, if_pos hb]
    rcases give_free own i with ⟨h1, h2⟩ | ⟨p, hp, hneg, h1, h2⟩
    · rw [h2, h.1, h1]
      simp only [Option.getD_none, List.drop_nil, List.take_nil, List.append_nil, hself]
      rw [← h1, ← h.1]; exact h
    · rw [h2]
      have ht := h.take hi (p := (p : Int)) (by omega) (by simpa using hp) (by simpa using hneg)
      simp only [Int.toNat_natCast] at ht
      have hf' : f.erase (p : Int) = freeL (own.set p (i : Int)) := ht.1
      rw [hf'] at ht
      rw [h.1, h1]
      simpa using ht
  · rw [if_neg hb, if_neg hb, List.drop_zero, List.take_zero, List.append_nil, hself]
    exact h
end Go.Proofs.Ytbjjhnlifgbpmaa
