/- What Patch does, as data. -/
import Derived.Test.YtjokpjfmnjefdaaOc
import Derived.Test.YtjokpjfmnjefdaaRw
namespace Go.Proofs.Ytjokpjfmnjefdaa
open Go.RowKit Go.Shelf

def offL (l : List Pr) (k : ByteArray) : Int := ((getL l k).map (·.off)).getD 0
def chP (l : List Pr) (c : Ch) : Pr := ⟨c.key, c.new, offL l c.key⟩
def patS (l out : List Pr) (c : Ch) : List Pr := if c.is then withL out (chP l c) else withoutL out c.key
def badC (l : List Pr) (c : Ch) : Bool := !decide (gotV (getL l c.key) = c.old) || !((getL l c.key).isSome == c.was) || (!c.is && !decide (c.new = ⟨#[]⟩))
def outP (l : List Pr) (cs : List Ch) : List Pr := cs.foldl (patS l) l

theorem getL_without {l : List Pr} {k k' : ByteArray} (h : k ≠ k') : getL (withoutL l k) k' = getL l k' := by
  unfold getL withoutL
  rw [List.find?_filter]
  congr 1
  funext p
  by_cases e : p.key = k'
  · subst e; simp [Ne.symm h]
  · simp [e]
theorem getL_ins {p : Pr} {k' : ByteArray} (h : p.key ≠ k') : ∀ l : List Pr, getL (insL p l) k' = getL l k'
  | [] => by simp [getL, insL, h]
  | x :: r => by
    have ih := getL_ins h r
    unfold insL
    split
    · simp only [getL, List.find?_cons, h, decide_false]
    · unfold getL at ih ⊢
      simp only [List.find?_cons, ih]
theorem getL_with {l : List Pr} {p : Pr} {k' : ByteArray} (h : p.key ≠ k') : getL (withL l p) k' = getL l k' := by
  unfold withL
  rw [getL_ins h, getL_without h]
theorem getL_patS {l out : List Pr} {c : Ch} {k : ByteArray} (h : c.key ≠ k) : getL (patS l out c) k = getL out k := by
  unfold patS
  split
  · exact getL_with (p := chP l c) h
  · exact getL_without h
theorem getL_fold (l : List Pr) {k : ByteArray} : ∀ (cs : List Ch) (out : List Pr), (∀ c ∈ cs, c.key ≠ k) → getL (cs.foldl (patS l) out) k = getL out k
  | [], _, _ => rfl
  | c :: r, out, h => by
    rw [List.foldl_cons, getL_fold l r _ fun x hx => h x (by simp [hx]), getL_patS (h c (by simp))]
theorem ris_patS {l out : List Pr} (h : Ris out) (c : Ch) : Ris (patS l out c) := by
  unfold patS
  split
  · exact ris_with h _
  · exact ris_without h _
theorem ris_foldP (l : List Pr) : ∀ (cs : List Ch) (out : List Pr), Ris out → Ris (cs.foldl (patS l) out)
  | [], _, h => h
  | c :: r, out, h => ris_foldP l r _ (ris_patS h c)
theorem ris_outP {l : List Pr} (h : Ris l) (cs : List Ch) : Ris (outP l cs) := ris_foldP l cs l h
theorem outP_succ {l : List Pr} {cs : List Ch} {i : Nat} (h : i < cs.length) : outP l (cs.take (i + 1)) = patS l (outP l (cs.take i)) cs[i] := by
  unfold outP
  rw [List.take_succ_eq_append_getElem h, List.foldl_append]
  rfl
theorem len_patS (l out : List Pr) (c : Ch) : (patS l out c).length ≤ out.length + 1 := by
  unfold patS
  split
  · exact len_with _ _
  · exact Nat.le_succ_of_le (len_without _ _)
theorem len_outP (l : List Pr) (cs : List Ch) : ∀ i, i ≤ cs.length → (outP l (cs.take i)).length ≤ l.length + i
  | 0, _ => by simp [outP]
  | i + 1, h => by
    rw [outP_succ (by omega)]
    have := len_outP l cs i (by omega)
    have := len_patS l (outP l (cs.take i)) cs[i]
    omega

theorem risC_lt {cs : List Ch} (h : RisC cs) : ∀ (d i : Nat) (q : i + d + 1 < cs.length), sb cs[i].key cs[i + d + 1].key = true
  | 0, i, q => h i q
  | d + 1, i, q => sb_trans (risC_lt h d i (by omega)) (h (i + d + 1) (by omega))
theorem risC_ne {cs : List Ch} (h : RisC cs) {i : Nat} (hi : i < cs.length) : ∀ c ∈ cs.take i, c.key ≠ cs[i].key := fun c hc e => by
  obtain ⟨j, hj, rfl⟩ := List.getElem_of_mem hc
  have hji : j < i := by rw [List.length_take] at hj; omega
  rw [List.getElem_take] at e
  have := risC_lt h (i - j - 1) j (by omega)
  simp only [show j + (i - j - 1) + 1 = i from by omega] at this
  rw [e, sb_irrefl] at this
  cases this

theorem split_at {l : List Pr} {i : Nat} (hi : i < l.length) : l = l.take i ++ l[i] :: l.drop (i + 1) := by
  rw [List.getElem_cons_drop, List.take_append_drop]
theorem mem_take_ne {l : List Pr} {k : ByteArray} {i : Nat} (h : At l k i) : ∀ x ∈ l.take i, x.key ≠ k := fun x hx e => by
  obtain ⟨j, hj, rfl⟩ := List.getElem_of_mem hx
  rw [List.length_take] at hj
  have := h.2.1 j (by omega) (by omega)
  rw [List.getElem_take] at e
  rw [e, sb_irrefl] at this
  cases this
theorem mem_drop_gt {l : List Pr} (hr : Ris l) {i : Nat} (hi : i < l.length) : ∀ x ∈ l.drop (i + 1), sb l[i].key x.key = true := fun x hx => by
  obtain ⟨j, hj, rfl⟩ := List.getElem_of_mem hx
  rw [List.length_drop] at hj
  rw [List.getElem_drop]
  exact List.pairwise_iff_getElem.1 hr _ _ hi (by omega) (by omega)
theorem without_found {l : List Pr} (hr : Ris l) {k : ByteArray} {i : Nat} (h : At l k i) (hi : i < l.length) (he : l[i].key = k) : withoutL l k = l.take i ++ l.drop (i + 1) := by
  have h1 := without_none (mem_take_ne h)
  have h2 : withoutL (l.drop (i + 1)) k = l.drop (i + 1) := without_none fun x hx e => by
    have := mem_drop_gt hr hi x hx
    rw [he, e, sb_irrefl] at this
    cases this
  unfold withoutL at *
  conv => lhs; rw [split_at hi]
  rw [List.filter_append, List.filter_cons, if_neg (by simp [he]), h1, h2]
theorem getL_found {l : List Pr} {k : ByteArray} {i : Nat} (h : At l k i) (hi : i < l.length) (he : l[i].key = k) : getL l k = some l[i] :=
  getL_some hi (fun j hj hji e => by have := h.2.1 j hj hji; rw [e, sb_irrefl] at this; cases this) he
theorem with_found {l : List Pr} (hr : Ris l) {k : ByteArray} {i : Nat} (h : At l k i) (hi : i < l.length) (he : l[i].key = k) (p : Pr) (hp : p.key = k) : withL l p = l.set i p := by
  unfold withL
  rw [hp, without_found hr h hi he]
  have hl1 : (l.take i).length = i := by rw [List.length_take]; omega
  rw [insL_at p _ i (by simp; omega)]
  · rw [List.take_left' hl1, List.drop_left' hl1, List.set_eq_take_append_cons_drop, if_pos hi]
    simp
  · intro j hj hji
    rw [List.getElem_append_left (by omega), List.getElem_take, hp]
    exact h.2.1 j (by omega) hji
  · intro hj
    rw [List.getElem_append_right (by omega), hp, ← he]
    exact mem_drop_gt hr hi _ (List.getElem_mem _)
theorem not_found {l : List Pr} (hr : Ris l) {k : ByteArray} {i : Nat} (h : At l k i) (hf : foundB l k i = false) : ∀ x ∈ l, x.key ≠ k := fun x hx e => by
  obtain ⟨j, hj, rfl⟩ := List.getElem_of_mem hx
  have hf' : ¬ ∃ q : i < l.length, l[i].key = k := of_decide_eq_false hf
  by_cases c1 : j < i
  · have := h.2.1 j hj c1
    rw [e, sb_irrefl] at this; cases this
  · have hi : i < l.length := by omega
    have hz := h.2.2 i hi (Nat.le_refl _)
    by_cases c2 : j = i
    · subst c2; exact hf' ⟨hi, e⟩
    · have := List.pairwise_iff_getElem.1 hr i j hi hj (by omega)
      rw [e, hz] at this; cases this
theorem getL_not {l : List Pr} {k : ByteArray} (h : ∀ x ∈ l, x.key ≠ k) : getL l k = none := getL_none fun _ _ => h _ (List.getElem_mem _)
theorem with_not {l : List Pr} (hr : Ris l) {k : ByteArray} {i : Nat} (h : At l k i) (hf : foundB l k i = false) (p : Pr) (hp : p.key = k) : withL l p = l.take i ++ [p] ++ l.drop i := by
  have hn := not_found hr h hf
  unfold withL
  rw [hp, without_none hn]
  refine insL_at p l i h.1 (fun j hj hji => ?_) fun hi => ?_
  · rw [hp]; exact h.2.1 j hj hji
  · rw [hp]
    rcases sb_total (hn l[i] (List.getElem_mem _)) with hh | hh
    · rw [h.2.2 i hi (Nat.le_refl _)] at hh; cases hh
    · exact hh
theorem found_of {l : List Pr} {k : ByteArray} {i : Nat} (h : foundB l k i = true) : ∃ q : i < l.length, l[i].key = k := of_decide_eq_true h

/-- The round's four ends. -/
theorem patS_found {l out : List Pr} (hr : Ris out) {c : Ch} {i : Nat} (hg : getL out c.key = getL l c.key) (h : At out c.key i) (hi : i < out.length) (he : out[i].key = c.key) :
    patS l out c = if c.is then out.set i ⟨c.key, c.new, out[i].off⟩ else out.take i ++ out.drop (i + 1) := by
  have ho : offL l c.key = out[i].off := by unfold offL; rw [← hg, getL_found h hi he]; rfl
  unfold patS
  split
  · rw [with_found hr h hi he _ (by rfl)]
    unfold chP
    rw [ho]
  · exact without_found hr h hi he
theorem patS_not {l out : List Pr} (hr : Ris out) {c : Ch} {i : Nat} (hg : getL out c.key = getL l c.key) (h : At out c.key i) (hf : foundB out c.key i = false) :
    patS l out c = if c.is then out.take i ++ [⟨c.key, c.new, 0⟩] ++ out.drop i else out := by
  have hn := not_found hr h hf
  have ho : offL l c.key = 0 := by unfold offL; rw [← hg, getL_not hn]; rfl
  unfold patS
  split
  · rw [with_not hr h hf _ (by rfl)]
    unfold chP
    rw [ho]
  · exact without_none hn
end Go.Proofs.Ytjokpjfmnjefdaa
