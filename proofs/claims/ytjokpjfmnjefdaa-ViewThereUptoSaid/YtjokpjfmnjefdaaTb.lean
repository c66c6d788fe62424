/- Tables as data: a pair in, a key out, rows one by one. -/
import Derived.Test.YtjokpjfmnjefdaaSo
namespace Go.Proofs.Ytjokpjfmnjefdaa
open Go.RowKit Go.Shelf

def withoutL (l : List Pr) (k : ByteArray) : List Pr := l.filter fun p => !decide (p.key = k)
def insL (p : Pr) : List Pr → List Pr
  | [] => [p]
  | y :: r => if sb p.key y.key then p :: y :: r else y :: insL p r
def withL (l : List Pr) (p : Pr) : List Pr := insL p (withoutL l p.key)
def rwP (r : Rw) : Pr := ⟨r.key, r.val, r.off⟩
def stepL (l : List Pr) (r : Rw) : List Pr := if r.dead then withoutL l r.key else withL l (rwP r)
def asM (l : List Pr) : List (ByteArray × Pr) := l.map fun p => (p.key, p)

theorem delS_asM (l : List Pr) (k : ByteArray) : delS (asM l) k = asM (withoutL l k) := by
  unfold delS asM withoutL
  rw [List.filter_map]
  congr 1
theorem insS_asM (p : Pr) : ∀ l : List Pr, insS (p.key, p) (asM l) = asM (insL p l)
  | [] => rfl
  | y :: r => by
    have ih := insS_asM p r
    by_cases h : sb p.key y.key = true
    · have h' : sb (p.key, p).1 ((fun p : Pr => (p.key, p)) y).1 = true := h
      simp only [asM, List.map_cons, insS, insL, if_pos h, if_pos h']
    · have h' : ¬ sb (p.key, p).1 ((fun p : Pr => (p.key, p)) y).1 = true := h
      simp only [asM, List.map_cons, insS, insL, if_neg h, if_neg h'] at *
      rw [ih]
theorem putS_asM (l : List Pr) (p : Pr) : putS (asM l) p.key p = asM (withL l p) := by
  unfold putS withL
  rw [delS_asM, insS_asM]

/-- A table's keys rise. -/
def Ris (l : List Pr) : Prop := l.Pairwise fun x y => sb x.key y.key = true
theorem ris_without {l : List Pr} (h : Ris l) (k : ByteArray) : Ris (withoutL l k) := h.filter _
theorem mem_insL {p x : Pr} : ∀ {l : List Pr}, x ∈ insL p l ↔ x = p ∨ x ∈ l
  | [] => by simp [insL]
  | y :: r => by
    unfold insL
    split
    · simp
    · simp only [List.mem_cons, mem_insL (l := r)]
      constructor
      · rintro (h | h | h) <;> simp [h]
      · rintro (h | h | h) <;> simp [h]
theorem ris_ins {p : Pr} : ∀ {l : List Pr}, Ris l → (∀ x ∈ l, x.key ≠ p.key) → Ris (insL p l)
  | [], _, _ => by simp [insL, Ris]
  | y :: r, h, hn => by
    unfold insL
    have hy := List.pairwise_cons.1 h
    split
    · rename_i hb
      refine List.pairwise_cons.2 ⟨fun x hx => ?_, h⟩
      rcases List.mem_cons.1 hx with rfl | hx
      · exact hb
      · exact sb_trans hb (hy.1 x hx)
    · rename_i hb
      refine List.pairwise_cons.2 ⟨fun x hx => ?_, ris_ins hy.2 fun x hx => hn x (List.mem_cons_of_mem _ hx)⟩
      rcases mem_insL.1 hx with rfl | hx
      · rcases sb_total (hn y List.mem_cons_self) with h1 | h1
        · exact h1
        · exact absurd h1 hb
      · exact hy.1 x hx
theorem ris_with {l : List Pr} (h : Ris l) (p : Pr) : Ris (withL l p) := ris_ins (ris_without h _) fun x hx => by
  have := (List.mem_filter.1 hx).2
  simpa using this
theorem ris_step {l : List Pr} (h : Ris l) (r : Rw) : Ris (stepL l r) := by
  unfold stepL; split
  · exact ris_without h _
  · exact ris_with h _
theorem risP_iff (l : List Pr) : RisP l ↔ Ris l := by
  constructor
  · intro h
    unfold Ris
    rw [List.pairwise_iff_getElem]
    intro i j hi hj hij
    obtain ⟨d, rfl⟩ : ∃ d, j = i + 1 + d := ⟨j - (i + 1), by omega⟩
    clear hij
    induction d with
    | zero => exact h i hj
    | succ d ih => exact sb_trans (ih (by omega)) (h (i + 1 + d) (by omega))
  · intro h j hj
    exact List.pairwise_iff_getElem.1 h j (j + 1) _ _ (Nat.lt_succ_self _)
theorem ris_nodup {l : List Pr} (h : Ris l) : (l.map (·.key)).Nodup := by
  rw [List.nodup_iff_pairwise_ne, List.pairwise_map]
  exact h.imp fun h e => by rw [e, sb_irrefl] at h; cases h
theorem ris_unique {l m : List Pr} (h : Ris l) (k : Ris m) (hp : l.Perm m) : l = m :=
  List.Perm.eq_of_pairwise (le := fun x y : Pr => sb x.key y.key = true) (fun a b _ _ h1 h2 => by rw [sb_asymm h1] at h2; cases h2) h k hp
theorem asM_ris {l : List Pr} (h : (asM l).Pairwise fun p q => sb p.1 q.1 = true) : Ris l := by
  unfold asM at h
  rw [List.pairwise_map] at h
  exact h
theorem lookS_asM {l : List Pr} {k : ByteArray} {p : Pr} (h : lookS (asM l) k = some p) : p ∈ l ∧ p.key = k := by
  unfold lookS asM at h
  rw [List.find?_map, Option.map_map] at h
  obtain ⟨x, hx, rfl⟩ := Option.map_eq_some_iff.1 h
  exact ⟨List.mem_of_find?_eq_some hx, by simpa using List.find?_some hx⟩
/-- One more is told. -/
theorem perm_one {l : List Pr} (hn : (l.map (·.key)).Nodup) {x : Pr} (hx : x ∈ l) (pr : ByteArray → Bool) (h0 : pr x.key = false) : (l.filter fun p => pr p.key || decide (p.key = x.key)).Perm ((l.filter fun p => pr p.key) ++ [x]) := by
  induction l with
  | nil => cases hx
  | cons y r ih =>
    simp only [List.map_cons, List.nodup_cons] at hn
    by_cases e : y = x
    · subst e
      have h1 : (r.filter fun p => pr p.key || decide (p.key = y.key)) = r.filter fun p => pr p.key := by
        apply List.filter_congr
        intro p hp
        have : p.key ≠ y.key := fun e => hn.1 (e ▸ List.mem_map_of_mem hp)
        simp [this]
      rw [List.filter_cons_of_pos (by simp), List.filter_cons_of_neg (by simp [h0]), h1]
      exact (List.perm_append_singleton _ _).symm
    · have hx' : x ∈ r := by
        rcases List.mem_cons.1 hx with h | h
        · exact absurd h.symm e
        · exact h
      have hne : y.key ≠ x.key := fun e => hn.1 (e ▸ List.mem_map_of_mem hx')
      have := ih hn.2 hx'
      cases hp : pr y.key with
      | true =>
        rw [List.filter_cons_of_pos (by simp [hp]), List.filter_cons_of_pos (by simp [hp]), List.cons_append]
        exact this.cons _
      | false =>
        rw [List.filter_cons_of_neg (by simp [hp, hne]), List.filter_cons_of_neg (by simp [hp])]
        exact this
theorem without_none {l : List Pr} {k : ByteArray} (h : ∀ x ∈ l, x.key ≠ k) : withoutL l k = l := by
  unfold withoutL
  rw [List.filter_eq_self]
  intro x hx
  simpa using h x hx
theorem ins_last {p : Pr} : ∀ {l : List Pr}, (∀ x ∈ l, sb x.key p.key = true) → insL p l = l ++ [p]
  | [], _ => rfl
  | y :: r, h => by
    have h1 := sb_asymm (h y List.mem_cons_self)
    unfold insL
    rw [if_neg (by simp [h1]), ins_last fun x hx => h x (List.mem_cons_of_mem _ hx)]
    rfl
/-- A table, pair by pair, is itself. -/
theorem fold_table {l : List Pr} (h : Ris l) : l.foldl withL [] = l := by
  have : ∀ (r d : List Pr), Ris (d ++ r) → r.foldl withL d = d ++ r := by
    intro r
    induction r with
    | nil => intro d _; simp
    | cons p r ih =>
      intro d hd
      have hlt : ∀ x ∈ d, sb x.key p.key = true := fun x hx => (List.pairwise_append.1 hd).2.2 x hx p List.mem_cons_self
      have hw : withL d p = d ++ [p] := by
        unfold withL
        rw [without_none fun x hx e => by have := hlt x hx; rw [e, sb_irrefl] at this; cases this]
        exact ins_last hlt
      rw [List.foldl_cons, hw, ih (d ++ [p]) (by simpa using hd)]
      simp
  simpa using this l [] (by simpa using h)
theorem len_without (l : List Pr) (k : ByteArray) : (withoutL l k).length ≤ l.length := List.length_filter_le _ _
theorem len_ins (p : Pr) : ∀ l : List Pr, (insL p l).length = l.length + 1
  | [] => rfl
  | y :: r => by
    unfold insL; split
    · rfl
    · simp [len_ins p r]
theorem len_with (l : List Pr) (p : Pr) : (withL l p).length ≤ l.length + 1 := by
  unfold withL; rw [len_ins]; have := len_without l p.key; omega
theorem len_step (l : List Pr) (r : Rw) : (stepL l r).length ≤ l.length + 1 := by
  unfold stepL; split
  · have := len_without l r.key; omega
  · exact len_with _ _
theorem len_fold (r : List Rw) : ∀ l : List Pr, (r.foldl stepL l).length ≤ l.length + r.length := by
  induction r with
  | nil => intro l; simp
  | cons x r ih => intro l; rw [List.foldl_cons]; have := ih (stepL l x); have := len_step l x; simp; omega
end Go.Proofs.Ytjokpjfmnjefdaa
