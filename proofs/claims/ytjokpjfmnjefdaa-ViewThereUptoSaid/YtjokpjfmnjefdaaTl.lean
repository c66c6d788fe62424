/- What Diff tells, done by Patch, makes the second table, but for offsets: the plain law. -/
import Derived.Test.YtjokpjfmnjefdaaPd
import Derived.Test.YtjokpjfmnjefdaaDp
namespace Go.Proofs.Ytjokpjfmnjefdaa
open Go.RowKit Go.Shelf

theorem getL_ins_same (p : Pr) : ∀ m : List Pr, (∀ x ∈ m, x.key ≠ p.key) → getL (insL p m) p.key = some p
  | [], _ => by simp [getL, insL]
  | x :: r, h => by
    unfold insL
    split
    · simp [getL]
    · have hx := h x (by simp)
      have ih := getL_ins_same p r fun y hy => h y (by simp [hy])
      unfold getL at ih ⊢
      rw [List.find?_cons, ih]
      simp [hx]
theorem getL_with_same (l : List Pr) (p : Pr) : getL (withL l p) p.key = some p := getL_ins_same p _ fun _ hx => without_key hx
theorem getL_without_same (l : List Pr) (k : ByteArray) : getL (withoutL l k) k = none := getL_not fun _ hx => without_key hx
theorem getL_patS_same (l out : List Pr) (c : Ch) : getL (patS l out c) c.key = if c.is then some (chP l c) else none := by
  unfold patS
  split
  · exact getL_with_same out (chP l c)
  · exact getL_without_same out c.key
def resP (l : List Pr) (o : Option Pr) : Option Ch → Option Pr
  | some c => if c.is then some (chP l c) else none
  | none => o
theorem foldP_get (l : List Pr) (k : ByteArray) : ∀ (cs : List Ch) (out : List Pr), cs.Pairwise (fun c d => sb c.key d.key = true) →
    getL (cs.foldl (patS l) out) k = resP l (getL out k) (cs.find? (fun c => decide (c.key = k)))
  | [], out, _ => rfl
  | c :: r, out, h => by
    rw [List.pairwise_cons] at h
    rw [List.foldl_cons, List.find?_cons]
    by_cases hk : c.key = k
    · subst hk
      have hne : ∀ d ∈ r, d.key ≠ c.key := fun d hd e => by
        have := h.1 d hd
        rw [e, sb_irrefl] at this
        cases this
      rw [getL_fold l r _ hne, getL_patS_same]
      simp [resP]
    · rw [foldP_get l k r _ h.2, getL_patS hk]
      simp only [hk, decide_false]

theorem rK_some {l m : List Pr} {k : ByteArray} {c : Ch} (h : rK l m k = some c) : c = ⟨k, gotV (getL l k), gotV (getL m k), (getL l k).isSome, (getL m k).isSome⟩ := by
  unfold rK at h
  split at h
  · exact (Option.some.inj h).symm
  · cases h
theorem rK_none {l m : List Pr} {k : ByteArray} (h : rK l m k = none) : (getL l k).isSome = (getL m k).isSome ∧ gotV (getL l k) = gotV (getL m k) := by
  unfold rK at h
  split at h
  · cases h
  · rename_i hh
    simp at hh
    exact hh
theorem rDiffL_keys (l m : List Pr) : rDiffL l m = ((m.foldl withL l).map (·.key)).filterMap (rK l m) := by
  unfold rDiffL
  rw [List.filterMap_map]
  rfl
theorem diff_pair {l : List Pr} (hl : Ris l) (m : List Pr) : (rDiffL l m).Pairwise fun c d => sb c.key d.key = true := by
  rw [rDiffL_keys]
  have hp : ((m.foldl withL l).map (·.key)).Pairwise fun x y => sb x y = true := by
    rw [List.pairwise_map]; exact ris_foldW m l hl
  rw [List.pairwise_filterMap]
  refine hp.imp fun {a b} hab c hc d hd => ?_
  rw [rK_some hc, rK_some hd]
  exact hab
theorem diff_risC {l : List Pr} (hl : Ris l) (m : List Pr) : RisC (rDiffL l m) := fun j h => List.pairwise_iff_getElem.1 (diff_pair hl m) j (j + 1) (by omega) h (by omega)
theorem diff_mem {l m : List Pr} {c : Ch} (h : c ∈ rDiffL l m) : rK l m c.key = some c := by
  rw [rDiffL_keys, List.mem_filterMap] at h
  obtain ⟨k, _, hk⟩ := h
  have e := rK_some hk
  have e2 : c.key = k := by rw [e]
  rw [e2]; exact hk
theorem diff_good (l m : List Pr) : ∀ c ∈ rDiffL l m, badC l c = false := fun c hc => by
  have e := rK_some (diff_mem hc)
  generalize c.key = k at e
  subst e
  unfold badC
  simp only
  cases hm : getL m k with
  | none => simp [gotV]
  | some p => simp
theorem gotV_map {a b : Option Pr} (h1 : a.isSome = b.isSome) (h2 : gotV a = gotV b) : a.map (·.val) = b.map (·.val) := by
  cases a <;> cases b <;> simp_all [gotV]
theorem there_get {l : List Pr} (hl : Ris l) (m : List Pr) (k : ByteArray) : (getL (outP l (rDiffL l m)) k).map (·.val) = (getL m k).map (·.val) := by
  unfold outP
  rw [foldP_get l k _ l (diff_pair hl m)]
  cases hf : (rDiffL l m).find? (fun c => decide (c.key = k)) with
  | some c =>
    have hc := List.mem_of_find?_eq_some hf
    have hk : c.key = k := of_decide_eq_true (List.find?_some (p := fun c : Ch => decide (c.key = k)) hf)
    have e := rK_some (diff_mem hc)
    rw [hk] at e
    subst e
    unfold resP
    cases hm : getL m k with
    | none => simp
    | some p => simp [chP, gotV]
  | none =>
    have hn : ∀ c ∈ rDiffL l m, c.key ≠ k := fun c hc e => by
      have := List.find?_eq_none.1 hf c hc
      simp [e] at this
    unfold resP
    simp only
    by_cases hk : k ∈ (m.foldl withL l).map (·.key)
    · cases hr : rK l m k with
      | none =>
        obtain ⟨h1, h2⟩ := rK_none hr
        exact gotV_map h1 h2
      | some c =>
        refine absurd ?_ (hn c ?_)
        · rw [rK_some hr]
        · rw [rDiffL_keys, List.mem_filterMap]; exact ⟨k, hk, hr⟩
    · rw [keys_foldW] at hk
      rw [getL_out fun h => hk (.inl h), getL_out fun h => hk (.inr h)]
theorem getL_at {l : List Pr} (hl : Ris l) {i : Nat} (hi : i < l.length) : getL l l[i].key = some l[i] :=
  getL_some hi (fun j hj hji e => by have := List.pairwise_iff_getElem.1 hl j i hj hi hji; rw [e, sb_irrefl] at this; cases this) rfl
theorem mem_iff {l : List Pr} (hl : Ris l) (k : ByteArray) : k ∈ l.map (·.key) ↔ (getL l k).isSome = true := by
  constructor
  · intro h
    obtain ⟨p, hp, rfl⟩ := List.mem_map.1 h
    obtain ⟨i, hi, rfl⟩ := List.getElem_of_mem hp
    rw [getL_at hl hi]; rfl
  · intro h
    by_cases hk : k ∈ l.map (·.key)
    · exact hk
    · rw [getL_out hk] at h; cases h
/-- The plain law. -/
theorem there_law {l m : List Pr} (hl : Ris l) (hm : Ris m) : (outP l (rDiffL l m)).length = m.length ∧ ∀ i (h : i < (outP l (rDiffL l m)).length) (h2 : i < m.length), (outP l (rDiffL l m))[i].key = m[i].key ∧ (outP l (rDiffL l m))[i].val = m[i].val := by
  have hr := ris_outP hl (rDiffL l m)
  have hg := there_get hl m
  generalize outP l (rDiffL l m) = o at hr hg
  have hk : o.map (·.key) = m.map (·.key) := by
    refine keys_unique (List.pairwise_map.2 hr) (List.pairwise_map.2 hm) fun k => ?_
    rw [mem_iff hr, mem_iff hm]
    have := congrArg Option.isSome (hg k)
    simp only [Option.isSome_map] at this
    rw [this]
  have hlen : o.length = m.length := by have := congrArg List.length hk; simpa using this
  refine ⟨hlen, fun i h h2 => ?_⟩
  have e1 : o[i].key = m[i].key := by
    have := congrArg (fun z => z[i]?) hk
    simp only [List.getElem?_map, List.getElem?_eq_getElem h, List.getElem?_eq_getElem h2, Option.map_some, Option.some.injEq] at this
    exact this
  refine ⟨e1, ?_⟩
  have := hg o[i].key
  rw [getL_at hr h, e1, getL_at hm h2] at this
  simpa using this
end Go.Proofs.Ytjokpjfmnjefdaa
