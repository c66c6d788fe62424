/- disk: Sync as data, key by key in whatever order. No program in sight. -/
import Derived.Test.YteaenhmiomoocaaPl
namespace Go.Proofs.Yteaenhmiomoocaa

theorem lookI_filter {α : Type} (m : List (Int × α)) (pr : Int → Bool) (k : Int) : lookI (m.filter fun p => !pr p.1) k = if pr k then none else lookI m k := by
  unfold lookI
  rw [List.find?_filter]
  cases h : pr k with
  | true =>
    simp only [if_true, Option.map_eq_none_iff, List.find?_eq_none]
    intro p _
    by_cases e : p.1 = k
    · simp [e, h]
    · simp [e]
  | false =>
    simp only [Bool.false_eq_true, if_false]
    congr 2
    funext p
    by_cases e : p.1 = k
    · simp [e, h]
    · simp [e]
theorem lookI_some_mem {α : Type} {m : List (Int × α)} {p : Int × α} (h : p ∈ m) : (lookI m p.1).isSome = true := by
  unfold lookI
  rw [Option.isSome_map, List.find?_isSome]
  exact ⟨p, h, by simp⟩

/-- d behind the blocks that pr names. -/
def prD (d : Dsk) (pr : Int → Bool) : Dsk :=
  { d with ts := d.ts.mapIdx (fun j t => if pr (j : Int) then ((lookI d.vs (j : Int)).map lastT).getD t else t), bad := d.bad.filter (fun p => !(pr p.1 && (lookI d.vs p.1).isSome)), vs := d.vs.filter (fun p => !pr p.1) }
theorem prD_none (d : Dsk) : prD d (fun _ => false) = d := by
  obtain ⟨ts, bad, vs, off, fuse⟩ := d
  have h : List.mapIdx (fun (j : Nat) (t : Tx) => t) ts = ts := by apply List.ext_getElem <;> simp
  simp [prD, h]
theorem prD_step {d : Dsk} {pr : Int → Bool} {i : Nat} {l : List Tx} (h : lookI d.vs (i : Int) = some l) :
    prD d (fun j => pr j || j == (i : Int)) = { prD d pr with ts := (prD d pr).ts.set i (lastT l), bad := delI (prD d pr).bad i, vs := delI (prD d pr).vs i } := by
  simp only [prD, Dsk.mk.injEq, and_true]
  refine ⟨?_, ?_, ?_⟩
  · apply List.ext_getElem
    · simp
    · intro j h1 h2
      simp only [List.getElem_mapIdx, List.getElem_set]
      by_cases e : i = j
      · subst e
        simp [h]
      · have e' : ((j : Int) == (i : Int)) = false := by rw [beq_eq_false_iff_ne]; omega
        simp [e, e']
  · unfold delI
    rw [List.filter_filter]
    apply List.filter_congr
    intro p _
    by_cases e : p.1 = (i : Int)
    · simp [e, h]
    · have e' : (p.1 == (i : Int)) = false := by rw [beq_eq_false_iff_ne]; exact e
      simp [e']
  · unfold delI
    rw [List.filter_filter]
    apply List.filter_congr
    intro p _
    by_cases e : p.1 = (i : Int)
    · simp [e]
    · have e' : (p.1 == (i : Int)) = false := by rw [beq_eq_false_iff_ne]; exact e
      simp [e']
theorem prD_all {d : Dsk} {pr : Int → Bool} (h : ∀ k : Int, (lookI d.vs k).isSome = true → pr k = true) : prD d pr = syncS d := by
  simp only [prD, syncS, syncT, syncB, Dsk.mk.injEq, and_true]
  refine ⟨?_, ?_, ?_⟩
  · apply List.ext_getElem
    · simp
    · intro j h1 h2
      simp only [List.getElem_mapIdx]
      cases hv : lookI d.vs (j : Int) with
      | none => simp
      | some l => simp [h j (by rw [hv]; rfl)]
  · apply List.filter_congr
    intro p _
    cases hv : lookI d.vs p.1 with
    | none => simp
    | some l => simp [h p.1 (by rw [hv]; rfl)]
  · rw [List.filter_eq_nil_iff]
    intro p hp
    simp [h p.1 (lookI_some_mem hp)]
theorem prD_len (d : Dsk) (pr : Int → Bool) : (prD d pr).ts.length = d.ts.length := by simp [prD]
theorem prD_tx {d : Dsk} {N : Nat} (h : d.Ok N) (pr : Int → Bool) : ∀ t ∈ (prD d pr).ts, t.length = 256 := by
  intro t ht
  simp only [prD] at ht
  obtain ⟨j, hj, rfl⟩ := List.mem_mapIdx.1 ht
  split
  · cases hv : lookI d.vs (j : Int) with
    | none => exact h.tx _ (List.getElem_mem _)
    | some l => obtain ⟨_, _, h3, _, h5⟩ := h.vs _ l hv; exact h5 _ (lastT_mem h3)
  · exact h.tx _ (List.getElem_mem _)
end Go.Proofs.Yteaenhmiomoocaa
