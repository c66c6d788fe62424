/- The document's disk: Crash (35): the plain law of its loop. No program in sight. -/
import Derived.Test.YteaenhmiomoocaaRs
namespace Go.Proofs.Yteaenhmiomoocaa
open Go.RowKit Go.Shelf

/-- Behind the first k dirty blocks. -/
def crS (d : Dsk) (cs : List Int) (k : Nat) : Dsk := { crashL d (d.vs.take k) cs with vs := d.vs.drop k }
/-- k of the dirty blocks lie ahead of i. -/
def CrIdx (d : Dsk) (i k : Nat) : Prop := k ≤ d.vs.length ∧ (∀ p ∈ d.vs.take k, p.1 < (i : Int)) ∧ ∀ p ∈ d.vs.drop k, (i : Int) ≤ p.1

theorem crash1_keep (d : Dsk) (p : Int × List Tx) (c : Int) : (crash1 d p c).vs = d.vs ∧ (crash1 d p c).ts.length = d.ts.length ∧ (crash1 d p c).off = d.off ∧ (crash1 d p c).fuse = d.fuse := by
  unfold crash1
  split
  · exact ⟨rfl, by simp, rfl, rfl⟩
  · split <;> exact ⟨rfl, rfl, rfl, rfl⟩
theorem crashL_keep : ∀ (l : List (Int × List Tx)) (d : Dsk) (cs : List Int), (crashL d l cs).vs = d.vs ∧ (crashL d l cs).ts.length = d.ts.length ∧ (crashL d l cs).off = d.off ∧ (crashL d l cs).fuse = d.fuse
  | [], _, _ => ⟨rfl, rfl, rfl, rfl⟩
  | p :: l, d, cs => by
    obtain ⟨a, b, c, e⟩ := crashL_keep l (crash1 d p (cs.head?.getD 0)) cs.tail
    obtain ⟨a', b', c', e'⟩ := crash1_keep d p (cs.head?.getD 0)
    exact ⟨a.trans a', b.trans b', c.trans c', e.trans e'⟩
theorem crS_zero (d : Dsk) (cs : List Int) : crS d cs 0 = d := by simp [crS, crashL]
theorem crS_all (d : Dsk) (cs : List Int) : { crS d cs d.vs.length with off := false, fuse := -1 } = crashD d cs := by simp [crS, crashD]
theorem crS_len (d : Dsk) (cs : List Int) (k k' : Nat) : (crS d cs k).ts.length = (crS d cs k').ts.length := by
  simp only [crS]
  rw [(crashL_keep _ _ _).2.1, (crashL_keep _ _ _).2.1]
theorem crS_of (d : Dsk) (cs : List Int) (k : Nat) : (crS d cs k).off = d.off ∧ (crS d cs k).fuse = d.fuse := ⟨(crashL_keep _ _ _).2.2.1, (crashL_keep _ _ _).2.2.2⟩

theorem crIdx_zero {d : Dsk} {N : Nat} (hO : d.Ok N) : CrIdx d 0 0 := by
  refine ⟨Nat.zero_le _, by simp, fun p hp => ?_⟩
  obtain ⟨l, hl⟩ := Option.isSome_iff_exists.1 (lookI_some_mem (List.mem_of_mem_drop hp))
  exact (hO.vs _ l hl).1
theorem look_of_drop {d : Dsk} {i k : Nat} (h : CrIdx d i k) : lookI (d.vs.drop k) (i : Int) = lookI d.vs (i : Int) := by
  unfold lookI
  conv => rhs; rw [← List.take_append_drop k d.vs]
  have e : (d.vs.take k).find? (fun p => p.1 == (i : Int)) = none := List.find?_eq_none.2 (fun p hp => by have := h.2.1 p hp; simp; omega)
  rw [List.find?_append, e]
  rfl
theorem crIdx_skip {d : Dsk} {i k : Nat} (h : CrIdx d i k) (hv : lookI d.vs (i : Int) = none) : CrIdx d (i + 1) k := by
  refine ⟨h.1, fun p hp => by have := h.2.1 p hp; omega, fun p hp => ?_⟩
  have h1 := h.2.2 p hp
  by_cases e : p.1 = (i : Int)
  · rw [← look_of_drop h, ← e] at hv
    have := lookI_some_mem hp
    rw [hv] at this
    cases this
  · omega
theorem crIdx_head {d : Dsk} {i k : Nat} {l : List Tx} (h : CrIdx d i k) (hs : d.vs.Pairwise fun p q => p.1 < q.1) (hv : lookI d.vs (i : Int) = some l) : d.vs.drop k = ((i : Int), l) :: d.vs.drop (k + 1) ∧ k < d.vs.length := by
  rw [← look_of_drop h] at hv
  have hk : k < d.vs.length := by
    rcases Nat.lt_or_ge k d.vs.length with h | h
    · exact h
    · rw [List.drop_eq_nil_of_le h] at hv; cases hv
  refine ⟨?_, hk⟩
  have hd := List.drop_eq_getElem_cons hk
  have hs2 : (d.vs.drop k).Pairwise fun p q => p.1 < q.1 := hs.drop
  have hge := h.2.2
  rw [hd] at hv hs2 hge ⊢
  obtain ⟨h1, _⟩ := List.pairwise_cons.1 hs2
  have h0 := hge _ (List.mem_cons_self ..)
  unfold lookI at hv
  rw [List.find?_cons] at hv
  by_cases e : d.vs[k].1 = (i : Int)
  · simp [e] at hv
    rw [← e, ← hv]
  · exfalso
    have e' : (d.vs[k].1 == (i : Int)) = false := by simpa using e
    rw [e'] at hv
    obtain ⟨p, hp, _⟩ := Option.map_eq_some_iff.1 hv
    have hm := List.mem_of_find?_eq_some hp
    have hi : p.1 = (i : Int) := by simpa using List.find?_some hp
    have := h1 p hm
    omega
theorem crIdx_next {d : Dsk} {i k : Nat} {l : List Tx} (h : CrIdx d i k) (hs : d.vs.Pairwise fun p q => p.1 < q.1) (hv : lookI d.vs (i : Int) = some l) : CrIdx d (i + 1) (k + 1) := by
  obtain ⟨hd, hk⟩ := crIdx_head h hs hv
  have hs2 : (d.vs.drop k).Pairwise fun p q => p.1 < q.1 := hs.drop
  rw [hd] at hs2
  obtain ⟨h1, _⟩ := List.pairwise_cons.1 hs2
  refine ⟨hk, fun p hp => ?_, fun p hp => by have := h1 p hp; dsimp only at this; omega⟩
  rw [List.take_succ_eq_append_getElem hk] at hp
  rcases List.mem_append.1 hp with hp | hp
  · have := h.2.1 p hp; omega
  · rw [List.mem_singleton.1 hp]
    have e := List.drop_eq_getElem_cons hk
    rw [hd] at e
    injection e with e1 _
    rw [← e1]
    dsimp only
    omega
theorem crIdx_end {d : Dsk} {N k : Nat} (hO : d.Ok N) (h : CrIdx d d.ts.length k) : k = d.vs.length := by
  rcases Nat.lt_or_ge k d.vs.length with hk | hk
  · exfalso
    have hm : d.vs[k] ∈ d.vs.drop k := by rw [List.drop_eq_getElem_cons hk]; exact List.mem_cons_self ..
    have h1 := h.2.2 _ hm
    obtain ⟨l, hl⟩ := Option.isSome_iff_exists.1 (lookI_some_mem (List.mem_of_mem_drop hm))
    have := (hO.vs _ l hl).2.1
    omega
  · have := h.1; omega
theorem crS_next {d : Dsk} {i k : Nat} {l : List Tx} (cs : List Int) (h : CrIdx d i k) (hs : d.vs.Pairwise fun p q => p.1 < q.1) (hv : lookI d.vs (i : Int) = some l) :
    crS d cs (k + 1) = { crash1 (crS d cs k) ((i : Int), l) (cs[k]?.getD 0) with vs := d.vs.drop (k + 1) } := by
  obtain ⟨hd, hk⟩ := crIdx_head h hs hv
  have e : d.vs.take (k + 1) = d.vs.take k ++ [((i : Int), l)] := by
    rw [List.take_succ_eq_append_getElem hk]
    have e := List.drop_eq_getElem_cons hk
    rw [hd] at e
    injection e with e1 _
    rw [← e1]
  unfold crS
  rw [e, crashL_snoc, List.length_take, Nat.min_eq_left (by omega)]
  unfold crash1
  dsimp only
  split
  · rfl
  · split <;> rfl
theorem crS_vs {d : Dsk} {i k : Nat} (cs : List Int) (h : CrIdx d i k) : vsOf (crS d cs k) i = vsOf d i := by
  unfold vsOf crS
  dsimp only
  rw [look_of_drop h]
/-- What one block's turn is. -/
theorem crS_turn {d : Dsk} {i k : Nat} {l : List Tx} (cs : List Int) (h : CrIdx d i k) (hs : d.vs.Pairwise fun p q => p.1 < q.1) (hv : lookI d.vs (i : Int) = some l) (hi : i < d.ts.length) :
    (∀ j : Nat, j ≠ i → (lookI (crS d cs (k + 1)).bad (j : Int)).getD false = (lookI (crS d cs k).bad (j : Int)).getD false ∧ (crS d cs (k + 1)).ts[j]?.getD [] = (crS d cs k).ts[j]?.getD [] ∧ vsOf (crS d cs (k + 1)) j = vsOf (crS d cs k) j) ∧
    vsOf (crS d cs (k + 1)) i = [] ∧
    ((cs[k]?.getD 0 = 0 ∧ (lookI (crS d cs (k + 1)).bad (i : Int)) = (lookI (crS d cs k).bad (i : Int)) ∧ (crS d cs (k + 1)).ts = (crS d cs k).ts) ∨
     (0 < cs[k]?.getD 0 ∧ cs[k]?.getD 0 ≤ l.length ∧ lookI (crS d cs (k + 1)).bad (i : Int) = none ∧ (crS d cs (k + 1)).ts[i]?.getD [] = l[(cs[k]?.getD 0 - 1).toNat]?.getD []) ∨
     ((cs[k]?.getD 0 < 0 ∨ (l.length : Int) < cs[k]?.getD 0) ∧ lookI (crS d cs (k + 1)).bad (i : Int) = some true)) := by
  obtain ⟨hd, hk⟩ := crIdx_head h hs hv
  have hN := crIdx_next h hs hv
  have hlen : (crS d cs k).ts.length = d.ts.length := by unfold crS; exact (crashL_keep _ _ _).2.1
  have hvj : ∀ j : Nat, j ≠ i → vsOf (crS d cs (k + 1)) j = vsOf (crS d cs k) j := fun j hj => by
    unfold vsOf crS
    dsimp only
    rw [hd]
    unfold lookI
    rw [List.find?_cons]
    rw [show (((i : Int), l).1 == (j : Int)) = false from by simp; omega]
  have hvi : vsOf (crS d cs (k + 1)) i = [] := by
    unfold vsOf crS
    dsimp only
    have : lookI (d.vs.drop (k + 1)) (i : Int) = none := by
      unfold lookI
      rw [List.find?_eq_none.2 (fun p hp => by have := hN.2.2 p hp; simp; omega)]
      rfl
    rw [this]; rfl
  refine ⟨fun j hj => ⟨?_, ?_, hvj j hj⟩, hvi, ?_⟩
  · rw [crS_next cs h hs hv]
    unfold crash1
    dsimp only
    split
    · dsimp only; rw [lookI_delI, if_neg (by omega)]
    · split
      · rfl
      · dsimp only; rw [lookI_put, if_neg (by omega)]
  · rw [crS_next cs h hs hv]
    unfold crash1
    dsimp only
    split
    · dsimp only; rw [Int.toNat_natCast, List.getElem?_set_ne (by omega)]
    · split <;> rfl
  · rw [crS_next cs h hs hv]
    unfold crash1
    dsimp only
    by_cases h1 : 0 < cs[k]?.getD 0 ∧ cs[k]?.getD 0 ≤ l.length
    · right; left
      rw [if_pos h1]
      refine ⟨h1.1, h1.2, ?_, ?_⟩
      · dsimp only; rw [lookI_delI, if_pos rfl]
      · dsimp only; rw [Int.toNat_natCast, List.getElem?_set_self (by omega)]; rfl
    · rw [if_neg h1]
      by_cases h2 : cs[k]?.getD 0 = 0
      · left
        rw [if_pos h2]
        exact ⟨h2, rfl, rfl⟩
      · right; right
        rw [if_neg h2]
        refine ⟨by omega, ?_⟩
        dsimp only
        rw [lookI_put, if_pos rfl]
end Go.Proofs.Yteaenhmiomoocaa
