/- slices.SortFunc at rows of pairs, by their keys. -/
import Derived.Test.YtjokpjfmnjefdaaSa
import Derived.Test.YtjokpjfmnjefdaaSh
import Derived.Shelf.SlSortCmp.NoneTotal
namespace Go.Proofs.Ytjokpjfmnjefdaa
open Go.RowKit Go.Shelf Go.Sort

def kcf (x y : Pr) : Int := cmpS x.key y.key
theorem lt_kcf (x y : Pr) : ltOf kcf x y = sb x.key y.key := by
  unfold ltOf kcf cmpS
  cases h : sb x.key y.key with
  | true => simp
  | false =>
    by_cases e : x.key = y.key <;> simp [e]
theorem sb_asymm {a b : ByteArray} (h : sb a b = true) : sb b a = false := by
  cases e : sb b a with
  | false => rfl
  | true => have := sb_trans h e; rw [sb_irrefl] at this; cases this
theorem swo_key : SWO (ltOf kcf) where
  irrefl x := by rw [lt_kcf]; exact sb_irrefl _
  trans x y z h1 h2 := by rw [lt_kcf] at *; exact sb_trans h1 h2
  ntrans x y z h1 h2 := by
    rw [lt_kcf] at *
    cases h : sb x.key z.key with
    | false => rfl
    | true =>
      by_cases e : x.key = y.key
      · rw [e, h2] at h; cases h
      · rcases sb_total e with h3 | h3
        · rw [h1] at h3; cases h3
        · have := sb_trans h3 h; rw [h2] at this; cases this

theorem grown_sortK {α : Type} [Inhabited α] (enc : α → List Value) (k : Nat) (w : World) (blk off n : Nat) (d : Array α) (os : Array Obj) : w.grownBy (sortWorldK enc k w blk off n d os) (some blk) := by
  refine ⟨rfl, rfl, rfl, ?_, fun i hi hne => ?_⟩
  · simp [sortWorldK, grow, putRowK, putRow, mapBlock, Sort.ahead]
  · have hne' : blk ≠ i := fun e => hne (by rw [e])
    simp only [sortWorldK, grow, putRowK, putRow, mapBlock, Sort.ahead]
    rw [Array.getElem?_append_left (by simpa using hi), Array.getElem?_modify, if_neg hne']

theorem flatK_get {α : Type} [Inhabited α] {enc : α → List Value} {k : Nat} (hk : ∀ x, (enc x).length = k) (d : Array α) (i : Nat) (hi : i < d.size) (j : Nat) (u : Value) (hu : (enc d[i])[j]? = some u) : i * k + j < d.size * k ∧ (flatK enc k d)[i * k + j]! = u := by
  have hj : j < k := by rw [← hk d[i]]; exact (List.getElem?_eq_some_iff.1 hu).1
  have hlt : i * k + j < d.size * k := by
    have : (i + 1) * k ≤ d.size * k := Nat.mul_le_mul_right k hi
    rw [Nat.succ_mul] at this; omega
  refine ⟨hlt, ?_⟩
  rw [get_flatK _ _ _ _ hlt]
  have h1 : (i * k + j) / k = i := by rw [Nat.mul_comm, Nat.mul_add_div (by omega), Nat.div_eq_of_lt hj]; omega
  have h2 : (i * k + j) % k = j := by rw [Nat.mul_comm, Nat.mul_add_mod, Nat.mod_eq_of_lt hj]
  rw [h1, h2, getElem!_pos d i hi]
  rw [List.getElem!_eq_getElem?_getD, hu]; rfl

theorem LAt.holdsK {w : World} {g : Nat} {l : List Pr} (h : LAt w (some ⟨g, 0, none⟩) 3 prL l) (hu : ∀ j, w.frozen? ⟨g, j, none⟩ = false) : HoldsK prL 3 w g 0 l.toArray := by
  intro j hj
  have hj' : j < l.length * 3 := by simpa using hj
  refine ⟨?_, hu _⟩
  have hd : j / 3 < l.length := by omega
  obtain ⟨b, o, e, _, hc⟩ := h (j / 3) hd
  cases e
  obtain ⟨v, hv⟩ : ∃ v, (prL l[j / 3])[j % 3]? = some v := by
    have h3 : j % 3 < (prL l[j / 3]).length := by rw [prL_len]; omega
    exact ⟨_, List.getElem?_eq_getElem h3⟩
  have h1 := hc _ _ hv
  have h2 := (flatK_get prL_len l.toArray (j / 3) (by simpa using hd) (j % 3) v (by simpa using hv)).2
  have he : j / 3 * 3 + j % 3 = j := by omega
  rw [he] at h2
  rw [h2]
  rw [show (0 : Nat) + j = 0 + j / 3 * 3 + j % 3 by omega]
  exact h1
theorem LAt.of_holdsK {w : World} {g : Nat} {d : Array Pr} (h : HoldsK prL 3 w g 0 d) (hg : g < w.heap.size) : LAt w (some ⟨g, 0, none⟩) 3 prL d.toList := by
  intro i hi
  have hi' : i < d.size := by simpa using hi
  refine ⟨g, 0, rfl, hg, fun j u hu => ?_⟩
  obtain ⟨h1, h2⟩ := flatK_get prL_len d i hi' j u (by simpa using hu)
  have h3 := (h (i * 3 + j) (by simpa using h1)).1
  rw [h2] at h3
  rw [Nat.add_assoc]
  exact h3

theorem sort_any (A : Option Addr) (c base : Nat) (l : List Pr) (w : World) (hown : w.ownsRow base 56 3 (.slice A l.length c) l.length (l.flatMap prL)) (hnd : (l.map (·.key)).Nodup) (hll : l.length < 4611686018427387904) :
    Calls Try.prog 53 #[.slice A l.length c, .func (.func 54) #[] #[]] w fun e w' => e = .returned (.tuple #[]) ∧ (∃ sl : List Pr, sl.Perm l ∧ (sl.Pairwise fun x y => sb x.key y.key = true) ∧ LAt w' A 3 prL sl ∧ (∀ a, A = some a → ∀ j, j < sl.length * 3 → w'.frozen? ⟨a.block, a.off + j, none⟩ = false)) ∧ w.grownBy w' (Value.slice A l.length c).ownBlock := by
  cases l with
  | nil =>
    have h := AnyF.slices_SortFunc_none (P := Try.prog) (ρ := Try.sortF_ren) Try.sortF A c (.func (.func 54) #[] #[]) w
    refine h.mono ?_
    rintro e w' ⟨rfl, rfl⟩
    exact ⟨rfl, ⟨[], List.Perm.refl _, List.Pairwise.nil, LAt.nil, fun _ _ j hj => absurd hj (by simp)⟩, World.grownBy.refl _ _⟩
  | cons x r =>
    obtain ⟨A2, c2, e2, htl⟩ := ownsRow_tells hown
    cases e2
    obtain ⟨g, rfl, _, hlt, _⟩ := htl (by simp)
    have hL := LAt.of_own prL_len hown rfl
    have hH := hL.holdsK (ownsRow_unf hown)
    generalize hl : x :: r = l at *
    have hcmp : CmpLays Try.prog 54 #[] prL 3 kcf g 0 l.toArray.size w := fun m os dk hs x y => (closure_any x y _).mono fun e w' ⟨he, o1, o2, hw⟩ => ⟨he, 0, #[o1, o2], by rw [hw, alloc_eq_grow, alloc_eq_grow, grow_grow]; rfl⟩
    have h := AnyQ.slices_SortFunc (P := Try.prog) (ρ := Try.sortF_ren) Try.sortF 3 Try.isAgg56 Try.sizeOf56 prL prL_len prL_one kcf swo_key 54 #[] g 0 c l.toArray w (enters_of Try.func54 (by kernel_rfl) rfl) hcmp hH hlt (by simpa using hll)
    rw [List.size_toArray] at h
    refine h.mono ?_
    rintro e w' ⟨rfl, d', n, os, hp, hs, rfl⟩
    have hHK : HoldsK prL 3 (sortWorldK prL 3 w g 0 n d' os) g 0 d' := by
      refine holdsK_grow _ _ _ _ _ _ _ ?_ ?_
      · simp [putRowK, putRow, mapBlock, Sort.ahead]; exact hlt
      · exact holdsK_putRowK _ _ _ _ _ _ _ (holdsK_ahead _ _ _ _ _ _ _ hH) (by simpa using hp.1)
    refine ⟨rfl, ⟨d'.toList, ?_, ?_, ?_, ?_⟩, grown_sortK _ _ _ _ _ _ _ _⟩
    · obtain ⟨hsz, _, hperm⟩ := hp
      simp only [List.size_toArray] at hsz hperm
      have e1 : d'.extract 0 l.length = d' := by rw [← hsz]; exact Array.extract_size
      have e2 : l.toArray.extract 0 l.length = l.toArray := by rw [show l.length = l.toArray.size by simp]; exact Array.extract_size
      rw [e1, e2] at hperm
      exact hperm
    · obtain ⟨hsz, _, hperm⟩ := hp
      simp only [List.size_toArray] at hsz hperm
      have e1 : d'.extract 0 l.length = d' := by rw [← hsz]; exact Array.extract_size
      have e2 : l.toArray.extract 0 l.length = l.toArray := by rw [show l.length = l.toArray.size by simp]; exact Array.extract_size
      rw [e1, e2] at hperm
      have hnd' : (d'.toList.map (·.key)).Nodup := (hperm.map (·.key)).nodup_iff.2 (by simpa using hnd)
      rw [List.pairwise_iff_getElem]
      intro i j hi hj hij
      have h1 := hs i j (Nat.zero_le _) hij (by simp at hj; omega)
      rw [getElem!_pos d' j (by simpa using hj), getElem!_pos d' i (by simpa using hi), lt_kcf] at h1
      have hne : d'[i].key ≠ d'[j].key := by
        intro e
        have := (List.pairwise_iff_getElem.1 hnd') i j (by simpa using hi) (by simpa using hj) hij
        simp at this
        exact this e
      simp only [Array.getElem_toList]
      rcases sb_total hne with h2 | h2
      · exact h2
      · rw [h1] at h2; cases h2
    · refine LAt.of_holdsK hHK ?_
      have := (grown_sortK prL 3 w g 0 n d' os).size
      omega
    · intro a ea j hj
      cases ea
      exact (hHK j (by simpa using hj)).2
end Go.Proofs.Ytjokpjfmnjefdaa
