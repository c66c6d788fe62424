/- Layer 14 as plain lists: who owns which partition. No program in sight. -/
import Derived.WalkKit
namespace Go.Proofs.Ytbjjhnlifgbpmaa

/-- Of the partitions that are left what each member had. -/
def hadsL (D : List Int) : List (List Int) → List (List Int)
  | [] => []
  | f :: fs => D.filter (fun p => f.contains p) :: hadsL (D.filter fun p => !f.contains p) fs
def leftL (D : List Int) : List (List Int) → List Int
  | [] => D
  | f :: fs => leftL (D.filter fun p => !f.contains p) fs
theorem hadsL_len : ∀ (fs : List (List Int)) (D : List Int), (hadsL D fs).length = fs.length
  | [], _ => rfl
  | _ :: fs, D => by simp [hadsL, hadsL_len fs]
theorem hadsL_snoc : ∀ (fs : List (List Int)) (D : List Int) (f : List Int), hadsL D (fs ++ [f]) = hadsL D fs ++ [(leftL D fs).filter fun p => f.contains p]
  | [], D, f => by simp [hadsL, leftL]
  | g :: fs, D, f => by simp [hadsL, leftL, hadsL_snoc fs]
theorem leftL_snoc : ∀ (fs : List (List Int)) (D : List Int) (f : List Int), leftL D (fs ++ [f]) = (leftL D fs).filter fun p => !f.contains p
  | [], D, f => by simp [leftL]
  | g :: fs, D, f => by simp [leftL, leftL_snoc fs]

/-- All partitions. -/
def wholeL (parts : Nat) : List Int := (List.range parts).map Int.ofNat

def setsF (own : List Int) (i : Nat) (l : List Int) : List Int := l.foldl (fun o p => o.set p.toNat (i : Int)) own
theorem setsF_len (i : Nat) : ∀ (l : List Int) (own : List Int), (setsF own i l).length = own.length
  | [], _ => rfl
  | p :: l, own => by have := setsF_len i l (own.set p.toNat (i : Int)); simpa [setsF] using this
theorem setsF_snoc (own : List Int) (i : Nat) (l : List Int) (p : Int) : setsF own i (l ++ [p]) = (setsF own i l).set p.toNat (i : Int) := by simp [setsF, List.foldl_append]

/-- The first k members keep what they had, base at the most. -/
def keepTo (base : Nat) (hads : List (List Int)) (own : List Int) : Nat → List Int
  | 0 => own
  | k + 1 => setsF (keepTo base hads own k) k ((hads.getD k []).take base)
/-- One more for some of the first k members: how many, and who owns what then. -/
def moreTo (base rest : Nat) (hads : List (List Int)) (own : List Int) : Nat → Nat × List Int
  | 0 => (0, own)
  | k + 1 =>
    let s := moreTo base rest hads own k
    if base < (hads.getD k []).length ∧ s.1 < rest then (s.1 + 1, s.2.set ((hads.getD k []).getD base 0).toNat (k : Int)) else s
def cnt (own : List Int) (i : Nat) : Nat := own.countP fun o => o == (i : Int)
/-- The lowest one that nobody has. -/
def give (own : List Int) (i : Nat) : Option (List Int) := (own.findIdx? fun o => decide (o < 0)).map fun p => own.set p (i : Int)
def fill : Nat → List Int → Nat → Nat → List Int
  | 0, own, _, _ => own
  | m + 1, own, i, base => if cnt own i < base then (match give own i with | some o => fill m o i base | none => own) else own
def fillTo (base : Nat) (own : List Int) : Nat → List Int
  | 0 => own
  | k + 1 => fill (base + 1) (fillTo base own k) k base
def topTo (base : Nat) (own : List Int) : Nat → List Int
  | 0 => own
  | k + 1 => if cnt (topTo base own k) k = base then (give (topTo base own k) k).getD (topTo base own k) else topTo base own k

def own0 (parts : Nat) : List Int := List.replicate parts (-1)
/-- Who owns what: fs tells what each member had. -/
def own1 (parts n : Nat) (fs : List (List Int)) : List Int := keepTo (parts / n) (hadsL (wholeL parts) fs) (own0 parts) n
def own2 (parts n : Nat) (fs : List (List Int)) : List Int := (moreTo (parts / n) (parts % n) (hadsL (wholeL parts) fs) (own1 parts n fs) n).2
def own3 (parts n : Nat) (fs : List (List Int)) : List Int := fillTo (parts / n) (own2 parts n fs) n
def own4 (parts n : Nat) (fs : List (List Int)) : List Int := topTo (parts / n) (own3 parts n fs) n

/-- What a member owns, rising. -/
def ofL (own : List Int) (i : Nat) : List Int := ((List.range own.length).filter fun p => own.getD p (-1) == (i : Int)).map Int.ofNat
/-- What nobody owns, rising. -/
def freeL (own : List Int) : List Int := ((List.range own.length).filter fun p => decide (own.getD p (-1) < 0)).map Int.ofNat

theorem give_len {own o : List Int} {i : Nat} (h : give own i = some o) : o.length = own.length := by
  obtain ⟨p, _, rfl⟩ := Option.map_eq_some_iff.1 h
  simp
theorem fill_len (i base : Nat) : ∀ (m : Nat) (own : List Int), (fill m own i base).length = own.length
  | 0, _ => rfl
  | m + 1, own => by
    unfold fill
    split
    · split
      · rename_i o h; rw [fill_len i base m, give_len h]
      · rfl
    · rfl
theorem keepTo_len (base : Nat) (hads : List (List Int)) (own : List Int) : ∀ k, (keepTo base hads own k).length = own.length
  | 0 => rfl
  | k + 1 => by simp [keepTo, setsF_len, keepTo_len base hads own k]
theorem moreTo_len (base rest : Nat) (hads : List (List Int)) (own : List Int) : ∀ k, (moreTo base rest hads own k).2.length = own.length
  | 0 => rfl
  | k + 1 => by
    have := moreTo_len base rest hads own k
    simp only [moreTo]
    split <;> simp [this]
theorem fillTo_len (base : Nat) (own : List Int) : ∀ k, (fillTo base own k).length = own.length
  | 0 => rfl
  | k + 1 => by simp [fillTo, fill_len, fillTo_len base own k]
theorem topTo_len (base : Nat) (own : List Int) : ∀ k, (topTo base own k).length = own.length
  | 0 => rfl
  | k + 1 => by
    have h := topTo_len base own k
    simp only [topTo]
    split
    · cases hg : give (topTo base own k) k with
      | none => simpa using h
      | some o => simpa [give_len hg] using h
    · exact h

/-- A rising list is told by what is in it. -/
theorem rising_ext {l m : List Int} (hl : l.Pairwise (· < ·)) (hm : m.Pairwise (· < ·)) (h : ∀ x, x ∈ l ↔ x ∈ m) : l = m := by
  induction l generalizing m with
  | nil => cases m with
    | nil => rfl
    | cons y m => exact absurd ((h y).2 (List.mem_cons_self ..)) (by simp)
  | cons x l ih => cases m with
    | nil => exact absurd ((h x).1 (List.mem_cons_self ..)) (by simp)
    | cons y m =>
      obtain ⟨h1, h2⟩ := List.pairwise_cons.1 hl
      obtain ⟨h3, h4⟩ := List.pairwise_cons.1 hm
      have exy : x = y := by
        rcases List.mem_cons.1 ((h x).1 (List.mem_cons_self ..)) with e | e
        · exact e
        · rcases List.mem_cons.1 ((h y).2 (List.mem_cons_self ..)) with e' | e'
          · exact e'.symm
          · have := h3 x e; have := h1 y e'; omega
      subst exy
      rw [ih h2 h4 fun z => ?_]
      have := h z
      simp only [List.mem_cons] at this
      constructor
      · intro hz
        rcases this.1 (.inr hz) with e | e
        · subst e; have := h1 z hz; omega
        · exact e
      · intro hz
        rcases this.2 (.inr hz) with e | e
        · subst e; have := h3 z hz; omega
        · exact e
theorem ofNat_rising {l : List Nat} (h : l.Pairwise (· < ·)) : (l.map Int.ofNat).Pairwise (· < ·) :=
  List.pairwise_map.2 (h.imp fun h => Int.ofNat_lt.2 h)
theorem wholeL_rising (n : Nat) : (wholeL n).Pairwise (· < ·) := ofNat_rising List.pairwise_lt_range
theorem mem_wholeL {n : Nat} {x : Int} : x ∈ wholeL n ↔ 0 ≤ x ∧ x < n := by
  simp only [wholeL, List.mem_map, List.mem_range]
  constructor
  · rintro ⟨a, h, rfl⟩; simp only [Int.ofNat_eq_natCast]; omega
  · rintro ⟨h1, h2⟩; exact ⟨x.toNat, by omega, by simp only [Int.ofNat_eq_natCast]; omega⟩
theorem ofL_rising (own : List Int) (i : Nat) : (ofL own i).Pairwise (· < ·) := ofNat_rising (List.pairwise_lt_range.filter _)
theorem freeL_rising (own : List Int) : (freeL own).Pairwise (· < ·) := ofNat_rising (List.pairwise_lt_range.filter _)
theorem mem_ofL {own : List Int} {i : Nat} {x : Int} : x ∈ ofL own i ↔ 0 ≤ x ∧ x < own.length ∧ own.getD x.toNat (-1) = (i : Int) := by
  simp only [ofL, List.mem_map, List.mem_filter, List.mem_range, beq_iff_eq]
  constructor
  · rintro ⟨a, ⟨h, h'⟩, rfl⟩; simp only [Int.ofNat_eq_natCast, Int.toNat_natCast]; exact ⟨by omega, by omega, h'⟩
  · rintro ⟨h1, h2, h3⟩; exact ⟨x.toNat, ⟨by omega, h3⟩, by simp only [Int.ofNat_eq_natCast]; omega⟩
theorem mem_freeL {own : List Int} {x : Int} : x ∈ freeL own ↔ 0 ≤ x ∧ x < own.length ∧ own.getD x.toNat (-1) < 0 := by
  simp only [freeL, List.mem_map, List.mem_filter, List.mem_range, decide_eq_true_eq]
  constructor
  · rintro ⟨a, ⟨h, h'⟩, rfl⟩; simp only [Int.ofNat_eq_natCast, Int.toNat_natCast]; exact ⟨by omega, by omega, h'⟩
  · rintro ⟨h1, h2, h3⟩; exact ⟨x.toNat, ⟨by omega, h3⟩, by simp only [Int.ofNat_eq_natCast]; omega⟩
theorem getD_set {own : List Int} {p q : Nat} {v d : Int} (hp : p < own.length) : (own.set p v).getD q d = if q = p then v else own.getD q d := by
  simp only [List.getD_eq_getElem?_getD, List.getElem?_set]
  by_cases h : q = p
  · subst h; simp [hp]
  · rw [if_neg h, if_neg (Ne.symm h)]
/-- Somebody takes a free one. -/
theorem freeL_set {own : List Int} {p : Nat} (hp : p < own.length) (i : Nat) : freeL (own.set p (i : Int)) = (freeL own).filter fun x => x != (p : Int) := by
  refine rising_ext (freeL_rising _) ((freeL_rising _).filter _) fun x => ?_
  rw [List.mem_filter, mem_freeL, mem_freeL, List.length_set, getD_set hp]
  simp only [bne_iff_ne, ne_eq]
  by_cases h : x.toNat = p
  · rw [if_pos h]; constructor
    · rintro ⟨_, _, h3⟩; omega
    · rintro ⟨⟨h1, h2, h3⟩, h4⟩; exact absurd (show x = p by omega) h4
  · rw [if_neg h]; constructor
    · rintro ⟨h1, h2, h3⟩; exact ⟨⟨h1, h2, h3⟩, by intro e; exact h (by omega)⟩
    · rintro ⟨h1, _⟩; exact h1
theorem ofL_set_ne {own : List Int} {p : Nat} (hp : p < own.length) {i j : Nat} (hij : j ≠ i) (hj : own.getD p (-1) ≠ (j : Int)) : ofL (own.set p (i : Int)) j = ofL own j := by
  refine rising_ext (ofL_rising _ _) (ofL_rising _ _) fun x => ?_
  rw [mem_ofL, mem_ofL, List.length_set, getD_set hp]
  by_cases h : x.toNat = p
  · rw [if_pos h]; constructor
    · rintro ⟨_, _, h3⟩; omega
    · rintro ⟨h1, h2, h3⟩; rw [h] at h3; exact absurd h3 hj
  · rw [if_neg h]
theorem mem_ofL_set {own : List Int} {p : Nat} (hp : p < own.length) (i : Nat) (x : Int) : x ∈ ofL (own.set p (i : Int)) i ↔ x = (p : Int) ∨ x ∈ ofL own i := by
  rw [mem_ofL, mem_ofL, List.length_set, getD_set hp]
  by_cases h : x.toNat = p
  · rw [if_pos h]; constructor
    · rintro ⟨h1, h2, _⟩; exact .inl (by omega)
    · rintro (h1 | ⟨h1, h2, _⟩)
      · exact ⟨by omega, by omega, rfl⟩
      · exact ⟨h1, h2, rfl⟩
  · rw [if_neg h]; constructor
    · exact .inr
    · rintro (rfl | h1)
      · exact absurd (by simp) h
      · exact h1
theorem nodup_of_rising {l : List Int} (h : l.Pairwise (· < ·)) : l.Nodup := h.imp fun h => by omega
theorem ofL_set_perm {own : List Int} {p : Nat} (hp : p < own.length) (i : Nat) (hf : own.getD p (-1) < 0) {L : List Int} (hL : L.Perm (ofL own i)) : (L ++ [(p : Int)]).Perm (ofL (own.set p (i : Int)) i) := by
  have hnp : (p : Int) ∉ ofL own i := by
    rw [mem_ofL]; rintro ⟨_, _, h⟩; simp only [Int.toNat_natCast] at h; omega
  have hn : (ofL own i ++ [(p : Int)]).Nodup := by
    rw [List.nodup_append]
    exact ⟨nodup_of_rising (ofL_rising _ _), by simp, by rintro a ha b hb rfl; simp at hb; subst hb; exact hnp ha⟩
  refine (hL.append_right _).trans ((List.perm_ext_iff_of_nodup hn (nodup_of_rising (ofL_rising _ _))).2 fun x => ?_)
  rw [mem_ofL_set hp]
  simp [or_comm]
theorem ofL_len (own : List Int) (i : Nat) : (ofL own i).length = cnt own i := by
  unfold ofL cnt
  rw [List.length_map]
  have : own = (List.range own.length).map fun p => own.getD p (-1) := by
    apply List.ext_getElem (by simp)
    intro n h1 h2
    simp [List.getD_eq_getElem?_getD, h1]
  conv => rhs; rw [this]
  rw [List.countP_map, List.countP_eq_length_filter]
  rfl
end Go.Proofs.Ytbjjhnlifgbpmaa
