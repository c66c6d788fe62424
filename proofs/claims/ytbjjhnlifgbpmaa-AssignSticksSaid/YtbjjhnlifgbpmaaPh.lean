/- Sticky's five steps, each member by member. -/
import Derived.Test.YtbjjhnlifgbpmaaCn
import Derived.Test.YtbjjhnlifgbpmaaSa
import Derived.Test.YtbjjhnlifgbpmaaPl
namespace Go.Proofs.Ytbjjhnlifgbpmaa
open Go.RowKit Go.Shelf

/-- What each name had. -/
def fpsOf (fm : List (ByteArray × Rw3)) (S : List ByteArray) : List (List Int) := S.map fun s => (hadOf fm s).l
/-- Behind i members of step j. -/
def Ph (B : Nat) (E : Env) (parts : Nat) (S : List ByteArray) (fm : List (ByteArray × Rw3)) (j i : Nat) (w : World) : Prop :=
  match j with
  | 0 => StP w B E (parts / S.length) (parts % S.length) (wholeL parts) (leftL (wholeL parts) ((fpsOf fm S).take i)) (hadsL (wholeL parts) ((fpsOf fm S).take i) ++ List.replicate (S.length - i) []) (S.take i ++ List.replicate (S.length - i) ⟨#[]⟩) (List.replicate S.length [])
  | 1 => ∃ f os, RelO (keepTo (parts / S.length) (hadsL (wholeL parts) (fpsOf fm S)) (own0 parts) i) S.length f os ∧ StP w B E (parts / S.length) (parts % S.length) f (leftL (wholeL parts) (fpsOf fm S)) (hadsL (wholeL parts) (fpsOf fm S)) S os
  | 2 => ∃ f os, RelO (moreTo (parts / S.length) (parts % S.length) (hadsL (wholeL parts) (fpsOf fm S)) (own1 parts S.length (fpsOf fm S)) i).2 S.length f os ∧ StP w B E (parts / S.length) (parts % S.length - (moreTo (parts / S.length) (parts % S.length) (hadsL (wholeL parts) (fpsOf fm S)) (own1 parts S.length (fpsOf fm S)) i).1) f (leftL (wholeL parts) (fpsOf fm S)) (hadsL (wholeL parts) (fpsOf fm S)) S os
  | 3 => ∃ f os r, RelO (fillTo (parts / S.length) (own2 parts S.length (fpsOf fm S)) i) S.length f os ∧ StQ w B E (parts / S.length) r f (leftL (wholeL parts) (fpsOf fm S)) (hadsL (wholeL parts) (fpsOf fm S)) S os
  | _ => ∃ f os r, RelO (topTo (parts / S.length) (own3 parts S.length (fpsOf fm S)) i) S.length f os ∧ StQ w B E (parts / S.length) r f (leftL (wholeL parts) (fpsOf fm S)) (hadsL (wholeL parts) (fpsOf fm S)) S os

section
variable {w : World} {B : Nat} {E : Env} {parts nn : Nat} {S : List ByteArray} {fm : List (ByteArray × Rw3)}
theorem StP.bel {base rest : Nat} {f dl : List Int} {hl : List (List Int)} {ms : List ByteArray} {os : List (List Int)} (h : StP w B E base rest f dl hl ms os) {w' : World} (hb : Below w.heap.size w w') : StP w' B E base rest f dl hl ms os := by
  obtain ⟨free, dealt, hads, outs, ⟨hm, h1, h2, h3⟩, r⟩ := h
  exact ⟨free, dealt, hads, outs, ⟨hm.below hb, h1, h2, h3⟩, r⟩
theorem StQ.bel {base rest : Nat} {f dl : List Int} {hl : List (List Int)} {ms : List ByteArray} {os : List (List Int)} (h : StQ w B E base rest f dl hl ms os) {w' : World} (hb : Below w.heap.size w w') : StQ w' B E base rest f dl hl ms os := by
  obtain ⟨free, dealt, hads, outs, ⟨A, c, ⟨hm, h1, h2, h3⟩, hd⟩, r⟩ := h
  exact ⟨free, dealt, hads, outs, ⟨A, c, ⟨hm.below hb, h1, h2, h3⟩, hd.lat.below hb, hd.le, hd.bk⟩, r⟩
theorem ph_below {j i : Nat} (h : Ph B E parts S fm j i w) {w' : World} (hb : Below w.heap.size w w') : Ph B E parts S fm j i w' := by
  match j, h with
  | 0, h => exact StP.bel h hb
  | 1, ⟨f, os, h1, h2⟩ => exact ⟨f, os, h1, h2.bel hb⟩
  | 2, ⟨f, os, h1, h2⟩ => exact ⟨f, os, h1, h2.bel hb⟩
  | 3, ⟨f, os, r, h1, h2⟩ => exact ⟨f, os, r, h1, h2.bel hb⟩
  | _ + 4, ⟨f, os, r, h1, h2⟩ => exact ⟨f, os, r, h1, h2.bel hb⟩
theorem ph_start (h : StP w B E (parts / S.length) (parts % S.length) (wholeL parts) (wholeL parts) (List.replicate S.length []) (List.replicate S.length ⟨#[]⟩) (List.replicate S.length [])) : Ph B E parts S fm 0 0 w := by
  simpa [Ph, hadsL, leftL] using h
theorem ph_step0 (hE : E.n = S.length) (hp : parts ≤ 32) (hL : LowS w B E S nn fm) (hf : ∀ s ∈ S, (hadOf fm s).l.length * 8 ≤ 140737488351232) {i : Nat} (hi : i < S.length) (h : Ph B E parts S fm 0 i w) :
    Calls Try.prog 29 #[.int .i64 (i : Nat), ptr E.bl, ptr E.bo, ptr E.bm, ptr E.bd, ptr E.bh] w fun e w' => e = .returned (.tuple #[]) ∧ Ph B E parts S fm 0 (i + 1) w' ∧ Below B w w' := by
  have h' : StP w B E (parts / S.length) (parts % S.length) (wholeL parts) (leftL (wholeL parts) ((fpsOf fm S).take i)) (hadsL (wholeL parts) ((fpsOf fm S).take i) ++ List.replicate (S.length - i) []) (S.take i ++ List.replicate (S.length - i) ⟨#[]⟩) (List.replicate S.length []) := h
  have hfl : (fpsOf fm S).length = S.length := by simp [fpsOf]
  have hSi : S.getD i default = S[i] := getD_get _ _ hi
  have hhl : (hadsL (wholeL parts) ((fpsOf fm S).take i)).length = i := by rw [hadsL_len, List.length_take]; omega
  have hrep : ∀ (α : Type) (x : α), List.replicate (S.length - i) x = x :: List.replicate (S.length - (i + 1)) x := fun α x => by
    rw [show S.length - i = (S.length - (i + 1)) + 1 from by omega, List.replicate_succ]
  have hleft : (leftL (wholeL parts) ((fpsOf fm S).take i)).Pairwise (· < ·) ∧ (leftL (wholeL parts) ((fpsOf fm S).take i)).length ≤ 32 := by
    have key : ∀ (fs : List (List Int)) (D : List Int), D.Pairwise (· < ·) → (leftL D fs).Pairwise (· < ·) ∧ (leftL D fs).length ≤ D.length := by
      intro fs
      induction fs with
      | nil => intro D hD; exact ⟨hD, Nat.le_refl _⟩
      | cons f fs ih => intro D hD; obtain ⟨h1, h2⟩ := ih _ (hD.filter _); exact ⟨h1, Nat.le_trans h2 (List.length_filter_le ..)⟩
    obtain ⟨h1, h2⟩ := key ((fpsOf fm S).take i) (wholeL parts) (wholeL_rising parts)
    exact ⟨h1, by rw [wholeL_len] at h2; omega⟩
  refine (step1_any w B E _ _ _ _ _ _ _ h' S nn fm hL hE.symm i (by omega) ?_ hleft.1 hleft.2 (by rw [hSi]; exact hf _ (List.getElem_mem _))).mono ?_
  · rw [List.getD_eq_getElem?_getD, List.getElem?_append_right (by omega), hhl, Nat.sub_self, hrep]
    rfl
  · rintro e w' ⟨rfl, hS', hb⟩
    refine ⟨rfl, ?_, hb⟩
    have hti : (fpsOf fm S).take (i + 1) = (fpsOf fm S).take i ++ [(hadOf fm S[i]).l] := by
      rw [List.take_succ_eq_append_getElem (by omega)]; simp [fpsOf]
    rw [hSi] at hS'
    have e1 : (hadsL (wholeL parts) ((fpsOf fm S).take i) ++ List.replicate (S.length - i) []).set i ((leftL (wholeL parts) ((fpsOf fm S).take i)).filter fun x => (hadOf fm S[i]).l.contains x) = hadsL (wholeL parts) ((fpsOf fm S).take (i + 1)) ++ List.replicate (S.length - (i + 1)) [] := by
      rw [hti, hadsL_snoc, hrep, List.set_append, if_neg (by omega), hhl, Nat.sub_self, List.set_cons_zero, List.append_assoc, List.singleton_append]
    have e2 : (S.take i ++ List.replicate (S.length - i) (⟨#[]⟩ : ByteArray)).set i S[i] = S.take (i + 1) ++ List.replicate (S.length - (i + 1)) ⟨#[]⟩ := by
      have hl : (S.take i).length = i := by rw [List.length_take]; omega
      rw [hrep, List.set_append, if_neg (by omega), hl, Nat.sub_self, List.set_cons_zero, List.take_succ_eq_append_getElem hi, List.append_assoc, List.singleton_append]
    have e3 : (leftL (wholeL parts) ((fpsOf fm S).take i)).filter (fun x => !(hadOf fm S[i]).l.contains x) = leftL (wholeL parts) ((fpsOf fm S).take (i + 1)) := by rw [hti, leftL_snoc]
    rw [e1, e2, e3] at hS'
    exact hS'
theorem own_len (parts n : Nat) (fs : List (List Int)) (k : Nat) : (keepTo (parts / n) (hadsL (wholeL parts) fs) (own0 parts) k).length = parts ∧ (moreTo (parts / n) (parts % n) (hadsL (wholeL parts) fs) (own1 parts n fs) k).2.length = parts ∧ (fillTo (parts / n) (own2 parts n fs) k).length = parts ∧ (topTo (parts / n) (own3 parts n fs) k).length = parts := by
  refine ⟨?_, ?_, ?_, ?_⟩ <;> simp [keepTo_len, moreTo_len, fillTo_len, topTo_len, own0, own1, own2, own3]
theorem hads_len : ∀ (fs : List (List Int)) (D : List Int) (i : Nat), ((hadsL D fs).getD i []).length ≤ D.length
  | [], D, i => by simp [hadsL]
  | f :: fs, D, 0 => by simpa [hadsL] using List.length_filter_le ..
  | f :: fs, D, i + 1 => by
    have := hads_len fs (D.filter fun p => !f.contains p) i
    simp only [hadsL, List.getD_cons_succ]
    exact Nat.le_trans this (List.length_filter_le ..)
theorem RelO.small {own : List Int} {n : Nat} {f : List Int} {os : List (List Int)} (h : RelO own n f os) {m : Nat} (hl : own.length = m) (hm : m ≤ 32) : f.length ≤ 32 ∧ ∀ i, i < n → (os.getD i []).length ≤ 32 := by
  refine ⟨by rw [h.1]; exact Nat.le_trans (freeL_len_le own) (by omega), fun i hi => ?_⟩
  rw [(h.2.2 i hi).length_eq]
  exact Nat.le_trans (ofL_len_le own i) (by omega)
theorem ph_step1 (hE : E.n = S.length) (hp : parts ≤ 32) {i : Nat} (hi : i < S.length) (h : Ph B E parts S fm 1 i w) :
    Calls Try.prog 32 #[.int .i64 (i : Nat), ptr E.bb, ptr E.bh, ptr E.bk] w fun e w' => e = .returned (.tuple #[]) ∧ Ph B E parts S fm 1 (i + 1) w' ∧ Below B w w' := by
  obtain ⟨f, os, hR, hS⟩ := h
  obtain ⟨h1, h2⟩ := hR.small (own_len parts S.length (fpsOf fm S) i).1 hp
  have hLl : ((hadsL (wholeL parts) (fpsOf fm S)).getD i []).length ≤ 32 := Nat.le_trans (hads_len _ _ _) (by rw [wholeL_len]; exact hp)
  refine (step2_any w B E _ _ f _ _ S os hS i (by omega) h1 (by have := h2 i hi; omega) (Nat.le_trans (Nat.div_le_self _ _) hp) hLl).mono ?_
  rintro e w' ⟨rfl, hS', hb⟩
  refine ⟨rfl, ⟨_, _, ?_, hS'⟩, hb⟩
  have hk := hR.takes hi (((hadsL (wholeL parts) (fpsOf fm S)).getD i []).take (parts / S.length)) (fun p hp' => by
    have := hads_in (List.mem_of_mem_take hp')
    rw [(own_len parts S.length (fpsOf fm S) i).1]
    omega) (fun k p hkp => by
      obtain ⟨hlt, e⟩ := List.getElem?_eq_some_iff.1 hkp
      rw [List.length_take] at hlt
      rw [List.take_take, Nat.min_eq_left (by omega)]
      refine keep_free (base := parts / S.length) (by omega) ?_
      rw [List.getElem?_take_of_lt (by omega)] at hkp
      exact hkp) _ (Nat.le_refl _)
  rw [List.take_length] at hk
  exact hk
theorem ph_step2 (hE : E.n = S.length) (hp : parts ≤ 32) {i : Nat} (hi : i < S.length) (h : Ph B E parts S fm 2 i w) :
    Calls Try.prog 33 #[.int .i64 (i : Nat), ptr E.bh, ptr E.bb, ptr E.br, ptr E.bk] w fun e w' => e = .returned (.tuple #[]) ∧ Ph B E parts S fm 2 (i + 1) w' ∧ Below B w w' := by
  obtain ⟨f, os, hR, hS⟩ := h
  obtain ⟨h1, h2⟩ := hR.small (own_len parts S.length (fpsOf fm S) i).2.1 hp
  have hn0 : 0 < S.length := by omega
  have hmod : parts % S.length ≤ 32 := Nat.le_trans (Nat.mod_le _ _) hp
  obtain ⟨s, hs⟩ : ∃ s, moreTo (parts / S.length) (parts % S.length) (hadsL (wholeL parts) (fpsOf fm S)) (own1 parts S.length (fpsOf fm S)) i = s := ⟨_, rfl⟩
  have hstep : moreTo (parts / S.length) (parts % S.length) (hadsL (wholeL parts) (fpsOf fm S)) (own1 parts S.length (fpsOf fm S)) (i + 1) =
      if parts / S.length < ((hadsL (wholeL parts) (fpsOf fm S)).getD i []).length ∧ s.1 < parts % S.length then (s.1 + 1, s.2.set (((hadsL (wholeL parts) (fpsOf fm S)).getD i []).getD (parts / S.length) 0).toNat (i : Int)) else s := by
    rw [← hs]; rfl
  rw [hs] at hS hR
  by_cases hc : parts / S.length < ((hadsL (wholeL parts) (fpsOf fm S)).getD i []).length ∧ s.1 < parts % S.length
  · obtain ⟨r, hr⟩ : ∃ r, parts % S.length - s.1 = r + 1 := ⟨parts % S.length - s.1 - 1, by omega⟩
    have hp' := List.getElem?_eq_getElem hc.1
    rw [hr] at hS
    have hin := hads_in (List.getElem_mem hc.1)
    refine (step3_yes w B E _ r f _ _ S os hS i (by omega) h1 (by have := h2 i hi; omega) (by omega) _ hp').mono ?_
    rintro e w' ⟨rfl, hS', hb⟩
    refine ⟨rfl, ⟨f.erase ((hadsL (wholeL parts) (fpsOf fm S)).getD i [])[parts / S.length], os.set i (os.getD i [] ++ [((hadsL (wholeL parts) (fpsOf fm S)).getD i [])[parts / S.length]]), ?_, ?_⟩, hb⟩
    · have hsl : s.2.length = parts := by rw [← hs]; exact (own_len parts S.length (fpsOf fm S) i).2.1
      rw [hstep, if_pos hc, getD_get _ _ hc.1]
      refine hR.take hi hin.1 (by rw [hsl]; omega) ?_
      have key := more_free (parts := parts) (base := parts / S.length) (rest := parts % S.length) (fs := fpsOf fm S) (n := S.length) hi hp'
      have hs2 := congrArg (fun z => z.2.getD (((hadsL (wholeL parts) (fpsOf fm S)).getD i [])[parts / S.length]'hc.1).toNat (-1)) hs
      exact Int.lt_of_le_of_lt (Int.le_of_eq hs2.symm) key
    · rw [hstep, if_pos hc, show parts % S.length - (s.1 + 1) = r from by omega]
      exact hS'
  · refine (step3_no w B E _ _ f _ _ S os hS i (by omega) (by omega)).mono ?_
    rintro e w' ⟨rfl, hS', hb⟩
    refine ⟨rfl, ⟨f, os, ?_, ?_⟩, hb⟩
    · rw [hstep, if_neg hc]; exact hR
    · rw [hstep, if_neg hc]; exact hS'
theorem ph_step3 (hE : E.n = S.length) (hp : parts ≤ 32) {i : Nat} (hi : i < S.length) (h : Ph B E parts S fm 3 i w) :
    Calls Try.prog 34 #[.int .i64 (i : Nat), ptr E.bo, ptr E.bb, ptr E.bg] w fun e w' => e = .returned (.tuple #[]) ∧ Ph B E parts S fm 3 (i + 1) w' ∧ Below B w w' := by
  obtain ⟨f, os, r, hR, hS⟩ := h
  obtain ⟨h1, h2⟩ := hR.small (own_len parts S.length (fpsOf fm S) i).2.2.1 hp
  refine (step4_any w B E _ r f _ _ S os hS i (by omega) h1 (by have := h2 i hi; omega) (Nat.le_trans (Nat.div_le_self _ _) hp)).mono ?_
  rintro e w' ⟨rfl, hS', hb⟩
  exact ⟨rfl, ⟨_, _, r, RelO.fills hi (parts / S.length) (parts / S.length + 1) _ _ _ hR (Nat.lt_succ_of_le (Nat.sub_le _ _)), hS'⟩, hb⟩
theorem ph_step4 (hE : E.n = S.length) (hp : parts ≤ 32) {i : Nat} (hi : i < S.length) (h : Ph B E parts S fm 4 i w) :
    Calls Try.prog 35 #[.int .i64 (i : Nat), ptr E.bo, ptr E.bb, ptr E.bg] w fun e w' => e = .returned (.tuple #[]) ∧ Ph B E parts S fm 4 (i + 1) w' ∧ Below B w w' := by
  obtain ⟨f, os, r, hR, hS⟩ := h
  obtain ⟨h1, h2⟩ := hR.small (own_len parts S.length (fpsOf fm S) i).2.2.2 hp
  refine (step5_any w B E _ r f _ _ S os hS i (by omega) h1 (by have := h2 i hi; omega) (Nat.le_trans (Nat.div_le_self _ _) hp)).mono ?_
  rintro e w' ⟨rfl, hS', hb⟩
  exact ⟨rfl, ⟨_, _, r, RelO.top hi _ hR, hS'⟩, hb⟩
theorem rel0 (parts n : Nat) : RelO (own0 parts) n (wholeL parts) (List.replicate n []) := by
  refine ⟨?_, by simp, fun j hj => ?_⟩
  · refine rising_ext (wholeL_rising _) (freeL_rising _) fun x => ?_
    rw [mem_wholeL, mem_freeL]
    have := own0_get parts x.toNat
    simp only [own0, List.length_replicate] at this ⊢
    constructor
    · rintro ⟨h1, h2⟩; exact ⟨h1, h2, by omega⟩
    · rintro ⟨h1, h2, _⟩; exact ⟨h1, h2⟩
  · have e : ofL (own0 parts) j = [] := by
      rw [List.eq_nil_iff_forall_not_mem]
      intro x hx
      obtain ⟨_, _, h3⟩ := mem_ofL.1 hx
      have := own0_get parts x.toNat
      omega
    rw [e, getD_get _ _ (by simpa using hj)]
    simp
theorem ph_next (hE : E.n = S.length) {j : Nat} (hj : j < 4) (h : Ph B E parts S fm j S.length w) : Ph B E parts S fm (j + 1) 0 w := by
  match j, hj, h with
  | 0, _, h =>
    refine ⟨_, _, rel0 parts S.length, ?_⟩
    have h' : StP w B E (parts / S.length) (parts % S.length) (wholeL parts) (leftL (wholeL parts) ((fpsOf fm S).take S.length)) (hadsL (wholeL parts) ((fpsOf fm S).take S.length) ++ List.replicate (S.length - S.length) []) (S.take S.length ++ List.replicate (S.length - S.length) ⟨#[]⟩) (List.replicate S.length []) := h
    have hfl : (fpsOf fm S).length = S.length := by simp [fpsOf]
    rw [Nat.sub_self, List.replicate_zero, List.replicate_zero, List.append_nil, List.append_nil, List.take_length, ← hfl, List.take_length, hfl] at h'
    exact h'
  | 1, _, ⟨f, os, h1, h2⟩ => exact ⟨f, os, h1, h2⟩
  | 2, _, ⟨f, os, h1, h2⟩ => exact ⟨f, os, _, h1, h2.q⟩
  | 3, _, ⟨f, os, r, h1, h2⟩ => exact ⟨f, os, r, h1, h2⟩
theorem ph_end (h : Ph B E parts S fm 4 S.length w) : ∃ free dealt hads outs rest fv, Mem w B (E.fx (parts / S.length : Nat) rest fv (Rw3.v dealt) hads outs) (rsOf free dealt hads outs) ∧ hads.length = S.length ∧ outs.map Ou.m = S ∧ ∀ j, j < S.length → (outs.getD j default).r.l.Perm (ofL (own4 parts S.length (fpsOf fm S)) j) := by
  obtain ⟨f, os, r, hR, free, dealt, hads, outs, ⟨A, c, ⟨hm, h1, h2, h3⟩, hd⟩, e1, e2, e3, e4⟩ := h
  have hol : outs.length = S.length := by rw [← e3]; simp
  refine ⟨free, dealt, hads, outs, _, _, hm, by omega, e3, fun j hj => ?_⟩
  have := hR.2.2 j hj
  rw [← e4, map_getD (fun o : Ou => o.r.l) outs j (by omega)] at this
  exact this
end
end Go.Proofs.Ytbjjhnlifgbpmaa
