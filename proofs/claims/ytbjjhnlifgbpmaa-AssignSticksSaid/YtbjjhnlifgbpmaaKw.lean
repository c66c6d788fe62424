/- knows (12): what must come. -/
import Derived.Test.YtbjjhnlifgbpmaaSk
import Derived.Test.YtbjjhnlifgbpmaaFm
import Derived.Test.YtbjjhnlifgbpmaaSe
import Derived.Test.YtbjjhnlifgbpmaaSq
namespace Go.Proofs.Ytbjjhnlifgbpmaa
open Go.RowKit Go.Shelf
attribute [local go_sem] Oper.semAt_some

theorem LAt.of_blk {α : Type} {k : Nat} {enc : α → List Value} (hk : ∀ x, (enc x).length = k) {w : World} {b : Nat} {l : List α} (h : Blk w b (l.flatMap enc)) : LAt w (some ⟨b, 0, none⟩) k enc l := fun i hi =>
  ⟨b, 0, rfl, h.lt, fun j u hu => by
    rw [Nat.zero_add]
    exact h.get ((flat_get hk l i hi j (by rw [← hk l[i]]; exact (List.getElem?_eq_some_iff.1 hu).1)).trans hu)⟩

abbrev sA : ByteArray := ⟨#[97]⟩
abbrev sB : ByteArray := ⟨#[98]⟩
abbrev sC : ByteArray := ⟨#[99]⟩
theorem sort_ba : sortS [sB, sA] = [sA, sB] := sortS_of (List.Perm.swap ..) (by simp [show sb sB sA = false from by decide +kernel])
theorem sort_bc : sortS [sB, sC] = [sB, sC] := sortS_of (List.Perm.refl _) (by simp [show sb sC sB = false from by decide +kernel])
theorem ok_ab : okN [sA, sB] ((3 : Nat) : Int) = true := by decide +kernel
theorem ok_bc : okN [sB, sC] ((3 : Nat) : Int) = true := by decide +kernel
theorem own4_bc0 : ofL (own4 3 2 [[2], []]) 0 = [1, 2] := by decide +kernel
theorem own4_bc1 : ofL (own4 3 2 [[2], []]) 1 = [0] := by decide +kernel
theorem range_ab0 : rangeL 3 2 0 = [0, 1] := by decide +kernel
theorem range_ab1 : rangeL 3 2 1 = [2] := by decide +kernel
/-- Two shares: told by names and lists. -/
theorem two_of {os : List Ou} {a b : ByteArray} {l m : List Int} (hm : os.map Ou.m = [a, b]) (h0 : (os.getD 0 default).r.l = l) (h1 : (os.getD 1 default).r.l = m) : ∃ r s : Rw3, os = [⟨a, r⟩, ⟨b, s⟩] ∧ r.l = l ∧ s.l = m := by
  match os, hm with
  | [⟨x, r⟩, ⟨y, s⟩], h =>
    simp only [List.map_cons, List.map_nil, List.cons.injEq, and_true] at h
    obtain ⟨rfl, rfl⟩ := h
    exact ⟨r, s, rfl, h0, h1⟩
theorem fps_bc (r s : Rw3) (hs : s.l = [2]) : fpsOf (fmL [⟨sA, r⟩, ⟨sB, s⟩] (bk 2)) [sB, sC] = [[2], []] := by
  have h1 := look_first [⟨sA, r⟩, ⟨sB, s⟩] sB
  have h2 := look_first [⟨sA, r⟩, ⟨sB, s⟩] sC
  simp only [List.length_cons, List.length_nil, Nat.zero_add, Nat.reduceAdd] at h1 h2
  rw [show (List.find? (fun x => decide (x.m = sB)) [(⟨sA, r⟩ : Ou), ⟨sB, s⟩]) = some ⟨sB, s⟩ from by simp [List.find?, show ¬ sA = sB from by decide]] at h1
  rw [show (List.find? (fun x => decide (x.m = sC)) [(⟨sA, r⟩ : Ou), ⟨sB, s⟩]) = none from by simp [List.find?, show ¬ sA = sC from by decide, show ¬ sB = sC from by decide]] at h2
  simp only [fpsOf, List.map_cons, List.map_nil, hadOf, h1, h2]
  simp [hs, noRow]
theorem Mem.sh {w : World} {B O : Nat} {outs : List Ou} (h : Mem w B [(O, outs.flatMap ouL)] (outs.map (·.r))) : ShAt w (some ⟨O, 0, none⟩) outs :=
  ⟨LAt.of_blk ouL_len (h.blk 0 _ _ rfl), fun o ho => by
    obtain ⟨i, hi, rfl⟩ := List.getElem_of_mem ho
    exact LAt.of_own encI_len (h.row i outs[i].r (by simp [hi])) rfl⟩
theorem sh_made (w : World) (a b : ByteArray) (l m : List Int) (cl cm : Array Value) (hl : cl.toList = l.flatMap encI) (hm : cm.toList = m.flatMap encI) :
    ShAt (((w.alloc (.cells cl 3)).alloc (.cells cm 3)).alloc (.cells #[.string a, .slice (some ⟨w.heap.size, 0, none⟩) l.length l.length, .string b, .slice (some ⟨w.heap.size + 1, 0, none⟩) m.length m.length] 49)) (some ⟨w.heap.size + 1 + 1, 0, none⟩)
      [⟨a, ⟨some ⟨w.heap.size, 0, none⟩, l.length, l⟩⟩, ⟨b, ⟨some ⟨w.heap.size + 1, 0, none⟩, m.length, m⟩⟩] := by
  refine ⟨LAt.of_blk ouL_len (Blk.new' _ _ (by simp)), fun o ho => ?_⟩
  simp only [List.mem_cons, List.not_mem_nil, or_false] at ho
  rcases ho with rfl | rfl
  · exact LAt.of_blk encI_len (blk_eq (((Blk.new' cl _ rfl).alloc _).alloc _) hl)
  · exact LAt.of_blk encI_len (blk_eq ((Blk.new' cm _ (by simp)).alloc _) hm)

set_option maxRecDepth 100000 in
set_option maxHeartbeats 4000000 in
theorem knows_any (w : World) : Calls Try.prog 12 #[] w fun e w' => e = .returned (.bool true) ∧ Below w.heap.size w w' := by
  go_enter Try.func12, Try.ntmps12
  go_wp2_with fail
  have hr := range_any (some ⟨w.heap.size, 0, none⟩) 2 [sB, sA] 3 (w.alloc (.cells #[.string sB, .string sA] 9)) (LAt.of_blk encS_len (Blk.new' _ _ rfl)) (by simp) [sA, sB] sort_ba (by simp [sA, sB]; decide) ok_ab
  simp only [List.length_cons, List.length_nil, Nat.zero_add, Nat.reduceAdd] at hr
  refine hr.mono ?_
  rintro e w1 ⟨A1, c1, os, rfl, hsh, hm, hj, hb1⟩
  clear hr
  obtain ⟨r, s, rfl, hr0, hs0⟩ := two_of hm ((hj 0 (by omega)).trans range_ab0) ((hj 1 (by omega)).trans range_ab1)
  replace hb1 : Below w.heap.size w w1 := bl_tr (bl_alloc (Below.refl _ _) _) hb1
  clear hm hj
  go_wp2_with fail
  have hst := sticky_ok A1 (some ⟨w1.heap.size, 0, none⟩) c1 2 [⟨sA, r⟩, ⟨sB, s⟩] [sB, sC] 3 (w1.alloc (.cells #[.string sB, .string sC] 9)) (hsh.below (bl_alloc (Below.refl _ _) _)).1 (hsh.below (bl_alloc (Below.refl _ _) _)).2 (LAt.of_blk encS_len (Blk.new' _ _ rfl)) (by simp) (by simp)
    (by intro o ho; simp only [List.mem_cons, List.not_mem_nil, or_false] at ho; rcases ho with rfl | rfl <;> simp [hr0, hs0] <;> decide) [sB, sC] sort_bc (by simp [sB, sC]; decide) ok_bc (by simp)
  simp only [List.length_cons, List.length_nil, Nat.zero_add, Nat.reduceAdd] at hst
  refine hst.mono ?_
  rintro e w2 ⟨O, outs, rfl, hM, hm, hj, hb2⟩
  clear hst
  rw [fps_bc r s hs0] at hj
  obtain ⟨r2, s2, rfl, hr2, hs2⟩ := two_of hm ((hj 0 (by omega)).trans own4_bc0) ((hj 1 (by omega)).trans own4_bc1)
  have hsh2 := hM.sh
  have hsh1 := (hsh.below (bl_alloc (Below.refl _ _) (.cells #[.string sB, .string sC] 9))).below hb2
  have hb12 : Below w.heap.size w w2 := bl_tr (bl_alloc hb1 _) hb2
  clear hM hm hj hb2 hb1 hsh
  have hd1 : ([⟨sA, r⟩, ⟨sB, s⟩] : List Ou).map nl = ([⟨sA, ⟨some ⟨w2.heap.size, 0, none⟩, 2, [0, 1]⟩⟩, ⟨sB, ⟨some ⟨w2.heap.size + 1, 0, none⟩, 1, [2]⟩⟩] : List Ou).map nl := by simp [nl, hr0, hs0]
  have k1 := sh_made w2 sA sB [0, 1] [2] #[.int .i64 0, .int .i64 1] #[.int .i64 2] rfl rfl
  simp only [List.length_cons, List.length_nil, Nat.zero_add, Nat.reduceAdd] at k1
  have b1 : Below w2.heap.size w2 _ := bl_alloc (bl_alloc (bl_alloc (Below.refl _ w2) (.cells #[.int .i64 0, .int .i64 1] 3)) (.cells #[.int .i64 2] 3)) (.cells #[.string sA, .slice (some ⟨w2.heap.size, 0, none⟩) 2 2, .string sB, .slice (some ⟨w2.heap.size + 1, 0, none⟩) 1 1] 49)
  have c1 := same_any A1 (some ⟨w2.heap.size + 1 + 1, 0, none⟩) c1 2 [⟨sA, r⟩, ⟨sB, s⟩] [⟨sA, ⟨some ⟨w2.heap.size, 0, none⟩, 2, [0, 1]⟩⟩, ⟨sB, ⟨some ⟨w2.heap.size + 1, 0, none⟩, 1, [2]⟩⟩] _ (hsh1.below b1) k1 (by simp) (by simp)
    (fun i hi => by match i, hi with | 0, _ => simp [hr0] | 1, _ => simp [hs0]) (fun i hi => by match i, hi with | 0, _ => simp | 1, _ => simp)
  rw [decide_eq_true hd1] at c1
  simp only [List.length_cons, List.length_nil, Nat.zero_add, Nat.reduceAdd] at c1
  go_wp2_with (first | (go_at_call 11; refine (num_any 0 _).mono ?_; rintro e wX ⟨rfl, rfl⟩))
  refine c1.mono ?_
  rintro e w3 ⟨rfl, hb3⟩
  have b13 := b1.trans (hb3.mono b1.size)
  have hsh3 := hsh2.below b13
  have hb13 : Below w.heap.size w w3 := bl_tr hb12 b13
  clear hsh2 c1 k1 b1 hb3 b13 hb12 hsh1
  have hd2 : ([⟨sB, r2⟩, ⟨sC, s2⟩] : List Ou).map nl = ([⟨sB, ⟨some ⟨w3.heap.size, 0, none⟩, 2, [1, 2]⟩⟩, ⟨sC, ⟨some ⟨w3.heap.size + 1, 0, none⟩, 1, [0]⟩⟩] : List Ou).map nl := by simp [nl, hr2, hs2]
  have k1 := sh_made w3 sB sC [1, 2] [0] #[.int .i64 1, .int .i64 2] #[.int .i64 0] rfl rfl
  simp only [List.length_cons, List.length_nil, Nat.zero_add, Nat.reduceAdd] at k1
  have b1 : Below w3.heap.size w3 _ := bl_alloc (bl_alloc (bl_alloc (Below.refl _ w3) (.cells #[.int .i64 1, .int .i64 2] 3)) (.cells #[.int .i64 0] 3)) (.cells #[.string sB, .slice (some ⟨w3.heap.size, 0, none⟩) 2 2, .string sC, .slice (some ⟨w3.heap.size + 1, 0, none⟩) 1 1] 49)
  have c1 := same_any (some ⟨O, 0, none⟩) (some ⟨w3.heap.size + 1 + 1, 0, none⟩) 2 2 [⟨sB, r2⟩, ⟨sC, s2⟩] [⟨sB, ⟨some ⟨w3.heap.size, 0, none⟩, 2, [1, 2]⟩⟩, ⟨sC, ⟨some ⟨w3.heap.size + 1, 0, none⟩, 1, [0]⟩⟩] _ (hsh3.below b1) k1 (by simp) (by simp)
    (fun i hi => by match i, hi with | 0, _ => simp [hr2] | 1, _ => simp [hs2]) (fun i hi => by match i, hi with | 0, _ => simp | 1, _ => simp)
  rw [decide_eq_true hd2] at c1
  simp only [List.length_cons, List.length_nil, Nat.zero_add, Nat.reduceAdd] at c1
  go_wp2_with fail
  refine c1.mono ?_
  rintro e w4 ⟨rfl, hb4⟩
  have hb14 : Below w.heap.size w w4 := bl_tr (bl_tr hb13 b1) hb4
  go_wp2_with fail
  go_ret
  exact ⟨rfl, hb14⟩
end Go.Proofs.Ytbjjhnlifgbpmaa
