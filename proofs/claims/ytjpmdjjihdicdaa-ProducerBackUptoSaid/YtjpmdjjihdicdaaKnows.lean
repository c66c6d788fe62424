/- The laws' sure answers: knows. -/
import Derived.Test.YtjpmdjjihdicdaaNote
import Derived.Test.YtjpmdjjihdicdaaLawFns
namespace Go.Proofs.Ytjpmdjjihdicdaa
open Go.RowKit Go.Shelf

theorem kd1 : decideF (lookI ([] : List (Int × St)) 1) 1 1 0 0 false (List.replicate 2 kRec) = (0, false, 0) := by decide +kernel
theorem kn1 : noteF [] 1 1 0 0 false (List.replicate 2 kRec) 7 = (0, [(1, ⟨0, 2, [⟨0, 2, 7⟩]⟩)]) := by decide +kernel
theorem kd2 : decideF (lookI [(1, (⟨0, 2, [⟨0, 2, 7⟩]⟩ : St))] 1) 1 1 0 0 false (List.replicate 2 kRec) = (7, true, 0) := by decide +kernel
theorem kd3 : decideF (lookI [(1, (⟨0, 2, [⟨0, 2, 7⟩]⟩ : St))] 1) 1 1 0 3 false (List.replicate 2 kRec) = (0, false, 51) := by decide +kernel

theorem RecsAt.grownMap {w w' : World} {A : Option Addr} {rs : List Rec} {P : Program} {K : TypeId} {b n : Nat} {α : Type} {enc : α → Value} {m : List (Int × α)} (h : RecsAt w A rs) (hM : IM P K w b n enc m) (hg : w.grownBy w' (some b)) : RecsAt w' A rs := by
  refine ⟨h.1, fun i hi => ?_⟩
  obtain ⟨bb, o, hA, hlt, c1, c2, c3, c4⟩ := h.2 i hi
  have hne := hM.ne_cell c1
  dsimp only at hne
  have e : ∀ j, w'.cell? ⟨bb, j, none⟩ = w.cell? ⟨bb, j, none⟩ := fun j => World.cell?_of_block (w := w) (w' := w') (a := ⟨bb, j, none⟩) (hg.block bb hlt (by simpa using hne))
  exact ⟨bb, o, hA, Nat.lt_of_lt_of_le hlt hg.size, by rw [e]; exact c1, by rw [e]; exact c2, by rw [e]; exact c3, c4⟩
/-- What is written is none of the records' cells. -/
theorem RecsAt.set_ne {w : World} {A : Option Addr} {rs : List Rec} (h : RecsAt w A rs) {p : Addr} (hp : ∀ b o, A = some ⟨b, o, none⟩ → b ≠ p.block) (v : Value) : RecsAt (w.setCell p v) A rs := by
  refine ⟨h.1, fun i hi => ?_⟩
  obtain ⟨bb, o, hA, hlt, c1, c2, c3, c4⟩ := h.2 i hi
  have hne := hp bb o hA
  have e : ∀ j, (w.setCell p v).cell? ⟨bb, j, none⟩ = w.cell? ⟨bb, j, none⟩ := fun j => World.cell?_setCell_other _ _ _ _ (by rintro rfl; exact hne rfl)
  exact ⟨bb, o, hA, by simpa [World.setCell] using hlt, by rw [e]; exact c1, by rw [e]; exact c2, by rw [e]; exact c3, c4⟩

theorem table_new (w : World) : Blk ((w.alloc (.map #[] 0)).alloc (.cells #[.map (some w.heap.size)] 65)) (w.heap.size + 1) [.map (some w.heap.size)] ∧
    IM Try.prog 3 ((w.alloc (.map #[] 0)).alloc (.cells #[.map (some w.heap.size)] 65)) w.heap.size 0 stV [] :=
  ⟨Blk.new' _ _ (by simp), (IM.made w Try.prog 3 stV).alloc _⟩

set_option maxRecDepth 100000 in
set_option maxHeartbeats 2000000 in
theorem knows_any (w : World) : Calls Try.prog 10 #[] w fun e w' => e = .returned (.bool true) ∧ Below w.heap.size w w' := by
  obtain ⟨hT, hM⟩ := table_new w
  go_enter Try.func10, Try.ntmps10
  go_wp2_with (go_at_call 9; refine (new_any _).mono ?_; rintro e w' ⟨rfl, rfl⟩)
  have hb0 : Below w.heap.size w ((w.alloc (.map #[] 0)).alloc (.cells #[.map (some w.heap.size)] 65)) := bl_alloc (bl_alloc (Below.refl _ _) _) _
  refine (records_any 2 _ (by omega)).mono ?_
  rintro e w1 ⟨A, c, rfl, hR, hb1⟩
  have hT1 := hT.below hb1 hT.lt
  have hM1 := hM.below hb1 hM.lt
  have hbb := bl_tr hb0 hb1
  have hz1 : w.heap.size + 1 < w1.heap.size := hT1.lt
  have HA : Hid (∀ b o, A = some ⟨b, o, none⟩ → b < w1.heap.size) := by
    intro b o hA
    obtain ⟨b', o', h, hlt, _⟩ := hR.2 0 (by simp)
    rw [h] at hA; cases hA; exact hlt
  clear hT hM hb0 hb1
  go_wp2_with fail
  have hB0 : Blk (w1.alloc (.cells #[.int .i64 1, .int .i64 1, .int .i64 0, .int .i64 0, .bool false, .slice A 2 c] 30)) w1.heap.size [.int .i64 1, .int .i64 1, .int .i64 0, .int .i64 0, .bool false, .slice A 2 c] := Blk.new' _ _ rfl
  refine (decide_any (w.heap.size + 1) w.heap.size 0 [] 1 1 0 0 false A c (List.replicate 2 kRec) _ (hT1.alloc _) (hM1.alloc _) (hR.below (bl_alloc (Below.refl _ _) _)) (by omega) (by simp [lookI])).mono ?_
  rw [kd1]
  rintro e w2 ⟨rfl, hb2⟩
  replace hB0 := hB0.below hb2 hB0.lt
  have hT2 := (hT1.alloc _).below hb2 (hT1.alloc _).lt
  have hM2 := (hM1.alloc _).below hb2 (hM1.alloc _).lt
  have hR2 := (hR.below (bl_alloc (Below.refl _ _) _)).below hb2
  replace hbb := bl_tr (bl_alloc hbb _) hb2
  clear hT1 hM1 hR hb2
  have q0 := hB0.cell
  go_wp2_with fail
  refine (note_any (w.heap.size + 1) w.heap.size 0 [] 1 1 0 0 false A c (List.replicate 2 kRec) 7 _ hT2 hM2 hR2 (by omega) (by decide) (by simp [lookI])).mono ?_
  rw [kn1]
  rintro e w3 ⟨rfl, hM3, hg3⟩
  have hne := hM2.ne_cell (hT2.get (j := 0) rfl)
  have hneB := hM2.ne_cell (hB0.get (j := 0) rfl)
  dsimp only at hne hneB
  replace hB0 := hB0.grown hg3 (by simpa using hneB)
  have hT3 := hT2.grown hg3 (by simp)
  have hR3 := hR2.grownMap hM2 hg3
  replace hbb := bl_gr hbb hg3 (Nat.le_refl _)
  clear hT2 hM2 hR2 hg3 q0
  have q0 := hB0.cell
  have u0 := hB0.unf
  go_wp2_with fail
  refine (decide_any (w.heap.size + 1) w.heap.size 1 _ 1 1 0 0 false A c (List.replicate 2 kRec) _ hT3 hM3 hR3 (by omega) (by intro st h; simp [lookI] at h; subst h; decide)).mono ?_
  rw [kd2]
  rintro e w4 ⟨rfl, hb4⟩
  replace hB0 := hB0.below hb4 hB0.lt
  have hT4 := hT3.below hb4 hT3.lt
  have hM4 := hM3.below hb4 hM3.lt
  have hR4 := hR3.below hb4
  replace hbb := bl_tr hbb hb4
  clear hT3 hM3 hR3 hb4 q0 u0
  have q0 := hB0.cell
  have u0 := hB0.unf
  have l0 := hB0.lt
  go_wp2_with fail
  have hb1 := hbb.size
  refine (decide_any (w.heap.size + 1) w.heap.size 1 _ 1 1 0 3 false A c (List.replicate 2 kRec) _ (hT4.set_ne (by dsimp only; omega) _) (hM4.setCell _ _) (hR4.set_ne ?_ _) (by omega) (by intro st h; simp [lookI] at h; subst h; decide)).mono ?_
  · intro b o hA; have := HA.out b o hA; dsimp only; omega
  rw [kd3]
  rintro e w5 ⟨rfl, hb5⟩
  clear hT4 hM4 hR4 hB0 q0 u0
  go_wp2_with (go_at_call 13; refine (num_any _ _).mono ?_; rintro e w' ⟨rfl, rfl⟩)
  go_ret
  exact ⟨rfl, bl_tr (bl_set hbb (by dsimp only; omega) _) hb5⟩
end Go.Proofs.Ytjpmdjjihdicdaa
