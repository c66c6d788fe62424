/- gazetteref02.Check: markers, and the whole. -/
import Derived.Test.YtjpmdjjihdicdaaRefC
namespace Go.Proofs.Ytjpmdjjihdicdaa
open Go.RowKit Go.Shelf

set_option maxRecDepth 100000 in
set_option maxHeartbeats 2000000 in
theorem rcheck0_any (k p ep s : Int) (t : Bool) (A : Option Addr) (c : Nat) (w : World) (hk3 : k = 2 ∨ k = 3) :
    Calls Try.prog 34 #[.agg #[.int .i64 k, .int .i64 p, .int .i64 ep, .int .i64 s, .bool t, .slice A 0 c]] w fun e w' => e = .returned (.int .i64 (checkE k p ep s t [])) ∧ Below w.heap.size w w' := by
  have hR : RecsAt w A [] := ⟨by simp, fun i hi => by simp at hi⟩
  rcases hk3 with rfl | rfl
  · go_enter Try.func34, Try.ntmps34
    go_wp2_with fail
    all_goals try (go_ret; refine ⟨ret_int ?_, bl_alloc (Below.refl _ _) _⟩; (symm; simp_all [checkE, q1, q2, q3, q4, q5]; done))
    all_goals try (go_ret; refine ⟨ret_int ?_, bl_alloc (Below.refl _ _) _⟩; (symm; simp_all [checkE, q1, q2, q3, q4, q5]; omega))
    all_goals try (go_ret; refine ⟨ret_int ?_, bl_alloc (Below.refl _ _) _⟩; (symm; simp_all [checkE, q1, q2, q3, q4, q5]; (intro _; cases t <;> simp_all; try omega); done))
    have HC := Lib.hid (show checkE 2 p ep s t [] = 0 from by
      simp_all [checkE, q1, q2, q3, q4, q5, q6, lenB, szW, anyBad, isM]
      try omega)
    go_loopw [4] (fun u ws => u = .int .i64 0 ∧ Blk ws w.heap.size _ ∧ Below w.heap.size w ws) (fun _ _ => 0)
    case atStart => exact ⟨rfl, Blk.new' _ _ rfl, bl_alloc (Below.refl _ _) _⟩
    case round =>
      obtain ⟨rfl, X1, hb⟩ := hrel
      have q := X1.cell
      dsimp only at q
      have lX : w.heap.size < wr.heap.size := X1.lt
      have hw : IntKind.i64.wrap (2147483648 - 1) = 2147483647 := rfl
      have hle : lenB (isM 2) 0 = 1 := rfl
      have hsz : szP [] = 0 := rfl
      go_wp2_with fail
      go_region_held3 (fun w' => (∀ b o, b < wr.heap.size → w'.cell? ⟨b, o, none⟩ = wr.cell? ⟨b, o, none⟩) ∧ Below wr.heap.size wr w')
        (first | exact keep_drew wr | exact keep_step ‹_› ‹_›)
        ((first | (go_at_call 53; refine (rlen_any _ _ _ _ _ _ _ _ _).mono ?_; rintro e w4 ⟨rfl, hb4⟩)))
      have hb5 := bl_tr (bl_drew hb) hb4
      have hR5 := hR.below hb5
      go_wp2_with (go_at_call 54; refine (rsize_any _ _ _ _ _ _ _ [] _ hR5 (by decide) (by decide)).mono ?_; rintro e w6 ⟨rfl, hb6⟩)
      all_goals go_ret
      all_goals refine ⟨ret_int ?_, ?_⟩
      all_goals first | (exact bl_tr hb5 hb6) | (exact HC.out.symm) | (exact hb5)
  · go_enter Try.func34, Try.ntmps34
    go_wp2_with fail
    all_goals try (go_ret; refine ⟨ret_int ?_, bl_alloc (Below.refl _ _) _⟩; (symm; simp_all [checkE, q1, q2, q3, q4, q5]; done))
    all_goals try (go_ret; refine ⟨ret_int ?_, bl_alloc (Below.refl _ _) _⟩; (symm; simp_all [checkE, q1, q2, q3, q4, q5]; omega))
    all_goals try (go_ret; refine ⟨ret_int ?_, bl_alloc (Below.refl _ _) _⟩; (symm; simp_all [checkE, q1, q2, q3, q4, q5]; (intro _; cases t <;> simp_all; try omega); done))
    have HC := Lib.hid (show checkE 3 p ep s t [] = 0 from by
      simp_all [checkE, q1, q2, q3, q4, q5, q6, lenB, szW, anyBad, isM]
      try omega)
    go_loopw [4] (fun u ws => u = .int .i64 0 ∧ Blk ws w.heap.size _ ∧ Below w.heap.size w ws) (fun _ _ => 0)
    case atStart => exact ⟨rfl, Blk.new' _ _ rfl, bl_alloc (Below.refl _ _) _⟩
    case round =>
      obtain ⟨rfl, X1, hb⟩ := hrel
      have q := X1.cell
      dsimp only at q
      have lX : w.heap.size < wr.heap.size := X1.lt
      have hw : IntKind.i64.wrap (2147483648 - 1) = 2147483647 := rfl
      have hle : lenB (isM 3) 0 = 1 := rfl
      have hsz : szP [] = 0 := rfl
      go_wp2_with fail
      go_region_held3 (fun w' => (∀ b o, b < wr.heap.size → w'.cell? ⟨b, o, none⟩ = wr.cell? ⟨b, o, none⟩) ∧ Below wr.heap.size wr w')
        (first | exact keep_drew wr | exact keep_step ‹_› ‹_›)
        ((first | (go_at_call 53; refine (rlen_any _ _ _ _ _ _ _ _ _).mono ?_; rintro e w4 ⟨rfl, hb4⟩)))
      have hb5 := bl_tr (bl_drew hb) hb4
      have hR5 := hR.below hb5
      go_wp2_with (go_at_call 54; refine (rsize_any _ _ _ _ _ _ _ [] _ hR5 (by decide) (by decide)).mono ?_; rintro e w6 ⟨rfl, hb6⟩)
      all_goals go_ret
      all_goals refine ⟨ret_int ?_, ?_⟩
      all_goals first | (exact bl_tr hb5 hb6) | (exact HC.out.symm) | (exact hb5)

set_option maxRecDepth 100000 in
set_option maxHeartbeats 2000000 in
theorem rcheck_any (k p ep s : Int) (t : Bool) (rs : List Rec) (A : Option Addr) (c : Nat) (w : World) (hR : RecsAt w A rs) (hs : -9223372036854775808 ≤ s ∧ s ≤ 9223372036854775807) :
    Calls Try.prog 34 #[.agg #[.int .i64 k, .int .i64 p, .int .i64 ep, .int .i64 s, .bool t, .slice A rs.length c]] w fun e w' => e = .returned (.int .i64 (checkE k p ep s t rs)) ∧ Below w.heap.size w w' := by
  have hrl := hR.1
  by_cases hk : k = 1
  · subst hk
    exact rcheck1_any p ep s t rs A c w hR hs
  · by_cases hk2 : isM k = true
    · have hk3 : k = 2 ∨ k = 3 := by simpa [isM] using hk2
      by_cases hz : rs.length = 0
      · obtain rfl : rs = [] := List.eq_nil_of_length_eq_zero hz
        exact rcheck0_any k p ep s t A c w hk3
      · have hz' : ((rs.length : Int) == 0) = false := by rw [beq_eq_false_iff_ne]; omega
        have hz2 : rs ≠ [] := by rintro rfl; exact hz rfl
        clear hk
        rcases hk3 with rfl | rfl
        all_goals
          go_enter Try.func34, Try.ntmps34
          go_wp2_with fail
          all_goals (go_ret; refine ⟨ret_int ?_, bl_alloc (Below.refl _ _) _⟩)
          all_goals (symm; simp_all [checkE, q1, q2, q3, q4, q5]; try omega)
          all_goals (try (intro _; cases t <;> simp_all; try omega))
    · have hk3 : isM k = false := by simpa using hk2
      have k1 : (k == 1) = false := by simpa using hk
      have k1' : (k != 1) = true := by simpa using hk
      have k2 : (k == 2) = false := by simp [isM] at hk3; simp [hk3.1]
      have k3 : (k == 3) = false := by simp [isM] at hk3; simp [hk3.2]
      have HC := Lib.hid (show checkE k p ep s t rs = 1 from by simp [checkE, q1, hk, hk3])
      clear hk hk2 hk3
      go_enter Try.func34, Try.ntmps34
      go_wp2_with fail
      go_ret
      exact ⟨ret_int HC.out.symm, bl_alloc (Below.refl _ _) _⟩
end Go.Proofs.Ytjpmdjjihdicdaa
