/- ViewParts walked. -/
import Derived.Test.YtjokpjfmnjefdaaRr
import Derived.Test.YtjokpjfmnjefdaaKw
namespace Go.Proofs.Ytjokpjfmnjefdaa
open Go.RowKit Go.Shelf
attribute [local go_sem] Oper.semAt_some

theorem bad_left (k : ByteArray) (hk : k ≠ ⟨#[]⟩) : badB ⟨#[]⟩ k = false := by
  have h : sb ⟨#[]⟩ k = true := by
    rcases sb_total (Ne.symm hk) with h | h
    · exact h
    · exfalso
      obtain ⟨d⟩ := k
      simp only [sb, kb] at h
      cases hd : d.toList with
      | nil => apply hk; congr; exact Array.toList_inj.1 hd
      | cons x r => rw [hd] at h; simp [bytesBefore] at h
  unfold badB
  rw [h]; simp
theorem bad_right (k : ByteArray) : badB k ⟨#[]⟩ = false := by unfold badB; simp
theorem kept_left {l : List Pr} (k : ByteArray) (hk : k ≠ ⟨#[]⟩) : keptL ⟨#[]⟩ k l = l.filter fun x => sb x.key k := by
  unfold keptL
  congr 1
  funext x
  have h0 : sb x.key ⟨#[]⟩ = false := by
    cases h : sb x.key ⟨#[]⟩ with
    | false => rfl
    | true => simp only [sb, kb] at h; cases hx : x.key.data.toList <;> rw [hx] at h <;> simp [bytesBefore] at h
  unfold outB
  rw [h0]
  simp [hk]
theorem kept_right {l : List Pr} (k : ByteArray) : keptL k ⟨#[]⟩ l = l.filter fun x => !sb x.key k := by
  unfold keptL outB
  congr 1
  funext x
  simp
theorem parts_join : ∀ {l : List Pr}, Ris l → ∀ k : ByteArray, (l.filter fun x => sb x.key k) ++ (l.filter fun x => !sb x.key k) = l
  | [], _, _ => rfl
  | x :: r, h, k => by
    have hr := List.pairwise_cons.1 h
    cases hx : sb x.key k with
    | true => simp only [List.filter_cons, hx, if_true, Bool.not_true, Bool.false_eq_true, if_false, List.cons_append]; rw [parts_join hr.2 k]
    | false =>
      have hno : ∀ y ∈ x :: r, sb y.key k = false := by
        intro y hy
        rcases List.mem_cons.1 hy with rfl | hy
        · exact hx
        · cases hyk : sb y.key k with
          | false => rfl
          | true => have := sb_trans (hr.1 y hy) hyk; rw [hx] at this; cases this
      rw [List.filter_eq_nil_iff.2 (fun y hy => by rw [hno y hy]; simp), List.nil_append, List.filter_eq_self.2 (fun y hy => by rw [hno y hy]; rfl)]

set_option maxRecDepth 100000 in
set_option maxHeartbeats 2000000 in
theorem vparts_any (A : Option Addr) (c : Nat) (l : List Pr) (k : ByteArray) (w : World) (hl : LAt w A 3 prL l) (hll : l.length ≤ 3518437208800) :
    Calls Try.prog 9 #[.slice A l.length c, .string k] w fun e w' => e = .returned (.bool true) ∧ Below w.heap.size w w' := by
  obtain ⟨i0, hi0, hz0, hz1, hz2⟩ := info_parts info56
  have e3 := nil_eq k
  by_cases hk : k = ⟨#[]⟩
  · rw [decide_eq_true hk] at e3
    clear hk
    go_enter Try.func9, Try.ntmps9
    go_wp2_with fail
    refine (knows_any _).mono ?_
    rintro e w1 ⟨rfl, hw1⟩
    go_wp2_with fail
    go_ret
    exact ⟨rfl, hw1⟩
  · rw [decide_eq_false hk] at e3
    go_enter Try.func9, Try.ntmps9
    go_wp2_with fail
    refine (own_any A c l w hl (by omega)).mono ?_
    rintro e w1 ⟨A1, c1, rfl, hP1, hw1⟩
    go_wp2_with fail
    by_cases ht : TabP l
    · have hj := parts_join ((risP_iff l).1 ht.1) k
      have hD1 : (keptL ⟨#[]⟩ k l).length ≤ l.length := List.length_filter_le _ _
      have hD2 : (keptL k ⟨#[]⟩ l).length ≤ l.length := List.length_filter_le _ _
      have hr1 := range_ok A1 c1 l ⟨#[]⟩ k w1 hP1.row hll ht (bad_left k hk)
      have hr2 := fun B d w' h => range_ok B d l k ⟨#[]⟩ w' h hll ht (bad_right k)
      rw [← kept_left k hk, ← kept_right k] at hj
      clear hk ht
      generalize keptL ⟨#[]⟩ k l = D1 at *
      generalize keptL k ⟨#[]⟩ l = D2 at *
      have hlen : D1.length + D2.length = l.length := by rw [← hj]; simp
      replace hlen := Lib.hid hlen
      replace hj := Lib.hid hj
      replace hr2 := Lib.hid hr2
      refine hr1.mono ?_
      rintro e w2 ⟨A2, c2, rfl, hP2, hw2⟩
      have hwa := bl_tr hw1 hw2
      go_wp2_with fail
      refine (own_any A c l w2 (hl.below hwa) (by omega)).mono ?_
      rintro e w3 ⟨A3, c3, rfl, hP3, hw3⟩
      go_wp2_with fail
      refine (hr2.out A3 c3 w3 hP3.row).mono ?_
      rintro e w4 ⟨A4, c4, rfl, hP4, hw4⟩
      have hw34 := bl_tr hw3 hw4
      have hq2 := (hP2.below hw34).row
      have hq4 := hP4.row
      have hwb := bl_tr hwa hw34
      have hl4 := hl.below hwb
      clear hr1 hr2 hP1 hP2 hP3 hP4 hw1 hw2 hw3 hw4 hwa hw34 hl
      go_wp2_with fail
      refine (num_any _ _).mono ?_
      rintro e w5 ⟨rfl, rfl⟩
      have hown := ownsRow_empty w4 56 3 w4.heap.size (Nat.le_refl _)
      have hs2 := LAt.src prL_len (by omega) (hq2.below (bl_alloc (Below.refl w4.heap.size w4) (.cells #[] 56)))
      have hl1 : D1.length ≤ l.length := hD1
      have hl2 := hlen.out
      have hl3 : D1.length + D2.length ≤ 3518437208800 := by omega
      replace hl2 := Lib.hid hl2
      go_wp2_with (first
        | (at_builtin; refine wpList_append_srcT rfl (.tmp 41) (.tmp 42) 26 rfl w4.heap.size 56 i0 _ 3 40 Try.underlying26 hi0 hz0 hz1 hz2 rfl (by omega) (.slice (some ⟨w4.heap.size, 0, none⟩) 0 0) 0 [] rfl hown A2 D1.length c2 (D1.flatMap prL) rfl hs2 (flat_one prL_one _) ?h63 ?hby ?hbase ?nxl; case' nxl => intro A6 c6 w6 hown6 hg6; have hb6 := bl_own (bl_alloc (Below.refl w4.heap.size w4) _) hown (Nat.le_refl _) hg6; have hs4 := LAt.src prL_len (by omega) (hq4.below hb6); simp only [Nat.zero_add, List.nil_append] at hown6 ⊢)
        | (at_builtin; refine wpList_append_srcT rfl (.tmp 43) (.tmp 44) 26 rfl w4.heap.size 56 i0 _ 3 40 Try.underlying26 hi0 hz0 hz1 hz2 rfl (by omega) (.slice A6 D1.length c6) D1.length (D1.flatMap prL) rfl hown6 A4 D2.length c4 (D2.flatMap prL) rfl hs4 (flat_one prL_one _) ?h63b ?hbyb ?hbaseb ?nxlb; case' nxlb => intro A7 c7 w7 hown7 hg7))
      case h63 => simp only [maxLen]; omega
      case hby => omega
      case hbase => simp
      case h63b => simp only [maxLen]; omega
      case hbyb => omega
      case hbaseb => exact hb6.size
      have hb7 := bl_own hb6 hown6 (Nat.le_refl _) hg7
      rw [← List.flatMap_append, hj.out, hl2.out] at hown7
      rw [hl2.out]
      refine (same_any A7 A c7 c l l w7 (LAt.of_own prL_len hown7 rfl) (hl4.below hb7) (by omega) (by omega)).mono ?_
      rintro e w8 ⟨b, rfl, hb, hw8⟩
      obtain rfl : b = true := hb.2 rfl
      clear hb
      go_wp2_with fail
      refine (knows_any _).mono ?_
      rintro e w9 ⟨rfl, hw9⟩
      go_wp2_with fail
      go_ret
      exact ⟨rfl, bl_tr hwb (bl_tr hb7 (bl_tr hw8 hw9))⟩
    · clear hk
      refine (range_bad A1 c1 l ⟨#[]⟩ k w1 hP1.row hll (fun h => ht h.1)).mono ?_
      rintro e w2 ⟨rfl, hw2⟩
      have hwa := bl_tr hw1 hw2
      go_wp2_with fail
      refine (own_any A c l w2 (hl.below hwa) (by omega)).mono ?_
      rintro e w3 ⟨A3, c3, rfl, hP3, hw3⟩
      go_wp2_with fail
      refine (range_bad A3 c3 l k ⟨#[]⟩ w3 hP3.row hll (fun h => ht h.1)).mono ?_
      rintro e w4 ⟨rfl, hw4⟩
      go_wp2_with fail
      refine (num_any _ _).mono ?_
      rintro e w5 ⟨rfl, rfl⟩
      go_wp2_with fail
      refine (knows_any _).mono ?_
      rintro e w9 ⟨rfl, hw9⟩
      go_wp2_with fail
      go_ret
      exact ⟨rfl, bl_tr hwa (bl_tr hw3 (bl_tr hw4 hw9))⟩
end Go.Proofs.Ytjokpjfmnjefdaa
