/- The document's on and Latest. -/
import Derived.Test.YtjokpjfmnjefdaaRw
import Derived.Test.YtjokpjfmnjefdaaKw
namespace Go.Proofs.Ytjokpjfmnjefdaa
open Go.RowKit Go.Shelf
attribute [local go_sem] Oper.semAt_some

set_option maxRecDepth 100000 in
set_option maxHeartbeats 2000000 in
theorem ron_any (A B : Option Addr) (c d : Nat) (l : List Pr) (rs : List Rw) (w : World) (hl : LAt w A 3 prL l) (hr : LAt w B 6 rwL rs) (hll : l.length + rs.length ≤ 3518437208800) :
    Calls Try.prog 35 #[.slice A l.length c, .slice B rs.length d] w fun e w' => ∃ A' c', e = .returned (.slice A' (rs.foldl stepL l).length c') ∧ LAt w' A' 3 prL (rs.foldl stepL l) ∧ Below w.heap.size w w' := by
  obtain ⟨i0, hi0, hz0, hz1, hz2⟩ := info_parts info65
  obtain ⟨R, hR⟩ : ∃ R, R = rs.foldl stepL l := ⟨_, rfl⟩
  rw [← hR]
  replace hR := Lib.hid hR
  go_enter Try.func35, Try.ntmps35
  have hsrc := LAt.src prL_len (by omega) (hl.below (bl_alloc (Below.refl w.heap.size w) (.cells #[] 65)))
  have hown := ownsRow_empty w 65 3 w.heap.size (Nat.le_refl _)
  go_wp2_with (at_builtin; refine wpList_append_srcT rfl _ _ 28 rfl w.heap.size 65 i0 _ 3 40 Try.underlying28 hi0 hz0 hz1 hz2 rfl (by omega) (.slice (some ⟨w.heap.size, 0, none⟩) 0 0) 0 [] rfl hown A l.length c (l.flatMap prL) rfl hsrc (flat_one prL_one _) ?h63 ?hby ?hbase ?nxl; case' nxl => intro A2 c2 w2 hown2 hg2)
  case h63 => simp only [maxLen]; omega
  case hby => omega
  case hbase => simp
  have hb2 := bl_own (bl_alloc (Below.refl w.heap.size w) _) hown (Nat.le_refl _) hg2
  simp only [Nat.zero_add, List.nil_append] at hown2 ⊢
  have hL2 := LAt.of_own prL_len hown2 rfl
  clear hown hown2 hsrc hg2 hl
  go_wp2_with fail
  go_loopw [0, 5] (fun v u wr => ∃ (i : Nat) (A1 : Option Addr) (c1 : Nat) (t : List Pr), i ≤ rs.length ∧ t = (rs.take i).foldl stepL l ∧ v = .slice A1 t.length c1 ∧ u = .int .i64 i ∧ LAt wr A1 3 prL t ∧ Below w.heap.size w wr) (fun _ u _ => rs.length - (intOf u).toNat)
  case atStart => exact ⟨0, A2, c2, l, Nat.zero_le _, rfl, rfl, rfl, hL2, hb2⟩
  case round =>
    clear hL2 hb2
    obtain ⟨i, A1, c1, t, hi, ht, rfl, rfl, hL, hb⟩ := hrel
    have htl : t.length ≤ l.length + i := by rw [ht]; have := len_fold (rs.take i) l; have := List.length_take_le i rs; omega
    replace ht := Lib.hid ht
    by_cases hlt : i < rs.length
    · obtain ⟨b, o, rfl, hbl, ca⟩ := (hr.below hb) i hlt
      have hmm := Lib.hid (show (rs.take (i + 1)).foldl stepL l = stepL t rs[i] by rw [List.take_succ_eq_append_getElem hlt, List.foldl_append, ht.out]; rfl)
      generalize rs[i] = x at ca hmm
      have hbs := hb.size
      have hltI : (i : Int) < (rs.length : Int) := by omega
      obtain ⟨xo, xp, xi, xk, xv, xd⟩ := x
      have a0 : wr.cell? ⟨b, o + i * 6, none⟩ = some (.int .i64 xo) := ca 0 _ rfl
      have a1 : wr.cell? ⟨b, o + i * 6 + 1, none⟩ = some (.int .i64 xp) := ca 1 _ rfl
      have a2 : wr.cell? ⟨b, o + i * 6 + 2, none⟩ = some (.bool xi) := ca 2 _ rfl
      have a3 : wr.cell? ⟨b, o + i * 6 + 3, none⟩ = some (.string xk) := ca 3 _ rfl
      have a4 : wr.cell? ⟨b, o + i * 6 + 4, none⟩ = some (.string xv) := ca 4 _ rfl
      have a5 : wr.cell? ⟨b, o + i * 6 + 5, none⟩ = some (.bool xd) := ca 5 _ rfl
      clear ca hr
      cases xd with
      | true =>
        have hst : stepL t ⟨xo, xp, xi, xk, xv, true⟩ = withoutL t xk := rfl
        rw [hst] at hmm
        clear hst
        go_wp2_with (go_at_call 50; refine (without_any A1 c1 t xk _ (hL.below (bl_alloc (Below.refl wr.heap.size wr) _)) (by omega)).mono ?_; rintro e w3 ⟨A3, c3, rfl, hP3, hb3⟩)
        go_roundw
        case rel => exact ⟨i + 1, A3, c3, _, by omega, hmm.out.symm, rfl, by go_num, hP3.row, bl_tr (bl_alloc hb _) hb3⟩
        case measure => simp [intOf]; omega
      | false =>
        have hst : stepL t ⟨xo, xp, xi, xk, xv, false⟩ = withL t ⟨xk, xv, xo⟩ := rfl
        rw [hst] at hmm
        clear hst
        go_wp2_with (go_at_call 39; refine (with_any A1 c1 t ⟨xk, xv, xo⟩ _ (hL.below (bl_alloc (Below.refl wr.heap.size wr) _)) (by omega)).mono ?_; rintro e w3 ⟨A3, c3, rfl, hP3, hb3⟩)
        go_roundw
        case rel => exact ⟨i + 1, A3, c3, _, by omega, hmm.out.symm, rfl, by go_num, hP3.row, bl_tr (bl_alloc hb _) hb3⟩
        case measure => simp [intOf]; omega
    · obtain rfl : i = rs.length := by omega
      go_wp2_with fail
      go_ret
      have h1 := ht.out
      rw [List.take_length] at h1
      have h2 : t = R := by rw [hR.out, h1]
      subst h2
      exact ⟨A1, c1, rfl, hL, hb⟩

set_option maxHeartbeats 400000 in
theorem rlatest_yes (A : Option Addr) (c : Nat) (rs : List Rw) (w : World) (hr : LAt w A 6 rwL rs) (hrl : rs.length ≤ 2199023255500) (hm : MayR rs) :
    Calls Try.prog 15 #[.slice A rs.length c] w fun e w' => ∃ A' c', e = .returned (.slice A' (onL [] rs).length c') ∧ LAt w' A' 3 prL (onL [] rs) ∧ Below w.heap.size w w' := by
  go_enter Try.func15, Try.ntmps15
  go_wp2_with fail
  refine (rmay_any A c rs w hr (by omega)).mono ?_
  rintro e w1 ⟨b, rfl, hb, hw1⟩
  obtain rfl : b = true := hb.2 hm
  clear hb hm
  go_wp2_with fail
  refine (ron_any none A 0 c [] rs w1 LAt.nil (hr.below hw1) (by simp; omega)).mono ?_
  rintro e w2 ⟨A', c', rfl, h1, hw2⟩
  go_wp2_with fail
  go_ret
  exact ⟨A', c', rfl, h1, bl_tr hw1 hw2⟩
set_option maxHeartbeats 400000 in
theorem rlatest_no (A : Option Addr) (c : Nat) (rs : List Rw) (w : World) (hr : LAt w A 6 rwL rs) (hrl : rs.length ≤ 2199023255500) (hm : ¬ MayR rs) :
    Calls Try.prog 15 #[.slice A rs.length c] w fun e w' => e = .returned (.slice none 0 0) ∧ Below w.heap.size w w' := by
  go_enter Try.func15, Try.ntmps15
  go_wp2_with fail
  refine (rmay_any A c rs w hr (by omega)).mono ?_
  rintro e w1 ⟨b, rfl, hb, hw1⟩
  obtain rfl : b = false := by cases b with | false => rfl | true => exact absurd (hb.1 rfl) hm
  clear hb hm
  go_wp2_with fail
  go_ret
  exact ⟨rfl, hw1⟩
end Go.Proofs.Ytjokpjfmnjefdaa
