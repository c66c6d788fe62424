/- The document's Diff. -/
import Derived.Test.YtjokpjfmnjefdaaRw
import Derived.Test.YtjokpjfmnjefdaaDd
import Derived.Test.YtjokpjfmnjefdaaGt
namespace Go.Proofs.Ytjokpjfmnjefdaa
open Go.RowKit Go.Shelf
attribute [local go_sem] Oper.semAt_some

def rItem (l m : List Pr) (p : Pr) : Ch := ⟨p.key, gotV (getL l p.key), gotV (getL m p.key), (getL l p.key).isSome, (getL m p.key).isSome⟩
def rOne (l m : List Pr) (p : Pr) : Option Ch := if (rItem l m p).was != (rItem l m p).is || !decide ((rItem l m p).old = (rItem l m p).new) then some (rItem l m p) else none
def rDiffL (l m : List Pr) : List Ch := (m.foldl withL l).filterMap (rOne l m)
theorem len_foldW' (m : List Pr) : ∀ l : List Pr, (m.foldl withL l).length ≤ l.length + m.length := fun l => len_foldW m l

theorem info43 : (Try.prog.info? 43).map (fun i => (i.zero, i.size, i.bytes)) = some (some (.agg #[.string ⟨#[]⟩, .string ⟨#[]⟩, .string ⟨#[]⟩, .bool false, .bool false]), 5, 56) := by kernel_rfl

set_option maxHeartbeats 400000 in
theorem rdiff_bad (A B : Option Addr) (c d : Nat) (l m : List Pr) (w : World) (hl : LAt w A 3 prL l) (hm : LAt w B 3 prL m) (hll : l.length ≤ 4611686018427387904) (hml : m.length ≤ 4611686018427387904) (h : ¬ (TabP l ∧ TabP m)) :
    Calls Try.prog 19 #[.slice A l.length c, .slice B m.length d] w fun e w' => e = .returned (.tuple #[.slice none 0 0, .int .i64 1]) ∧ Below w.heap.size w w' := by
  go_enter Try.func19, Try.ntmps19
  go_wp2_with fail
  refine (rtable_any A c l _ hl (by omega)).mono ?_
  rintro e w1 ⟨b1, rfl, hb1, hw1⟩
  cases b1 with
  | false =>
    clear hb1
    go_wp2_with fail
    go_ret2
    exact ⟨rfl, hw1⟩
  | true =>
    have tl := hb1.1 rfl
    clear hb1
    go_wp2_with fail
    refine (rtable_any B d m _ (hm.below hw1) (by omega)).mono ?_
    rintro e w2 ⟨b2, rfl, hb2, hw2⟩
    obtain rfl : b2 = false := by cases b2 with | false => rfl | true => exact absurd ⟨tl, hb2.1 rfl⟩ h
    clear hb2
    go_wp2_with fail
    go_ret2
    exact ⟨rfl, bl_tr hw1 hw2⟩

set_option maxRecDepth 100000 in
set_option maxHeartbeats 4000000 in
theorem rdiff_ok (A B : Option Addr) (c d : Nat) (l m : List Pr) (w : World) (hl : LAt w A 3 prL l) (hm : LAt w B 3 prL m) (hlen : l.length + m.length ≤ 1000000000000) (tl : TabP l) (tm : TabP m) :
    Calls Try.prog 19 #[.slice A l.length c, .slice B m.length d] w fun e w' => ∃ A' c', e = .returned (.tuple #[.slice A' (rDiffL l m).length c', .int .i64 0]) ∧ LAt w' A' 5 chL (rDiffL l m) ∧ Below w.heap.size w w' := by
  obtain ⟨i0, hi0, hz0, hz1, hz2⟩ := info_parts info65
  obtain ⟨j0, hj0, hy0, hy1, hy2⟩ := info_parts info43
  obtain ⟨R, hR⟩ : ∃ R, R = rDiffL l m := ⟨_, rfl⟩
  rw [← hR]
  replace hR := Lib.hid hR
  go_enter Try.func19, Try.ntmps19
  go_wp2_with fail
  refine (rtable_any A c l _ hl (by omega)).mono ?_
  rintro e w1 ⟨b1, rfl, hb1, hw1⟩
  obtain rfl : b1 = true := hb1.2 tl
  clear hb1
  go_wp2_with fail
  refine (rtable_any B d m _ (hm.below hw1) (by omega)).mono ?_
  rintro e w2 ⟨b2, rfl, hb2, hw2⟩
  obtain rfl : b2 = true := hb2.2 tm
  clear hb2
  have hw := bl_tr hw1 hw2
  replace hl := hl.below hw
  replace hm := hm.below hw
  clear hw1 hw2 tl tm
  have hsrc := LAt.src prL_len (by omega) (hl.below (bl_alloc (Below.refl w2.heap.size w2) (.cells #[] 65)))
  have hown := ownsRow_empty w2 65 3 w2.heap.size (Nat.le_refl _)
  go_wp2_with (at_builtin; refine wpList_append_srcT rfl _ _ 28 rfl w2.heap.size 65 i0 _ 3 40 Try.underlying28 hi0 hz0 hz1 hz2 rfl (by omega) (.slice (some ⟨w2.heap.size, 0, none⟩) 0 0) 0 [] rfl hown A l.length c (l.flatMap prL) rfl hsrc (flat_one prL_one _) ?h63 ?hby ?hbase ?nxl; case' nxl => intro A2 c2 w3 hown2 hg2)
  case h63 => simp only [maxLen]; omega
  case hby => omega
  case hbase => simp
  have hb2 := bl_own (bl_alloc (Below.refl w2.heap.size w2) _) hown (Nat.le_refl _) hg2
  simp only [Nat.zero_add, List.nil_append] at hown2 ⊢
  have hL2 := LAt.of_own prL_len hown2 rfl
  clear hown hown2 hsrc hg2
  go_wp2_with fail
  go_loopw [6, 7] (fun v u wr => ∃ (i : Nat) (A1 : Option Addr) (c1 : Nat) (t : List Pr), i ≤ m.length ∧ t = (m.take i).foldl withL l ∧ v = .slice A1 t.length c1 ∧ u = .int .i64 i ∧ LAt wr A1 3 prL t ∧ Below w2.heap.size w2 wr) (fun _ u _ => m.length - (intOf u).toNat)
  case atStart => exact ⟨0, A2, c2, l, Nat.zero_le _, rfl, rfl, rfl, hL2, hb2⟩
  case round =>
    clear hL2 hb2
    obtain ⟨i, A1, c1, t, hi, ht, rfl, rfl, hL, hb⟩ := hrel
    have htl : t.length ≤ l.length + i := by rw [ht]; have := len_foldW (m.take i) l; have := List.length_take_le i m; omega
    replace ht := Lib.hid ht
    by_cases hlt : i < m.length
    · obtain ⟨b, o, rfl, hbl, ca⟩ := (hm.below hb) i hlt
      have hmm := Lib.hid (show (m.take (i + 1)).foldl withL l = withL t m[i] by rw [List.take_succ_eq_append_getElem hlt, List.foldl_append, ht.out]; rfl)
      generalize m[i] = x at ca hmm
      have hbs := hb.size
      have hltI : (i : Int) < (m.length : Int) := by omega
      have a0 : wr.cell? ⟨b, o + i * 3, none⟩ = some (.string x.key) := ca 0 _ rfl
      have a1 : wr.cell? ⟨b, o + i * 3 + 1, none⟩ = some (.string x.val) := ca 1 _ rfl
      have a2 : wr.cell? ⟨b, o + i * 3 + 2, none⟩ = some (.int .i64 x.off) := ca 2 _ rfl
      clear ca hl hm
      go_wp2_with (go_at_call 39; refine (with_any A1 c1 t x _ hL (by omega)).mono ?_; rintro e w4 ⟨A3, c3, rfl, hP3, hb3⟩)
      go_roundw
      case rel => exact ⟨i + 1, A3, c3, _, by omega, hmm.out.symm, rfl, by go_num, hP3.row, bl_tr hb hb3⟩
      case measure => simp [intOf]; omega
    · obtain rfl : i = m.length := by omega
      have hall := ht.out
      rw [List.take_length] at hall
      replace hall := Lib.hid hall
      clear ht
      replace hw : Below w.heap.size w wr := bl_tr hw hb
      replace hl := hl.below hb
      replace hm := hm.below hb
      clear hb
      obtain ⟨wo, rfl⟩ : ∃ wo : World, wo = wr := ⟨_, rfl⟩
      go_wp2_with fail
      go_loopw [8, 9] (fun v u wx => ∃ (i : Nat) (A3 : Option Addr) (c3 : Nat) (os : List Ch), i ≤ t.length ∧ os = (t.take i).filterMap (rOne l m) ∧ v = .slice A3 os.length c3 ∧ u = .int .i64 i ∧ wx.ownsRow wo.heap.size 43 5 (.slice A3 os.length c3) os.length (os.flatMap chL) ∧ Below wo.heap.size wo wx) (fun _ u _ => t.length - (intOf u).toNat)
      case atStart => exact ⟨0, none, 0, [], Nat.zero_le _, rfl, rfl, rfl, World.ownsRow_nil _ _ _ _, Below.refl _ _⟩
      case round =>
        obtain ⟨i, A3, c3, os, hi, hos, rfl, rfl, hown, hb⟩ := hrel
        have hol : os.length ≤ i := by rw [hos]; exact Nat.le_trans (List.length_filterMap_le _ _) (List.length_take_le _ _)
        replace hos := Lib.hid hos
        by_cases hlt : i < t.length
        · obtain ⟨b, o, rfl, hbw, _⟩ := hL i hlt
          obtain ⟨b', o', hA', hbl, ca⟩ := (hL.below hb) i hlt
          cases hA'
          have hmm := Lib.hid (show (t.take (i + 1)).filterMap (rOne l m) = os ++ (rOne l m t[i]).toList by
            rw [List.take_succ_eq_append_getElem hlt, List.filterMap_append, hos.out]
            cases e : rOne l m t[i] <;> simp [e])
          generalize t[i] = x at ca hmm
          have hltI : (i : Int) < (t.length : Int) := by omega
          have a0 : wr.cell? ⟨b, o + i * 3, none⟩ = some (.string x.key) := ca 0 _ rfl
          have hbs := hb.size
          clear ca
          go_wp2_with fail
          generalize hX : World.alloc wr _ = X
          have hc0 : Blk X wr.heap.size [.string x.key, .string ⟨#[]⟩, .string ⟨#[]⟩, .bool false, .bool false] := by rw [← hX]; exact Blk.new' _ _ rfl
          have hWX : Below wr.heap.size wr X := by rw [← hX]; exact bl_alloc (Below.refl _ _) _
          clear hX a0
          refine (rget_any A c l x.key X (hl.below (hb.trans (hWX.mono hb.size))) (by omega)).mono ?_
          rintro e X1 ⟨rfl, hX1⟩
          have hc1 := hc0.below hX1 hc0.lt
          have hW1 := bl_tr hWX hX1
          clear hc0 hWX hX1
          have q0 := hc1.get (j := 0) rfl
          have q1 := hc1.get (j := 1) rfl
          have q2 := hc1.get (j := 2) rfl
          have q3 := hc1.get (j := 3) rfl
          have q4 := hc1.get (j := 4) rfl
          have u1 := hc1.unf
          have lt1 := hc1.lt
          have hone := Lib.hid (show rOne l m x = if (getL l x.key).isSome != (getL m x.key).isSome || !decide (gotV (getL l x.key) = gotV (getL m x.key)) then some ⟨x.key, gotV (getL l x.key), gotV (getL m x.key), (getL l x.key).isSome, (getL m x.key).isSome⟩ else none from rfl)
          generalize hga : getL l x.key = ga at hone
          replace hga := Lib.hid hga
          go_wp2_with fail
          have hc2 := (hc1.set_same 1 (.string (gotV ga))).set_same 3 (.bool ga.isSome)
          simp only [List.set_cons_zero, List.set_cons_succ] at hc2
          have hW2 := bl_set (bl_set hW1 (p := ⟨wr.heap.size, 1, none⟩) (Nat.le_refl _) (.string (gotV ga))) (p := ⟨wr.heap.size, 3, none⟩) (Nat.le_refl _) (.bool ga.isSome)
          generalize hX2 : (X1.setCell ⟨wr.heap.size, 1, none⟩ (.string (gotV ga))).setCell ⟨wr.heap.size, 3, none⟩ (.bool ga.isSome) = X2 at hc2 hW2 ⊢
          clear hX2 q0 q1 q2 q3 q4 u1 lt1 hc1 hW1
          refine (rget_any B d m x.key X2 (hm.below (hb.trans (hW2.mono hb.size))) (by omega)).mono ?_
          rintro e X3 ⟨rfl, hX3⟩
          have hc3 := hc2.below hX3 hc2.lt
          have hW3 := bl_tr hW2 hX3
          clear hc2 hW2 hX3
          have q0 := hc3.get (j := 0) rfl
          have q1 := hc3.get (j := 1) rfl
          have q2 := hc3.get (j := 2) rfl
          have q3 := hc3.get (j := 3) rfl
          have q4 := hc3.get (j := 4) rfl
          have u1 := hc3.unf
          have lt1 := hc3.lt
          generalize getL m x.key = gb at hone
          generalize gotV ga = ov at *
          generalize gotV gb = nv at *
          generalize ga.isSome = wa at *
          generalize gb.isSome = ib at *
          go_upto_region 15 with fail
          have hc4 := (hc3.set_same 2 (.string nv)).set_same 4 (.bool ib)
          simp only [List.set_cons_zero, List.set_cons_succ] at hc4
          have hW4 := bl_set (bl_set hW3 (p := ⟨wr.heap.size, 2, none⟩) (Nat.le_refl _) (.string nv)) (p := ⟨wr.heap.size, 4, none⟩) (Nat.le_refl _) (.bool ib)
          generalize hX4 : (X3.setCell ⟨wr.heap.size, 2, none⟩ (.string nv)).setCell ⟨wr.heap.size, 4, none⟩ (.bool ib) = X4 at hc4 hW4 ⊢
          clear hX4 q0 q1 q2 q3 q4 u1 lt1 hc3 hW3
          have q0 := hc4.get (j := 0) rfl
          have q1 := hc4.get (j := 1) rfl
          have q2 := hc4.get (j := 2) rfl
          have q3 := hc4.get (j := 3) rfl
          have q4 := hc4.get (j := 4) rfl
          cases wa with
          | false =>
            cases ib with
            | false =>
              by_cases hs : ov = nv
              · have hs2 : (ov.toList == nv.toList) = true := by rw [str_eq]; simp [hs]
                have hm2 := Lib.hid (show os = (t.take (i + 1)).filterMap (rOne l m) by rw [hmm.out, hone.out, if_neg (by simp [hs])]; simp)
                clear hs
                have own3 := kept_own hown hW4
                go_wp2_with fail
                go_roundw
                case rel => exact ⟨i + 1, A3, c3, os, by omega, hm2.out, rfl, by go_num, own3, bl_tr hb hW4⟩
                case measure => simp [intOf]; omega
              · have hs2 : (ov.toList == nv.toList) = false := by rw [str_eq]; simp [hs]
                have hm2 := Lib.hid (show os ++ [⟨x.key, ov, nv, false, false⟩] = (t.take (i + 1)).filterMap (rOne l m) by rw [hmm.out, hone.out, if_pos (by simp [hs])]; rfl)
                clear hs
                have hfl := Lib.hid (show (os ++ [(⟨x.key, ov, nv, false, false⟩ : Ch)]).flatMap chL = os.flatMap chL ++ chL ⟨x.key, ov, nv, false, false⟩ by rw [List.flatMap_append]; simp)
                have hL1 := Lib.hid (show (os ++ [(⟨x.key, ov, nv, false, false⟩ : Ch)]).length = os.length + 1 by simp)
                have own3 := kept_own hown hW4
                go_wp2_with (at_builtin; refine wpList_append_srcT rfl _ _ 37 rfl wo.heap.size 43 j0 _ 5 56 Try.underlying37 hj0 hy0 hy1 hy2 rfl (by omega) (.slice A3 os.length c3) os.length _ rfl (own3.alloc _) (some ⟨X4.heap.size, 0, none⟩) 1 1 (chL ⟨x.key, ov, nv, false, false⟩) rfl (src_new X4 (chL ⟨x.key, ov, nv, false, false⟩) 43 1 5 rfl) (chL_one _) ?h63q1 ?hbyq1 ?hbaseq1 ?nxlq1; case' nxlq1 => intro A4 c4 X5 own4 g4)
                case h63q1 => simp only [maxLen]; omega
                case hbyq1 => omega
                case hbaseq1 => have := hW4.size; simp; omega
                have hb4 := bl_own (bl_alloc (bl_tr hb hW4) _) (own3.alloc _) (Nat.le_refl _) g4
                rw [← hfl.out] at own4
                go_wp2_with fail
                go_roundw
                case rel => exact ⟨i + 1, A4, c4, _, by omega, hm2.out, by rw [hL1.out], by go_num, by rw [hL1.out]; exact own4, hb4⟩
                case measure => simp [intOf]; omega
            | true =>
              have hm2 := Lib.hid (show os ++ [⟨x.key, ov, nv, false, true⟩] = (t.take (i + 1)).filterMap (rOne l m) by rw [hmm.out, hone.out, if_pos (by simp)]; rfl)
              have hfl := Lib.hid (show (os ++ [(⟨x.key, ov, nv, false, true⟩ : Ch)]).flatMap chL = os.flatMap chL ++ chL ⟨x.key, ov, nv, false, true⟩ by rw [List.flatMap_append]; simp)
              have hL1 := Lib.hid (show (os ++ [(⟨x.key, ov, nv, false, true⟩ : Ch)]).length = os.length + 1 by simp)
              have own3 := kept_own hown hW4
              go_wp2_with (at_builtin; refine wpList_append_srcT rfl _ _ 37 rfl wo.heap.size 43 j0 _ 5 56 Try.underlying37 hj0 hy0 hy1 hy2 rfl (by omega) (.slice A3 os.length c3) os.length _ rfl (own3.alloc _) (some ⟨X4.heap.size, 0, none⟩) 1 1 (chL ⟨x.key, ov, nv, false, true⟩) rfl (src_new X4 (chL ⟨x.key, ov, nv, false, true⟩) 43 1 5 rfl) (chL_one _) ?h63q2 ?hbyq2 ?hbaseq2 ?nxlq2; case' nxlq2 => intro A4 c4 X5 own4 g4)
              case h63q2 => simp only [maxLen]; omega
              case hbyq2 => omega
              case hbaseq2 => have := hW4.size; simp; omega
              have hb4 := bl_own (bl_alloc (bl_tr hb hW4) _) (own3.alloc _) (Nat.le_refl _) g4
              rw [← hfl.out] at own4
              go_wp2_with fail
              go_roundw
              case rel => exact ⟨i + 1, A4, c4, _, by omega, hm2.out, by rw [hL1.out], by go_num, by rw [hL1.out]; exact own4, hb4⟩
              case measure => simp [intOf]; omega
          | true =>
            cases ib with
            | false =>
              have hm2 := Lib.hid (show os ++ [⟨x.key, ov, nv, true, false⟩] = (t.take (i + 1)).filterMap (rOne l m) by rw [hmm.out, hone.out, if_pos (by simp)]; rfl)
              have hfl := Lib.hid (show (os ++ [(⟨x.key, ov, nv, true, false⟩ : Ch)]).flatMap chL = os.flatMap chL ++ chL ⟨x.key, ov, nv, true, false⟩ by rw [List.flatMap_append]; simp)
              have hL1 := Lib.hid (show (os ++ [(⟨x.key, ov, nv, true, false⟩ : Ch)]).length = os.length + 1 by simp)
              have own3 := kept_own hown hW4
              go_wp2_with (at_builtin; refine wpList_append_srcT rfl _ _ 37 rfl wo.heap.size 43 j0 _ 5 56 Try.underlying37 hj0 hy0 hy1 hy2 rfl (by omega) (.slice A3 os.length c3) os.length _ rfl (own3.alloc _) (some ⟨X4.heap.size, 0, none⟩) 1 1 (chL ⟨x.key, ov, nv, true, false⟩) rfl (src_new X4 (chL ⟨x.key, ov, nv, true, false⟩) 43 1 5 rfl) (chL_one _) ?h63q3 ?hbyq3 ?hbaseq3 ?nxlq3; case' nxlq3 => intro A4 c4 X5 own4 g4)
              case h63q3 => simp only [maxLen]; omega
              case hbyq3 => omega
              case hbaseq3 => have := hW4.size; simp; omega
              have hb4 := bl_own (bl_alloc (bl_tr hb hW4) _) (own3.alloc _) (Nat.le_refl _) g4
              rw [← hfl.out] at own4
              go_wp2_with fail
              go_roundw
              case rel => exact ⟨i + 1, A4, c4, _, by omega, hm2.out, by rw [hL1.out], by go_num, by rw [hL1.out]; exact own4, hb4⟩
              case measure => simp [intOf]; omega
            | true =>
              by_cases hs : ov = nv
              · have hs2 : (ov.toList == nv.toList) = true := by rw [str_eq]; simp [hs]
                have hm2 := Lib.hid (show os = (t.take (i + 1)).filterMap (rOne l m) by rw [hmm.out, hone.out, if_neg (by simp [hs])]; simp)
                clear hs
                have own3 := kept_own hown hW4
                go_wp2_with fail
                go_roundw
                case rel => exact ⟨i + 1, A3, c3, os, by omega, hm2.out, rfl, by go_num, own3, bl_tr hb hW4⟩
                case measure => simp [intOf]; omega
              · have hs2 : (ov.toList == nv.toList) = false := by rw [str_eq]; simp [hs]
                have hm2 := Lib.hid (show os ++ [⟨x.key, ov, nv, true, true⟩] = (t.take (i + 1)).filterMap (rOne l m) by rw [hmm.out, hone.out, if_pos (by simp [hs])]; rfl)
                clear hs
                have hfl := Lib.hid (show (os ++ [(⟨x.key, ov, nv, true, true⟩ : Ch)]).flatMap chL = os.flatMap chL ++ chL ⟨x.key, ov, nv, true, true⟩ by rw [List.flatMap_append]; simp)
                have hL1 := Lib.hid (show (os ++ [(⟨x.key, ov, nv, true, true⟩ : Ch)]).length = os.length + 1 by simp)
                have own3 := kept_own hown hW4
                go_wp2_with (at_builtin; refine wpList_append_srcT rfl _ _ 37 rfl wo.heap.size 43 j0 _ 5 56 Try.underlying37 hj0 hy0 hy1 hy2 rfl (by omega) (.slice A3 os.length c3) os.length _ rfl (own3.alloc _) (some ⟨X4.heap.size, 0, none⟩) 1 1 (chL ⟨x.key, ov, nv, true, true⟩) rfl (src_new X4 (chL ⟨x.key, ov, nv, true, true⟩) 43 1 5 rfl) (chL_one _) ?h63q4 ?hbyq4 ?hbaseq4 ?nxlq4; case' nxlq4 => intro A4 c4 X5 own4 g4)
                case h63q4 => simp only [maxLen]; omega
                case hbyq4 => omega
                case hbaseq4 => have := hW4.size; simp; omega
                have hb4 := bl_own (bl_alloc (bl_tr hb hW4) _) (own3.alloc _) (Nat.le_refl _) g4
                rw [← hfl.out] at own4
                go_wp2_with fail
                go_roundw
                case rel => exact ⟨i + 1, A4, c4, _, by omega, hm2.out, by rw [hL1.out], by go_num, by rw [hL1.out]; exact own4, hb4⟩
                case measure => simp [intOf]; omega
        · obtain rfl : i = t.length := by omega
          have h1 := hos.out
          rw [List.take_length] at h1
          have h2 : os = R := by rw [hR.out, h1, hall.out]; rfl
          subst h2
          clear hos hR hall h1
          go_wp2_with fail
          go_ret2
          exact ⟨A3, c3, rfl, LAt.of_own chL_len hown rfl, bl_tr hw hb⟩
end Go.Proofs.Ytjokpjfmnjefdaa
