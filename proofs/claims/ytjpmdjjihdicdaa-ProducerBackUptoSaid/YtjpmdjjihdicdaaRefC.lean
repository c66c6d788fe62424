/- gazetteref02.Check, Len, size: the document's word on a batch. -/
import Derived.Test.YtjpmdjjihdicdaaNote
namespace Go.Proofs.Ytjpmdjjihdicdaa
open Go.RowKit Go.Shelf

/-- The bytes, as numbers that do not wrap. -/
def szP : List Rec → Int
  | [] => 0
  | r :: l => 5 + r.key.size + r.val.size + szP l
theorem szP_nonneg : ∀ l, 0 ≤ szP l
  | [] => Int.le_refl _
  | r :: l => by have := szP_nonneg l; simp only [szP]; omega
theorem szP_snoc (l : List Rec) (k : Nat) (h : k < l.length) : szP (l.take (k + 1)) = szP (l.take k) + (5 + l[k].key.size + l[k].val.size) := by
  induction l generalizing k with
  | nil => simp at h
  | cons r l ih =>
    cases k with
    | zero => simp [szP]
    | succ k => simp only [List.take_succ_cons, szP, List.getElem_cons_succ]; rw [ih k (by simpa using h)]; omega
theorem szP_le {l : List Rec} (h : anyBad l = false) : szP l ≤ 5005 * l.length := by
  induction l with
  | nil => simp [szP]
  | cons r l ih =>
    simp only [anyBad, List.any_cons, Bool.or_eq_false_iff] at h
    have := ih h.2
    have hb := h.1
    simp only [Rec.bad, Bool.or_eq_false_iff, decide_eq_false_iff_not] at hb
    simp only [szP, List.length_cons]
    omega
theorem szW_eq (l : List Rec) : ∀ z : Int, 0 ≤ z → z + szP l ≤ 9223372036854775807 → szW l z = z + szP l := by
  induction l with
  | nil => intro z _ _; simp [szW, szP]
  | cons r l ih =>
    intro z h0 h1
    have := szP_nonneg l
    simp only [szP] at h1
    have hw : wrap64 (z + (5 + r.key.size + r.val.size)) = z + (5 + r.key.size + r.val.size) := by unfold wrap64; omega
    simp only [szW, szP, hw]
    rw [ih _ (by omega) (by omega)]
    omega

set_option maxHeartbeats 400000 in
theorem rlen_any (k p e s : Int) (t : Bool) (A : Option Addr) (n c : Nat) (w : World) :
    Calls Try.prog 53 #[.agg #[.int .i64 k, .int .i64 p, .int .i64 e, .int .i64 s, .bool t, .slice A n c]] w fun e w' => e = .returned (.int .i64 (lenB (isM k) n)) ∧ Below w.heap.size w w' := by
  go_enter Try.func53, Try.ntmps53
  go_wp2
  all_goals go_ret
  all_goals exact ⟨ret_int (by simp_all [isM, lenB]), (Below.refl _ _).alloc (Nat.le_refl _) _⟩

set_option maxRecDepth 100000 in
set_option maxHeartbeats 1000000 in
theorem rsize_any (k p e s : Int) (t : Bool) (A : Option Addr) (c : Nat) (rs : List Rec) (w : World) (hR : RecsAt w A rs) (hn : rs.length ≤ 64) (hz : szP rs ≤ 400000) :
    Calls Try.prog 54 #[.agg #[.int .i64 k, .int .i64 p, .int .i64 e, .int .i64 s, .bool t, .slice A rs.length c]] w fun e w' => e = .returned (.int .i64 (18 + szP rs)) ∧ Below w.heap.size w w' := by
  go_enter Try.func54, Try.ntmps54
  go_wp2_with fail
  have X0 : Blk (w.alloc (.cells #[.int .i64 k, .int .i64 p, .int .i64 e, .int .i64 s, .bool t, .slice A rs.length c] 30)) w.heap.size [.int .i64 k, .int .i64 p, .int .i64 e, .int .i64 s, .bool t, .slice A rs.length c] := Blk.new' _ _ rfl
  go_loopw [3, 4] (fun v u ws => ∃ k0 : Nat, k0 ≤ rs.length ∧ u = .int .i64 k0 ∧ v = .int .i64 (18 + szP (rs.take k0)) ∧ Blk ws w.heap.size [.int .i64 k, .int .i64 p, .int .i64 e, .int .i64 s, .bool t, .slice A rs.length c] ∧ Below w.heap.size w ws) (fun _ u _ => rs.length - (intOf u).toNat)
  case atStart => exact ⟨0, Nat.zero_le _, rfl, by simp [szP], X0, bl_alloc (Below.refl _ _) _⟩
  case round =>
    obtain ⟨i, hi, rfl, rfl, X1, hb⟩ := hrel
    have q := X1.cell
    clear X0
    by_cases hlt : i < rs.length
    · obtain ⟨b, o, rfl, hbl, c1, c2, c3, z1, z2⟩ := (hR.below hb).2 i hlt
      have hs := szP_snoc rs i hlt
      have h0 := szP_nonneg (rs.take i)
      have h1 : szP (rs.take i) + (5 + rs[i].key.size + rs[i].val.size) ≤ 400000 := by
        rw [← hs]
        have : ∀ (l : List Rec) (j : Nat), szP (l.take j) ≤ szP l := by
          intro l
          induction l with
          | nil => intro j; simp
          | cons r l ih => intro j; cases j with
            | zero => simp only [List.take_zero]; exact szP_nonneg _
            | succ j => simp only [List.take_succ_cons, szP]; have := ih j; omega
        exact Int.le_trans (this rs (i + 1)) hz
      generalize szP (rs.take i) = z at *
      replace hs := Lib.hid hs
      go_wp2_with fail
      go_quiet (fail)
      go_wp2_with fail
      go_roundw
      case rel => exact ⟨i + 1, by omega, by go_num, by rw [hs.out]; congr 1; omega, X1.drewN _, below_drewN hb _⟩
      case measure => simp [intOf]; omega
    · obtain rfl : i = rs.length := by omega
      go_wp2
      go_ret
      exact ⟨ret_int (by rw [List.take_length]), hb⟩
theorem rlen1_any (p e s : Int) (t : Bool) (A : Option Addr) (n c : Nat) (w : World) :
    Calls Try.prog 53 #[.agg #[.int .i64 1, .int .i64 p, .int .i64 e, .int .i64 s, .bool t, .slice A n c]] w fun e w' => e = .returned (.int .i64 n) ∧ Below w.heap.size w w' := rlen_any 1 p e s t A n c w

theorem anyBad_take {rs : List Rec} {i : Nat} (h : anyBad (rs.take i) = false) (hi : i < rs.length) : anyBad (rs.take (i + 1)) = rs[i].bad := by
  rw [List.take_succ_eq_append_getElem hi]
  unfold anyBad at *
  rw [List.any_append, h]
  simp
theorem anyBad_at {rs : List Rec} {i : Nat} (hi : i < rs.length) (h : rs[i].bad = true) : anyBad rs = true := List.any_eq_true.2 ⟨_, List.getElem_mem hi, h⟩

set_option maxRecDepth 100000 in
set_option maxHeartbeats 2000000 in
theorem rcheck1_any (p ep s : Int) (t : Bool) (rs : List Rec) (A : Option Addr) (c : Nat) (w : World) (hR : RecsAt w A rs) (hs : -9223372036854775808 ≤ s ∧ s ≤ 9223372036854775807) :
    Calls Try.prog 34 #[.agg #[.int .i64 1, .int .i64 p, .int .i64 ep, .int .i64 s, .bool t, .slice A rs.length c]] w fun e w' => e = .returned (.int .i64 (checkE 1 p ep s t rs)) ∧ Below w.heap.size w w' := by
  have hrl := hR.1
  have hm : isM 1 = false := rfl
  go_enter Try.func34, Try.ntmps34
  go_wp2_with fail
  all_goals try (go_ret; exact ⟨ret_int (by symm; simp_all [checkE, q1, q2, q3, q4, q5]; try omega), bl_alloc (Below.refl _ _) _⟩)
  · have hn64 : rs.length ≤ 64 := by simp_all; omega
    have HC := Lib.hid (show checkE 1 p ep s t rs = if anyBad rs = true then 6 else if q6 s false rs.length = true then 53 else if 65536 < szW rs 18 then 6 else 0 from by
      simp_all [checkE, q1, q2, q3, q4, q5]
      try rw [if_neg (by omega), if_neg (by omega)]
      simp [show ¬ 64 < rs.length by omega])
    subst_vars
    clear hm
    go_loopw [4] (fun u ws => ∃ k0 : Nat, k0 ≤ rs.length ∧ u = .int .i64 k0 ∧ anyBad (rs.take k0) = false ∧ Blk ws w.heap.size _ ∧ Below w.heap.size w ws) (fun u _ => rs.length - (intOf u).toNat)
    case atStart => exact ⟨0, Nat.zero_le _, rfl, rfl, Blk.new' _ _ rfl, bl_alloc (Below.refl _ _) _⟩
    case round =>
      obtain ⟨i, hi, rfl, hnb, X1, hb⟩ := hrel
      have q := X1.cell
      dsimp only at q
      replace hnb := Lib.hid hnb
      by_cases hlt : i < rs.length
      · obtain ⟨b, o, rfl, hbl, c1, c2, c3, z1, z2⟩ := (hR.below hb).2 i hlt
        have HT := Lib.hid (anyBad_take hnb.out hlt)
        have HA := Lib.hid (@anyBad_at rs i hlt)
        generalize rs[i] = r at c1 c2 c3 z1 z2 HT HA
        obtain ⟨rk, rv, rd⟩ := r
        dsimp only at c1 c2 c3 z1 z2
        go_wp2_with fail
        all_goals first
          | (go_ret; exact ⟨ret_int (by rw [HC.out, if_pos (HA.out (by simp_all [Rec.bad]))]), bl_alloc hb _⟩)
          | (go_roundw
             case rel => exact ⟨i + 1, by omega, by go_num, by rw [HT.out]; simp_all [Rec.bad], X1.alloc _, bl_alloc hb _⟩
             case measure => simp [intOf]; omega)
      · obtain rfl : i = rs.length := by omega
        have HA := hnb.out
        rw [List.take_length] at HA
        have HC2 := HC.out
        rw [HA, if_neg (by simp)] at HC2
        have hzz := szP_le HA
        have hzw : szW rs 18 = 18 + szP rs := szW_eq rs 18 (by omega) (by omega)
        rw [hzw] at HC2
        replace HC2 := Lib.hid HC2
        clear HC hnb HA hzw
        go_wp2_with fail
        have hw : IntKind.i64.wrap (2147483648 - (rs.length : Int)) = 2147483648 - rs.length := by apply IntWalk.i64_in <;> omega
        have lX : w.heap.size < wr.heap.size := X1.lt
        go_region_held3 (fun w' => (∀ b o, b < wr.heap.size → w'.cell? ⟨b, o, none⟩ = wr.cell? ⟨b, o, none⟩) ∧ Below wr.heap.size wr w')
          (first | exact keep_drew wr | exact keep_step ‹_› ‹_›)
          ((first | (go_at_call 53; refine (rlen1_any _ _ _ _ _ _ _ _).mono ?_; rintro e w4 ⟨rfl, hb4⟩)))
        have hb5 := bl_tr (bl_drew hb) hb4
        have hR5 := hR.below hb5
        go_wp2_with (go_at_call 54; refine (rsize_any _ _ _ _ _ _ _ rs _ hR5 hn64 (by omega)).mono ?_; rintro e w6 ⟨rfl, hb6⟩)
        all_goals go_ret
        all_goals refine ⟨ret_int ?_, ?_⟩
        all_goals first | (exact bl_tr hb5 hb6) | (exact hb5) | (rw [HC2.out]; simp_all [q6, lenB]; done) | (rw [HC2.out]; simp_all [q6, lenB]; (repeat' split) <;> omega)
  · have hn64 : rs.length ≤ 64 := by simp_all; omega
    have HC := Lib.hid (show checkE 1 p ep s t rs = if anyBad rs = true then 6 else if q6 s false rs.length = true then 53 else if 65536 < szW rs 18 then 6 else 0 from by
      simp_all [checkE, q1, q2, q3, q4, q5]
      try rw [if_neg (by omega), if_neg (by omega)]
      simp [show ¬ 64 < rs.length by omega])
    subst_vars
    clear hm
    go_loopw [4] (fun u ws => ∃ k0 : Nat, k0 ≤ rs.length ∧ u = .int .i64 k0 ∧ anyBad (rs.take k0) = false ∧ Blk ws w.heap.size _ ∧ Below w.heap.size w ws) (fun u _ => rs.length - (intOf u).toNat)
    case atStart => exact ⟨0, Nat.zero_le _, rfl, rfl, Blk.new' _ _ rfl, bl_alloc (Below.refl _ _) _⟩
    case round =>
      obtain ⟨i, hi, rfl, hnb, X1, hb⟩ := hrel
      have q := X1.cell
      dsimp only at q
      replace hnb := Lib.hid hnb
      by_cases hlt : i < rs.length
      · obtain ⟨b, o, rfl, hbl, c1, c2, c3, z1, z2⟩ := (hR.below hb).2 i hlt
        have HT := Lib.hid (anyBad_take hnb.out hlt)
        have HA := Lib.hid (@anyBad_at rs i hlt)
        generalize rs[i] = r at c1 c2 c3 z1 z2 HT HA
        obtain ⟨rk, rv, rd⟩ := r
        dsimp only at c1 c2 c3 z1 z2
        go_wp2_with fail
        all_goals first
          | (go_ret; exact ⟨ret_int (by rw [HC.out, if_pos (HA.out (by simp_all [Rec.bad]))]), bl_alloc hb _⟩)
          | (go_roundw
             case rel => exact ⟨i + 1, by omega, by go_num, by rw [HT.out]; simp_all [Rec.bad], X1.alloc _, bl_alloc hb _⟩
             case measure => simp [intOf]; omega)
      · obtain rfl : i = rs.length := by omega
        have HA := hnb.out
        rw [List.take_length] at HA
        have HC2 := HC.out
        rw [HA, if_neg (by simp)] at HC2
        have hzz := szP_le HA
        have hzw : szW rs 18 = 18 + szP rs := szW_eq rs 18 (by omega) (by omega)
        rw [hzw] at HC2
        replace HC2 := Lib.hid HC2
        clear HC hnb HA hzw
        go_wp2_with fail
        have hw : IntKind.i64.wrap (2147483648 - (rs.length : Int)) = 2147483648 - rs.length := by apply IntWalk.i64_in <;> omega
        have lX : w.heap.size < wr.heap.size := X1.lt
        by_cases hg : s < 0
        · go_quiet (fail)
          go_wp2_with fail
          go_ret
          exact ⟨ret_int (by rw [HC2.out]; simp [q6, hg]), below_drewN hb _⟩
        · have hg' : decide (s < 0) = false := by simpa using hg
          go_region_held3 (fun w' => (∀ b o, b < wr.heap.size → w'.cell? ⟨b, o, none⟩ = wr.cell? ⟨b, o, none⟩) ∧ Below wr.heap.size wr w')
            (first | exact keep_drew wr | exact keep_step ‹_› ‹_›)
            ((first | (go_at_call 53; refine (rlen1_any _ _ _ _ _ _ _ _).mono ?_; rintro e w4 ⟨rfl, hb4⟩)))
          have hb5 := bl_tr (bl_drew hb) hb4
          have hR5 := hR.below hb5
          go_wp2_with (go_at_call 54; refine (rsize_any _ _ _ _ _ _ _ rs _ hR5 hn64 (by omega)).mono ?_; rintro e w6 ⟨rfl, hb6⟩)
          all_goals go_ret
          all_goals refine ⟨ret_int ?_, ?_⟩
          all_goals first | (exact bl_tr hb5 hb6) | (exact hb5) | (rw [HC2.out]; simp_all [q6, lenB]; done) | (rw [HC2.out]; simp_all [q6, lenB]; (repeat' split) <;> omega)

end Go.Proofs.Ytjpmdjjihdicdaa
