/- keep, with each of its closures, and slices.Clone. -/
import Derived.Test.YtejjiiakficafaaFi
namespace Go.Proofs.Ytejjiiakficafaa
open Go.RowKit Go.Shelf
attribute [local go_sem] Oper.semAt_some

theorem info51 : (Try.prog.info? 51).map (fun i => (i.zero, i.size, i.bytes)) = some (some (.agg #[.int .i64 0, .int .i64 0, .bool false, .string ⟨#[]⟩, .string ⟨#[]⟩, .bool false]), 6, 64) := by kernel_rfl
theorem info82 : (Try.prog.info? 82).map (fun i => (i.zero, i.size, i.bytes)) = some (some (.agg #[.int .i64 0, .int .i64 0]), 2, 16) := by kernel_rfl
theorem info79 : (Try.prog.info? 79).map (fun i => (i.zero, i.size, i.bytes)) = some (some (.agg #[.int .i64 0, .int .i64 0, .int .i64 0]), 3, 24) := by kernel_rfl
theorem filter_take {α : Type} (P : α → Bool) (l : List α) (i : Nat) (h : i < l.length) : (l.take (i + 1)).filter P = (l.take i).filter P ++ if P l[i] = true then [l[i]] else [] := by
  rw [List.take_succ_eq_append_getElem h, List.filter_append]
  congr 1
  by_cases e : P l[i] = true
  · rw [if_pos e]; simp [e]
  · rw [if_neg e]; simp [e]

set_option maxRecDepth 100000 in
set_option maxHeartbeats 2000000 in
theorem keep33_any (A : Option Addr) (c : Nat) (l : List Rw) (P : Rw → Bool) (c00 : Value) (w : World) (hl : LAt w A 6 rwL l) (hll : l.length ≤ 2199023255500)
    (hcl : ∀ x ∈ l, ∀ W : World, Below w.heap.size w W → Calls Try.prog 33 #[.agg #[.int .i64 x.off, .int .i64 x.prod, .bool x.tx, .string x.rc.key, .string x.rc.val, .bool x.rc.dead], c00] W fun e w' => e = .returned (.bool (P x)) ∧ Below W.heap.size W w') :
    Calls Try.prog 32 #[.slice A l.length c, .func (.func 33) #[] #[c00]] w fun e w' => ∃ A' c', e = .returned (.slice A' (l.filter P).length c') ∧
      w'.ownsRow w.heap.size 51 6 (.slice A' (l.filter P).length c') (l.filter P).length ((l.filter P).flatMap rwL) ∧ Below w.heap.size w w' := by
  obtain ⟨i0, hi0, hz0, hz1, hz2⟩ := info_parts info51
  replace hcl := Lib.hid hcl
  go_enter Try.func32, Try.ntmps32
  go_wp2_with fail
  go_loopw [5, 10] (fun v u wr => ∃ (i : Nat) (A1 : Option Addr) (c1 : Nat) (o : List Rw), v = .slice A1 o.length c1 ∧ u = .int .i64 i ∧ i ≤ l.length ∧ o.length ≤ i ∧ wr.ownsRow w.heap.size 51 6 (.slice A1 o.length c1) o.length (o.flatMap rwL) ∧ Hid (o = (l.take i).filter P) ∧ Below w.heap.size w wr) (fun _ u _ => l.length - (intOf u).toNat)
  case atStart => exact ⟨0, none, 0, [], rfl, rfl, Nat.zero_le _, Nat.le_refl _, World.ownsRow_nil _ _ _ _, Lib.hid rfl, Below.refl _ _⟩
  case round =>
    obtain ⟨i, A1, c1, o, rfl, rfl, hi, ho, hown, hO, hb⟩ := hrel
    by_cases hlt : i < l.length
    · obtain ⟨b, p, rfl, hbw, _⟩ := hl i hlt
      obtain ⟨b', p', hA', hbl, ca⟩ := (hl.below hb) i hlt
      cases hA'
      have hft := Lib.hid (filter_take P l i hlt)
      have hcx := hcl.out l[i] (List.getElem_mem hlt)
      replace hcx := Lib.hid hcx
      generalize l[i] = x at ca hft hcx
      have a0 : wr.cell? ⟨b, p + i * 6, none⟩ = some (.int .i64 x.off) := ca 0 _ rfl
      have a1 : wr.cell? ⟨b, p + i * 6 + 1, none⟩ = some (.int .i64 x.prod) := ca 1 _ rfl
      have a2 : wr.cell? ⟨b, p + i * 6 + 2, none⟩ = some (.bool x.tx) := ca 2 _ rfl
      have a3 : wr.cell? ⟨b, p + i * 6 + 3, none⟩ = some (.string x.rc.key) := ca 3 _ rfl
      have a4 : wr.cell? ⟨b, p + i * 6 + 4, none⟩ = some (.string x.rc.val) := ca 4 _ rfl
      have a5 : wr.cell? ⟨b, p + i * 6 + 5, none⟩ = some (.bool x.rc.dead) := ca 5 _ rfl
      have hbs := hb.size
      clear ca hl
      have hB1 := hown.alloc (.cells #[.int .i64 x.off, .int .i64 x.prod, .bool x.tx, .string x.rc.key, .string x.rc.val, .bool x.rc.dead] 51)
      cases hP : P x with
      | true =>
        have hO2 := Lib.hid (show o ++ [x] = (l.take (i + 1)).filter P by rw [hft.out, if_pos hP, ← hO.out])
        have hmm := Lib.hid (show (o ++ [x]).flatMap rwL = o.flatMap rwL ++ rwL x by rw [List.flatMap_append]; simp)
        rw [hP] at hcx
        clear hft hP hO
        go_wp2_with (first | (go_at_call 33; refine (hcx.out _ (bl_alloc hb _)).mono ?_; rintro e w2 ⟨rfl, hb2⟩; obtain ⟨hc2, hf2⟩ := bcell hb2; have hs2 : wr.heap.size < w2.heap.size := by (have := hb2.size; simp at this; omega)) | (at_builtin; refine wpList_append_srcT rfl _ _ 46 rfl w.heap.size 51 i0 _ 6 64 Try.underlying46 hi0 hz0 hz1 hz2 rfl (by omega) (.slice A1 o.length c1) o.length _ rfl ((ownsRow_below hB1 hb2).alloc _) (some ⟨w2.heap.size, 0, none⟩) 1 1 (rwL x) rfl (src_new w2 (rwL x) 51 1 6 rfl) (rwL_one x) (by simp only [maxLen]; omega) (by omega) (by simp; omega) ?_; intro A2 c2 w3 hown3 hg3))
        have hb3 := bl_own (bl_alloc (bl_tr (bl_alloc hb _) hb2) _) ((ownsRow_below hB1 hb2).alloc _) (Nat.le_refl _) hg3
        rw [← hmm.out] at hown3
        have hol : o.length + 1 = (o ++ [x]).length := by simp
        refine ⟨⟨i + 1, A2, c2, o ++ [x], by simp, by go_num, by omega, by simp; omega, by rw [← hol]; exact hown3, hO2, hb3⟩, by simp [intOf]; omega⟩
      | false =>
        have hO2 := Lib.hid (show o = (l.take (i + 1)).filter P by rw [hft.out, if_neg (by simp [hP]), ← hO.out]; simp)
        rw [hP] at hcx
        clear hft hP hO
        go_wp2_with (go_at_call 33; refine (hcx.out _ (bl_alloc hb _)).mono ?_; rintro e w2 ⟨rfl, hb2⟩)
        exact ⟨⟨i + 1, A1, c1, o, rfl, by go_num, by omega, by omega, ownsRow_below hB1 hb2, hO2, bl_tr (bl_alloc hb _) hb2⟩, by simp [intOf]; omega⟩
    · obtain rfl : i = l.length := by omega
      have hO2 := hO.out
      rw [List.take_length] at hO2
      go_wp2_with fail
      go_ret
      subst hO2
      exact ⟨A1, c1, rfl, hown, hb⟩

set_option maxRecDepth 100000 in
set_option maxHeartbeats 2000000 in
theorem keep36_any (A : Option Addr) (c : Nat) (l : List Rw) (P : Rw → Bool) (c00 c10 c20 c30 : Value) (w : World) (hl : LAt w A 6 rwL l) (hll : l.length ≤ 2199023255500)
    (hcl : ∀ x ∈ l, ∀ W : World, Below w.heap.size w W → Calls Try.prog 36 #[.agg #[.int .i64 x.off, .int .i64 x.prod, .bool x.tx, .string x.rc.key, .string x.rc.val, .bool x.rc.dead], c00, c10, c20, c30] W fun e w' => e = .returned (.bool (P x)) ∧ Below W.heap.size W w') :
    Calls Try.prog 32 #[.slice A l.length c, .func (.func 36) #[] #[c00, c10, c20, c30]] w fun e w' => ∃ A' c', e = .returned (.slice A' (l.filter P).length c') ∧
      w'.ownsRow w.heap.size 51 6 (.slice A' (l.filter P).length c') (l.filter P).length ((l.filter P).flatMap rwL) ∧ Below w.heap.size w w' := by
  obtain ⟨i0, hi0, hz0, hz1, hz2⟩ := info_parts info51
  replace hcl := Lib.hid hcl
  go_enter Try.func32, Try.ntmps32
  go_wp2_with fail
  go_loopw [5, 10] (fun v u wr => ∃ (i : Nat) (A1 : Option Addr) (c1 : Nat) (o : List Rw), v = .slice A1 o.length c1 ∧ u = .int .i64 i ∧ i ≤ l.length ∧ o.length ≤ i ∧ wr.ownsRow w.heap.size 51 6 (.slice A1 o.length c1) o.length (o.flatMap rwL) ∧ Hid (o = (l.take i).filter P) ∧ Below w.heap.size w wr) (fun _ u _ => l.length - (intOf u).toNat)
  case atStart => exact ⟨0, none, 0, [], rfl, rfl, Nat.zero_le _, Nat.le_refl _, World.ownsRow_nil _ _ _ _, Lib.hid rfl, Below.refl _ _⟩
  case round =>
    obtain ⟨i, A1, c1, o, rfl, rfl, hi, ho, hown, hO, hb⟩ := hrel
    by_cases hlt : i < l.length
    · obtain ⟨b, p, rfl, hbw, _⟩ := hl i hlt
      obtain ⟨b', p', hA', hbl, ca⟩ := (hl.below hb) i hlt
      cases hA'
      have hft := Lib.hid (filter_take P l i hlt)
      have hcx := hcl.out l[i] (List.getElem_mem hlt)
      replace hcx := Lib.hid hcx
      generalize l[i] = x at ca hft hcx
      have a0 : wr.cell? ⟨b, p + i * 6, none⟩ = some (.int .i64 x.off) := ca 0 _ rfl
      have a1 : wr.cell? ⟨b, p + i * 6 + 1, none⟩ = some (.int .i64 x.prod) := ca 1 _ rfl
      have a2 : wr.cell? ⟨b, p + i * 6 + 2, none⟩ = some (.bool x.tx) := ca 2 _ rfl
      have a3 : wr.cell? ⟨b, p + i * 6 + 3, none⟩ = some (.string x.rc.key) := ca 3 _ rfl
      have a4 : wr.cell? ⟨b, p + i * 6 + 4, none⟩ = some (.string x.rc.val) := ca 4 _ rfl
      have a5 : wr.cell? ⟨b, p + i * 6 + 5, none⟩ = some (.bool x.rc.dead) := ca 5 _ rfl
      have hbs := hb.size
      clear ca hl
      have hB1 := hown.alloc (.cells #[.int .i64 x.off, .int .i64 x.prod, .bool x.tx, .string x.rc.key, .string x.rc.val, .bool x.rc.dead] 51)
      cases hP : P x with
      | true =>
        have hO2 := Lib.hid (show o ++ [x] = (l.take (i + 1)).filter P by rw [hft.out, if_pos hP, ← hO.out])
        have hmm := Lib.hid (show (o ++ [x]).flatMap rwL = o.flatMap rwL ++ rwL x by rw [List.flatMap_append]; simp)
        rw [hP] at hcx
        clear hft hP hO
        go_wp2_with (first | (go_at_call 36; refine (hcx.out _ (bl_alloc hb _)).mono ?_; rintro e w2 ⟨rfl, hb2⟩; obtain ⟨hc2, hf2⟩ := bcell hb2; have hs2 : wr.heap.size < w2.heap.size := by (have := hb2.size; simp at this; omega)) | (at_builtin; refine wpList_append_srcT rfl _ _ 46 rfl w.heap.size 51 i0 _ 6 64 Try.underlying46 hi0 hz0 hz1 hz2 rfl (by omega) (.slice A1 o.length c1) o.length _ rfl ((ownsRow_below hB1 hb2).alloc _) (some ⟨w2.heap.size, 0, none⟩) 1 1 (rwL x) rfl (src_new w2 (rwL x) 51 1 6 rfl) (rwL_one x) (by simp only [maxLen]; omega) (by omega) (by simp; omega) ?_; intro A2 c2 w3 hown3 hg3))
        have hb3 := bl_own (bl_alloc (bl_tr (bl_alloc hb _) hb2) _) ((ownsRow_below hB1 hb2).alloc _) (Nat.le_refl _) hg3
        rw [← hmm.out] at hown3
        have hol : o.length + 1 = (o ++ [x]).length := by simp
        refine ⟨⟨i + 1, A2, c2, o ++ [x], by simp, by go_num, by omega, by simp; omega, by rw [← hol]; exact hown3, hO2, hb3⟩, by simp [intOf]; omega⟩
      | false =>
        have hO2 := Lib.hid (show o = (l.take (i + 1)).filter P by rw [hft.out, if_neg (by simp [hP]), ← hO.out]; simp)
        rw [hP] at hcx
        clear hft hP hO
        go_wp2_with (go_at_call 36; refine (hcx.out _ (bl_alloc hb _)).mono ?_; rintro e w2 ⟨rfl, hb2⟩)
        exact ⟨⟨i + 1, A1, c1, o, rfl, by go_num, by omega, by omega, ownsRow_below hB1 hb2, hO2, bl_tr (bl_alloc hb _) hb2⟩, by simp [intOf]; omega⟩
    · obtain rfl : i = l.length := by omega
      have hO2 := hO.out
      rw [List.take_length] at hO2
      go_wp2_with fail
      go_ret
      subst hO2
      exact ⟨A1, c1, rfl, hown, hb⟩

set_option maxRecDepth 100000 in
set_option maxHeartbeats 2000000 in
theorem keep43_any (A : Option Addr) (c : Nat) (l : List Rw) (P : Rw → Bool) (c00 c10 c20 : Value) (w : World) (hl : LAt w A 6 rwL l) (hll : l.length ≤ 2199023255500)
    (hcl : ∀ x ∈ l, ∀ W : World, Below w.heap.size w W → Calls Try.prog 43 #[.agg #[.int .i64 x.off, .int .i64 x.prod, .bool x.tx, .string x.rc.key, .string x.rc.val, .bool x.rc.dead], c00, c10, c20] W fun e w' => e = .returned (.bool (P x)) ∧ Below W.heap.size W w') :
    Calls Try.prog 32 #[.slice A l.length c, .func (.func 43) #[] #[c00, c10, c20]] w fun e w' => ∃ A' c', e = .returned (.slice A' (l.filter P).length c') ∧
      w'.ownsRow w.heap.size 51 6 (.slice A' (l.filter P).length c') (l.filter P).length ((l.filter P).flatMap rwL) ∧ Below w.heap.size w w' := by
  obtain ⟨i0, hi0, hz0, hz1, hz2⟩ := info_parts info51
  replace hcl := Lib.hid hcl
  go_enter Try.func32, Try.ntmps32
  go_wp2_with fail
  go_loopw [5, 10] (fun v u wr => ∃ (i : Nat) (A1 : Option Addr) (c1 : Nat) (o : List Rw), v = .slice A1 o.length c1 ∧ u = .int .i64 i ∧ i ≤ l.length ∧ o.length ≤ i ∧ wr.ownsRow w.heap.size 51 6 (.slice A1 o.length c1) o.length (o.flatMap rwL) ∧ Hid (o = (l.take i).filter P) ∧ Below w.heap.size w wr) (fun _ u _ => l.length - (intOf u).toNat)
  case atStart => exact ⟨0, none, 0, [], rfl, rfl, Nat.zero_le _, Nat.le_refl _, World.ownsRow_nil _ _ _ _, Lib.hid rfl, Below.refl _ _⟩
  case round =>
    obtain ⟨i, A1, c1, o, rfl, rfl, hi, ho, hown, hO, hb⟩ := hrel
    by_cases hlt : i < l.length
    · obtain ⟨b, p, rfl, hbw, _⟩ := hl i hlt
      obtain ⟨b', p', hA', hbl, ca⟩ := (hl.below hb) i hlt
      cases hA'
      have hft := Lib.hid (filter_take P l i hlt)
      have hcx := hcl.out l[i] (List.getElem_mem hlt)
      replace hcx := Lib.hid hcx
      generalize l[i] = x at ca hft hcx
      have a0 : wr.cell? ⟨b, p + i * 6, none⟩ = some (.int .i64 x.off) := ca 0 _ rfl
      have a1 : wr.cell? ⟨b, p + i * 6 + 1, none⟩ = some (.int .i64 x.prod) := ca 1 _ rfl
      have a2 : wr.cell? ⟨b, p + i * 6 + 2, none⟩ = some (.bool x.tx) := ca 2 _ rfl
      have a3 : wr.cell? ⟨b, p + i * 6 + 3, none⟩ = some (.string x.rc.key) := ca 3 _ rfl
      have a4 : wr.cell? ⟨b, p + i * 6 + 4, none⟩ = some (.string x.rc.val) := ca 4 _ rfl
      have a5 : wr.cell? ⟨b, p + i * 6 + 5, none⟩ = some (.bool x.rc.dead) := ca 5 _ rfl
      have hbs := hb.size
      clear ca hl
      have hB1 := hown.alloc (.cells #[.int .i64 x.off, .int .i64 x.prod, .bool x.tx, .string x.rc.key, .string x.rc.val, .bool x.rc.dead] 51)
      cases hP : P x with
      | true =>
        have hO2 := Lib.hid (show o ++ [x] = (l.take (i + 1)).filter P by rw [hft.out, if_pos hP, ← hO.out])
        have hmm := Lib.hid (show (o ++ [x]).flatMap rwL = o.flatMap rwL ++ rwL x by rw [List.flatMap_append]; simp)
        rw [hP] at hcx
        clear hft hP hO
        go_wp2_with (first | (go_at_call 43; refine (hcx.out _ (bl_alloc hb _)).mono ?_; rintro e w2 ⟨rfl, hb2⟩; obtain ⟨hc2, hf2⟩ := bcell hb2; have hs2 : wr.heap.size < w2.heap.size := by (have := hb2.size; simp at this; omega)) | (at_builtin; refine wpList_append_srcT rfl _ _ 46 rfl w.heap.size 51 i0 _ 6 64 Try.underlying46 hi0 hz0 hz1 hz2 rfl (by omega) (.slice A1 o.length c1) o.length _ rfl ((ownsRow_below hB1 hb2).alloc _) (some ⟨w2.heap.size, 0, none⟩) 1 1 (rwL x) rfl (src_new w2 (rwL x) 51 1 6 rfl) (rwL_one x) (by simp only [maxLen]; omega) (by omega) (by simp; omega) ?_; intro A2 c2 w3 hown3 hg3))
        have hb3 := bl_own (bl_alloc (bl_tr (bl_alloc hb _) hb2) _) ((ownsRow_below hB1 hb2).alloc _) (Nat.le_refl _) hg3
        rw [← hmm.out] at hown3
        have hol : o.length + 1 = (o ++ [x]).length := by simp
        refine ⟨⟨i + 1, A2, c2, o ++ [x], by simp, by go_num, by omega, by simp; omega, by rw [← hol]; exact hown3, hO2, hb3⟩, by simp [intOf]; omega⟩
      | false =>
        have hO2 := Lib.hid (show o = (l.take (i + 1)).filter P by rw [hft.out, if_neg (by simp [hP]), ← hO.out]; simp)
        rw [hP] at hcx
        clear hft hP hO
        go_wp2_with (go_at_call 43; refine (hcx.out _ (bl_alloc hb _)).mono ?_; rintro e w2 ⟨rfl, hb2⟩)
        exact ⟨⟨i + 1, A1, c1, o, rfl, by go_num, by omega, by omega, ownsRow_below hB1 hb2, hO2, bl_tr (bl_alloc hb _) hb2⟩, by simp [intOf]; omega⟩
    · obtain rfl : i = l.length := by omega
      have hO2 := hO.out
      rw [List.take_length] at hO2
      go_wp2_with fail
      go_ret
      subst hO2
      exact ⟨A1, c1, rfl, hown, hb⟩

set_option maxRecDepth 100000 in
set_option maxHeartbeats 2000000 in
theorem keep35_any (A : Option Addr) (c : Nat) (l : List Gn) (P : Gn → Bool) (c00 : Value) (w : World) (hl : LAt w A 3 gnL l) (hll : l.length ≤ 5864062014800)
    (hcl : ∀ x ∈ l, ∀ W : World, Below w.heap.size w W → Calls Try.prog 35 #[.agg #[.int .i64 x.prod, .int .i64 x.first, .int .i64 x.last], c00] W fun e w' => e = .returned (.bool (P x)) ∧ Below W.heap.size W w') :
    Calls Try.prog 34 #[.slice A l.length c, .func (.func 35) #[] #[c00]] w fun e w' => ∃ A' c', e = .returned (.slice A' (l.filter P).length c') ∧
      w'.ownsRow w.heap.size 79 3 (.slice A' (l.filter P).length c') (l.filter P).length ((l.filter P).flatMap gnL) ∧ Below w.heap.size w w' := by
  obtain ⟨i0, hi0, hz0, hz1, hz2⟩ := info_parts info79
  replace hcl := Lib.hid hcl
  go_enter Try.func34, Try.ntmps34
  go_wp2_with fail
  go_loopw [5, 10] (fun v u wr => ∃ (i : Nat) (A1 : Option Addr) (c1 : Nat) (o : List Gn), v = .slice A1 o.length c1 ∧ u = .int .i64 i ∧ i ≤ l.length ∧ o.length ≤ i ∧ wr.ownsRow w.heap.size 79 3 (.slice A1 o.length c1) o.length (o.flatMap gnL) ∧ Hid (o = (l.take i).filter P) ∧ Below w.heap.size w wr) (fun _ u _ => l.length - (intOf u).toNat)
  case atStart => exact ⟨0, none, 0, [], rfl, rfl, Nat.zero_le _, Nat.le_refl _, World.ownsRow_nil _ _ _ _, Lib.hid rfl, Below.refl _ _⟩
  case round =>
    obtain ⟨i, A1, c1, o, rfl, rfl, hi, ho, hown, hO, hb⟩ := hrel
    by_cases hlt : i < l.length
    · obtain ⟨b, p, rfl, hbw, _⟩ := hl i hlt
      obtain ⟨b', p', hA', hbl, ca⟩ := (hl.below hb) i hlt
      cases hA'
      have hft := Lib.hid (filter_take P l i hlt)
      have hcx := hcl.out l[i] (List.getElem_mem hlt)
      replace hcx := Lib.hid hcx
      generalize l[i] = x at ca hft hcx
      have a0 : wr.cell? ⟨b, p + i * 3, none⟩ = some (.int .i64 x.prod) := ca 0 _ rfl
      have a1 : wr.cell? ⟨b, p + i * 3 + 1, none⟩ = some (.int .i64 x.first) := ca 1 _ rfl
      have a2 : wr.cell? ⟨b, p + i * 3 + 2, none⟩ = some (.int .i64 x.last) := ca 2 _ rfl
      have hbs := hb.size
      clear ca hl
      have hB1 := hown.alloc (.cells #[.int .i64 x.prod, .int .i64 x.first, .int .i64 x.last] 79)
      cases hP : P x with
      | true =>
        have hO2 := Lib.hid (show o ++ [x] = (l.take (i + 1)).filter P by rw [hft.out, if_pos hP, ← hO.out])
        have hmm := Lib.hid (show (o ++ [x]).flatMap gnL = o.flatMap gnL ++ gnL x by rw [List.flatMap_append]; simp)
        rw [hP] at hcx
        clear hft hP hO
        go_wp2_with (first | (go_at_call 35; refine (hcx.out _ (bl_alloc hb _)).mono ?_; rintro e w2 ⟨rfl, hb2⟩; obtain ⟨hc2, hf2⟩ := bcell hb2; have hs2 : wr.heap.size < w2.heap.size := by (have := hb2.size; simp at this; omega)) | (at_builtin; refine wpList_append_srcT rfl _ _ 60 rfl w.heap.size 79 i0 _ 3 24 Try.underlying60 hi0 hz0 hz1 hz2 rfl (by omega) (.slice A1 o.length c1) o.length _ rfl ((ownsRow_below hB1 hb2).alloc _) (some ⟨w2.heap.size, 0, none⟩) 1 1 (gnL x) rfl (src_new w2 (gnL x) 79 1 3 rfl) (gnL_one x) (by simp only [maxLen]; omega) (by omega) (by simp; omega) ?_; intro A2 c2 w3 hown3 hg3))
        have hb3 := bl_own (bl_alloc (bl_tr (bl_alloc hb _) hb2) _) ((ownsRow_below hB1 hb2).alloc _) (Nat.le_refl _) hg3
        rw [← hmm.out] at hown3
        have hol : o.length + 1 = (o ++ [x]).length := by simp
        refine ⟨⟨i + 1, A2, c2, o ++ [x], by simp, by go_num, by omega, by simp; omega, by rw [← hol]; exact hown3, hO2, hb3⟩, by simp [intOf]; omega⟩
      | false =>
        have hO2 := Lib.hid (show o = (l.take (i + 1)).filter P by rw [hft.out, if_neg (by simp [hP]), ← hO.out]; simp)
        rw [hP] at hcx
        clear hft hP hO
        go_wp2_with (go_at_call 35; refine (hcx.out _ (bl_alloc hb _)).mono ?_; rintro e w2 ⟨rfl, hb2⟩)
        exact ⟨⟨i + 1, A1, c1, o, rfl, by go_num, by omega, by omega, ownsRow_below hB1 hb2, hO2, bl_tr (bl_alloc hb _) hb2⟩, by simp [intOf]; omega⟩
    · obtain rfl : i = l.length := by omega
      have hO2 := hO.out
      rw [List.take_length] at hO2
      go_wp2_with fail
      go_ret
      subst hO2
      exact ⟨A1, c1, rfl, hown, hb⟩

set_option maxRecDepth 100000 in
set_option maxHeartbeats 1000000 in
theorem cloneR_any (A : Option Addr) (c : Nat) (l : List Rw) (w : World) (hl : LAt w A 6 rwL l) (hll : l.length ≤ 2199023255500) :
    Calls Try.prog 38 #[.slice A l.length c] w fun e w' => ∃ A' c', e = .returned (.slice A' l.length c') ∧ w'.ownsRow w.heap.size 51 6 (.slice A' l.length c') l.length (l.flatMap rwL) ∧ Below w.heap.size w w' := by
  obtain ⟨i0, hi0, hz0, hz1, hz2⟩ := info_parts info51
  cases A with
  | none =>
    have hn0 : l = [] := List.eq_nil_iff_length_eq_zero.2 (by
      cases Nat.eq_zero_or_pos l.length with
      | inl h => exact h
      | inr h => obtain ⟨b, o, e, _⟩ := hl 0 h; cases e)
    subst hn0
    have hn : ∀ (n c : Nat) (w : World), (binOp .eql 46 (.slice none n c) (.slice none 0 0)).run Try.prog w = .ok (.bool true) w := fun n c w => Lib.run_eql_slice_nil w 46 51 none n c 0 0 Try.underlying46
    go_enter Try.func38, Try.ntmps38
    go_wp2_with fail
    go_ret
    exact ⟨none, 0, rfl, World.ownsRow_nil _ _ _ _, Below.refl _ _⟩
  | some a =>
    have hn : ∀ (n c : Nat) (w : World), (binOp .eql 46 (.slice (some a) n c) (.slice none 0 0)).run Try.prog w = .ok (.bool false) w := fun n c w => Lib.run_eql_slice_nil w 46 51 (some a) n c 0 0 Try.underlying46
    go_enter Try.func38, Try.ntmps38
    go_wp2_with (at_builtin; refine wpList_append_srcT rfl _ _ 46 rfl w.heap.size 51 i0 _ 6 64 Try.underlying46 hi0 hz0 hz1 hz2 rfl (by omega) (.slice (some ⟨w.heap.size, 0, none⟩) 0 0) 0 [] rfl (ownsRow_empty w 51 6 w.heap.size (Nat.le_refl _)) (some a) l.length c (l.flatMap rwL) rfl ((hl.below (bl_alloc (Below.refl _ _) _)).src rwL_len (by omega)) (flat_one rwL_one l) (by simp only [maxLen]; omega) (by omega) (by simp) ?_; intro A2 c2 w3 hown3 hg3)
    have hb3 := bl_own (bl_alloc (Below.refl _ _) _) (ownsRow_empty w 51 6 w.heap.size (Nat.le_refl _)) (Nat.le_refl _) hg3
    simp only [Nat.zero_add, List.nil_append] at hown3 ⊢
    go_ret
    exact ⟨A2, c2, rfl, hown3, hb3⟩

set_option maxRecDepth 100000 in
set_option maxHeartbeats 1000000 in
theorem cloneT_any (A : Option Addr) (c : Nat) (l : List Tx) (w : World) (hl : LAt w A 2 txL l) (hll : l.length ≤ 8796093022200) :
    Calls Try.prog 39 #[.slice A l.length c] w fun e w' => ∃ A' c', e = .returned (.slice A' l.length c') ∧ w'.ownsRow w.heap.size 82 2 (.slice A' l.length c') l.length (l.flatMap txL) ∧ Below w.heap.size w w' := by
  obtain ⟨i0, hi0, hz0, hz1, hz2⟩ := info_parts info82
  cases A with
  | none =>
    have hn0 : l = [] := List.eq_nil_iff_length_eq_zero.2 (by
      cases Nat.eq_zero_or_pos l.length with
      | inl h => exact h
      | inr h => obtain ⟨b, o, e, _⟩ := hl 0 h; cases e)
    subst hn0
    have hn : ∀ (n c : Nat) (w : World), (binOp .eql 58 (.slice none n c) (.slice none 0 0)).run Try.prog w = .ok (.bool true) w := fun n c w => Lib.run_eql_slice_nil w 58 82 none n c 0 0 Try.underlying58
    go_enter Try.func39, Try.ntmps39
    go_wp2_with fail
    go_ret
    exact ⟨none, 0, rfl, World.ownsRow_nil _ _ _ _, Below.refl _ _⟩
  | some a =>
    have hn : ∀ (n c : Nat) (w : World), (binOp .eql 58 (.slice (some a) n c) (.slice none 0 0)).run Try.prog w = .ok (.bool false) w := fun n c w => Lib.run_eql_slice_nil w 58 82 (some a) n c 0 0 Try.underlying58
    go_enter Try.func39, Try.ntmps39
    go_wp2_with (at_builtin; refine wpList_append_srcT rfl _ _ 58 rfl w.heap.size 82 i0 _ 2 16 Try.underlying58 hi0 hz0 hz1 hz2 rfl (by omega) (.slice (some ⟨w.heap.size, 0, none⟩) 0 0) 0 [] rfl (ownsRow_empty w 82 2 w.heap.size (Nat.le_refl _)) (some a) l.length c (l.flatMap txL) rfl ((hl.below (bl_alloc (Below.refl _ _) _)).src txL_len (by omega)) (flat_one txL_one l) (by simp only [maxLen]; omega) (by omega) (by simp) ?_; intro A2 c2 w3 hown3 hg3)
    have hb3 := bl_own (bl_alloc (Below.refl _ _) _) (ownsRow_empty w 82 2 w.heap.size (Nat.le_refl _)) (Nat.le_refl _) hg3
    simp only [Nat.zero_add, List.nil_append] at hown3 ⊢
    go_ret
    exact ⟨A2, c2, rfl, hown3, hb3⟩

set_option maxRecDepth 100000 in
set_option maxHeartbeats 1000000 in
theorem cloneG_any (A : Option Addr) (c : Nat) (l : List Gn) (w : World) (hl : LAt w A 3 gnL l) (hll : l.length ≤ 5864062014800) :
    Calls Try.prog 40 #[.slice A l.length c] w fun e w' => ∃ A' c', e = .returned (.slice A' l.length c') ∧ w'.ownsRow w.heap.size 79 3 (.slice A' l.length c') l.length (l.flatMap gnL) ∧ Below w.heap.size w w' := by
  obtain ⟨i0, hi0, hz0, hz1, hz2⟩ := info_parts info79
  cases A with
  | none =>
    have hn0 : l = [] := List.eq_nil_iff_length_eq_zero.2 (by
      cases Nat.eq_zero_or_pos l.length with
      | inl h => exact h
      | inr h => obtain ⟨b, o, e, _⟩ := hl 0 h; cases e)
    subst hn0
    have hn : ∀ (n c : Nat) (w : World), (binOp .eql 60 (.slice none n c) (.slice none 0 0)).run Try.prog w = .ok (.bool true) w := fun n c w => Lib.run_eql_slice_nil w 60 79 none n c 0 0 Try.underlying60
    go_enter Try.func40, Try.ntmps40
    go_wp2_with fail
    go_ret
    exact ⟨none, 0, rfl, World.ownsRow_nil _ _ _ _, Below.refl _ _⟩
  | some a =>
    have hn : ∀ (n c : Nat) (w : World), (binOp .eql 60 (.slice (some a) n c) (.slice none 0 0)).run Try.prog w = .ok (.bool false) w := fun n c w => Lib.run_eql_slice_nil w 60 79 (some a) n c 0 0 Try.underlying60
    go_enter Try.func40, Try.ntmps40
    go_wp2_with (at_builtin; refine wpList_append_srcT rfl _ _ 60 rfl w.heap.size 79 i0 _ 3 24 Try.underlying60 hi0 hz0 hz1 hz2 rfl (by omega) (.slice (some ⟨w.heap.size, 0, none⟩) 0 0) 0 [] rfl (ownsRow_empty w 79 3 w.heap.size (Nat.le_refl _)) (some a) l.length c (l.flatMap gnL) rfl ((hl.below (bl_alloc (Below.refl _ _) _)).src gnL_len (by omega)) (flat_one gnL_one l) (by simp only [maxLen]; omega) (by omega) (by simp) ?_; intro A2 c2 w3 hown3 hg3)
    have hb3 := bl_own (bl_alloc (Below.refl _ _) _) (ownsRow_empty w 79 3 w.heap.size (Nat.le_refl _)) (Nat.le_refl _) hg3
    simp only [Nat.zero_add, List.nil_append] at hown3 ⊢
    go_ret
    exact ⟨A2, c2, rfl, hown3, hb3⟩
end Go.Proofs.Ytejjiiakficafaa
