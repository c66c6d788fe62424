/- slices.Insert of one pair into a row of the call's own. -/
import Derived.Test.YtjokpjfmnjefdaaCp
namespace Go.Proofs.Ytjokpjfmnjefdaa
open Go.RowKit Go.Shelf
attribute [local go_sem] Oper.semAt_some

set_option maxRecDepth 100000 in
set_option maxHeartbeats 400000 in
theorem insert_end (A : Option Addr) (c base vb : Nat) (l : List Pr) (p : Pr) (w : World) (hown : w.ownsRow base 56 3 (.slice A l.length c) l.length (l.flatMap prL)) (hv : Cel w vb (prL p)) (hll : l.length < 3518437208800) (hbase : base ≤ w.heap.size) :
    Calls Try.prog 49 #[.slice A l.length c, .int .i64 l.length, .slice (some ⟨vb, 0, none⟩) 1 1] w fun e w' => ∃ A' c', e = .returned (.slice A' (l.length + 1) c') ∧ w'.ownsRow base 56 3 (.slice A' (l.length + 1) c') (l.length + 1) ((l ++ [p]).flatMap prL) ∧ Below base w w' := by
  obtain ⟨i0, hi0, hz0, hz1, hz2⟩ := info_parts info56
  have hcap := ownsRow_cap hown
  have hsrc : SrcAt w (some ⟨vb, 0, none⟩) 1 3 (prL p) := ⟨rfl, fun _ => ⟨_, rfl, fun j u hu => by rw [Addr.add_mid, Nat.zero_add]; exact (hv.cell j).trans hu⟩⟩
  have hfl : (l ++ [p]).flatMap prL = l.flatMap prL ++ prL p := by rw [List.flatMap_append]; simp
  generalize (l ++ [p]).flatMap prL = RES at hfl ⊢
  replace hfl := Lib.hid hfl
  go_enter Try.func49, Try.ntmps49
  go_wp2_with (at_builtin; refine wpList_append_srcT rfl (.tmp 23) (.tmp 24) 26 rfl base 56 i0 _ 3 40 Try.underlying26 hi0 hz0 hz1 hz2 rfl (by omega) (.slice A l.length c) l.length _ rfl hown (some ⟨vb, 0, none⟩) 1 1 (prL p) rfl hsrc (prL_one p) (by simp only [maxLen]; omega) (by omega) hbase ?_; intro A2 c2 w2 hown2 hg2)
  all_goals
    go_wp2_with fail
    go_ret
    rw [← hfl.out] at hown2
    exact ⟨A2, c2, rfl, hown2, (Below.refl _ _).grown hg2 hbase (fun g e => ownsRow_base hown e)⟩

theorem gr_drew' {a w : World} {row : Option Nat} (h : a.drew.grownBy w row) : a.grownBy w row := ⟨h.os, h.tape, h.output, h.size, h.block⟩
theorem isz56 (w : World) : (sizeOf 56).run Try.prog w = .ok 3 w := by kernel_rfl

set_option maxRecDepth 100000 in
set_option maxHeartbeats 1000000 in
theorem insert_shift (g c base vb i : Nat) (l : List Pr) (p : Pr) (cur : List Value) (w : World) (hC : Cel w g cur) (hl3 : cur.length = c * 3) (hct : cur.take (l.length * 3) = l.flatMap prL) (hc1 : l.length + 1 ≤ c) (hcm : c ≤ maxLen) (hv : Cel w vb (prL p)) (hne : vb ≠ g) (hi : i < l.length) (hll : l.length < 3518437208800) (hbg : base ≤ g) :
    Calls Try.prog 49 #[.slice (some ⟨g, 0, none⟩) l.length c, .int .i64 i, .slice (some ⟨vb, 0, none⟩) 1 1] w fun e w' => e = .returned (.slice (some ⟨g, 0, none⟩) (l.length + 1) c) ∧ w'.ownsRow base 56 3 (.slice (some ⟨g, 0, none⟩) (l.length + 1) c) (l.length + 1) ((l.take i ++ [p] ++ l.drop i).flatMap prL) ∧ Below base w w' := by
  have hsg : w.shape? g = some (56, cur.length) := by unfold World.shape?; rw [show w.heap[g]? = _ from hC]; simp
  have hsv : w.shape? vb = some (56, 3) := by unfold World.shape?; rw [show w.heap[vb]? = _ from hv]; rfl
  have hov : ∀ o lb cb, (callFunc 62 #[.slice (some ⟨vb, 0, none⟩) 1 1, .slice (some ⟨g, o, none⟩) lb cb]).run Try.prog w = .ok (.value (.bool false)) w := fun o lb cb => by
    rw [run_callFunc_extern Try.func62 (by kernel_rfl) (by kernel_rfl) (by kernel_rfl) (e := Extern.SlicesOverlaps.overlaps #[26, 26] #[4]) (by kernel_rfl),
      Lib.run_overlaps_apart w 26 4 56 Try.underlying26 3 isz56 ⟨vb, 0, none⟩ ⟨g, o, none⟩ 1 1 lb cb hne 56 56 3 cur.length hsv hsg (by omega) (hv.unf 0) (hv.unf 3)]
    rfl
  unfold maxLen at hcm
  have hin : ((i : Int) == (l.length : Int)) = false := by simp; omega
  have hroom : ¬ (c : Int) < (l.length : Int) + 1 := by omega
  have hci : ¬ c = i + 1 := by omega
  have hci2 : ¬ c = i := by omega
  have hflat : ∀ j u, ((l.drop i).flatMap prL)[j]? = some u → cur[i * 3 + j]? = some u := fun j u hu => by
    have e : (l.drop i).flatMap prL = (cur.take (l.length * 3)).drop (i * 3) := by
      rw [hct]
      conv => rhs; rw [← List.take_append_drop i l, List.flatMap_append]
      rw [List.drop_left' (by rw [flat_length prL_len, List.length_take]; omega)]
    rw [e, List.getElem?_drop, List.getElem?_take] at hu
    split at hu
    · exact hu
    · cases hu
  have hXl : ((l.drop i).flatMap prL).length = (l.length - i) * 3 := by rw [flat_length prL_len, List.length_drop]
  have hCd : Cel w.drew g cur := hC
  have hsrcX : 0 < l.length - i → (some ⟨g, (i + 1) * 3, none⟩ : Option Addr) = some ⟨g, (i + 1) * 3, none⟩ ∧ ∃ ad, (some ⟨g, i * 3, none⟩ : Option Addr) = some ad ∧ ∀ j v, ((l.drop i).flatMap prL)[j]? = some v → w.drew.cell? (ad.add j) = some v := fun _ =>
    ⟨rfl, _, rfl, fun j u hu => by rw [Addr.add_mid]; exact (hCd.cell _).trans (hflat j u hu)⟩
  have hnn : l.length - i = Nat.min (l.length + 1 - i) (l.length - i) := by simp only [Nat.min_def]; split <;> omega
  have hone : ∀ v ∈ (l.drop i).flatMap prL, v.oneCell' = true := flat_one prL_one _
  have hfit : (i + 1) * 3 + (l.length - i) * 3 ≤ cur.length := by omega
  have hlen2 : (splice cur ((i + 1) * 3) ((l.drop i).flatMap prL)).length = c * 3 := by rw [length_splice _ _ _ (by rw [hXl]; exact hfit), hl3]
  have hfin : (splice (splice cur ((i + 1) * 3) ((l.drop i).flatMap prL)) (i * 3) (prL p)).take ((l.length + 1) * 3) = (l.take i ++ [p] ++ l.drop i).flatMap prL := by
    have e0 : cur.take (i * 3) = (l.take i).flatMap prL := by
      have := congrArg (fun z => z.take (i * 3)) hct
      simp only [List.take_take] at this
      rw [show min (i * 3) (l.length * 3) = i * 3 from by simp only [Nat.min_def]; split <;> omega] at this
      rw [this]
      conv => lhs; rw [← List.take_append_drop i l, List.flatMap_append]
      rw [List.take_left' (by rw [flat_length prL_len, List.length_take]; omega)]
    have l0 : ((l.take i).flatMap prL).length = i * 3 := by rw [flat_length prL_len, List.length_take]; omega
    have e1 : splice (splice cur ((i + 1) * 3) ((l.drop i).flatMap prL)) (i * 3) (prL p) = (l.take i).flatMap prL ++ (prL p ++ ((l.drop i).flatMap prL ++ cur.drop ((i + 1) * 3 + (l.length - i) * 3))) := by
      unfold splice
      rw [hXl, prL_len]
      rw [List.take_append_of_le_length (by rw [List.length_take]; omega), List.take_take, show min (i * 3) ((i + 1) * 3) = i * 3 from by simp only [Nat.min_def]; split <;> omega, e0]
      congr 2
      rw [List.drop_left' (by rw [List.length_take]; omega)]
    rw [e1, ← List.append_assoc, ← List.append_assoc, List.take_left' (by simp only [List.length_append, l0, hXl, prL_len]; omega)]
    simp only [List.flatMap_append, List.flatMap_cons, List.flatMap_nil, List.append_nil, List.append_assoc]
  clear hflat
  generalize (l.take i ++ [p] ++ l.drop i).flatMap prL = RES at hfin ⊢
  clear hct
  generalize (l.drop i).flatMap prL = X at *
  clear hsg hsv
  replace hl3 := Lib.hid hl3
  replace hXl := Lib.hid hXl
  replace hnn := Lib.hid hnn
  replace hone := Lib.hid hone
  replace hfin := Lib.hid hfin
  replace hlen2 := Lib.hid hlen2
  replace hsrcX := Lib.hid hsrcX
  replace hCd := Lib.hid hCd
  replace hfit := Lib.hid hfit
  replace hC := Lib.hid hC
  replace hv := Lib.hid hv
  go_enter Try.func49, Try.ntmps49
  go_wp2_with fail
  replace hov := Lib.hid hov
  refine wpAnyH.region rfl (fun w' => True) ?_
  refine wpAnyH.takeT (i := 0) (t := 69) (v := .slice (some ⟨g, 0, none⟩) (l.length + 1) c) rfl rfl (by decide +kernel) (by decide +kernel) (by decide +kernel) (fun _ _ _ h => h.elim) (.inl ⟨rfl, fun w' hS => ?_⟩) trivial ?_
  · go_simp
    all_goals first | (rw [IntKind.wrap_i64] <;> omega) | (intro hh; exfalso; omega)
  try simp only [List.setIfInBounds_toArray, List.set_cons_zero, List.set_cons_succ]
  refine wpAnyH.takeT (i := 1) (t := 70) (v := .int .i64 i) rfl rfl (by decide +kernel) (by decide +kernel) (by decide +kernel) (fun _ _ _ h => h.elim) (.inl ⟨rfl, fun w' hS => ?_⟩) trivial ?_
  · go_simp
    all_goals first | (rw [IntKind.wrap_i64] <;> omega) | (intro hh; exfalso; omega)
  try simp only [List.setIfInBounds_toArray, List.set_cons_zero, List.set_cons_succ]
  refine wpAnyH.takeT (i := 2) (t := 71) (v := .int .i64 1) rfl rfl (by decide +kernel) (by decide +kernel) (by decide +kernel) (fun _ _ _ h => h.elim) (.inl ⟨rfl, fun w' hS => ?_⟩) trivial ?_
  · go_simp
    all_goals first | (rw [IntKind.wrap_i64] <;> omega) | (intro hh; exfalso; omega)
  try simp only [List.setIfInBounds_toArray, List.set_cons_zero, List.set_cons_succ]
  refine wpAnyH.takeT (i := 3) (t := 72) (v := .int .i64 (i + 1)) rfl rfl (by decide +kernel) (by decide +kernel) (by decide +kernel) (fun _ _ _ h => h.elim) (.inl ⟨rfl, fun w' hS => ?_⟩) trivial ?_
  · go_simp
    all_goals first | (rw [IntKind.wrap_i64] <;> omega) | (intro hh; exfalso; omega)
  try simp only [List.setIfInBounds_toArray, List.set_cons_zero, List.set_cons_succ]
  refine wpAnyH.takeT (i := 4) (t := 73) (v := .slice (some ⟨g, (i + 1) * 3, none⟩) (l.length - i) (c - (i + 1))) rfl rfl (by decide +kernel) (by decide +kernel) (by decide +kernel) (fun _ _ _ h => h.elim) (.inl ⟨rfl, fun w' hS => ?_⟩) trivial ?_
  · go_simp
    all_goals first | (rw [IntKind.wrap_i64] <;> omega) | (intro hh; exfalso; omega)
  try simp only [List.setIfInBounds_toArray, List.set_cons_zero, List.set_cons_succ]
  refine wpAnyH.takeT (i := 5) (t := 74) (v := .slice (some ⟨g, 0, none⟩) (l.length + 1) c) rfl rfl (by decide +kernel) (by decide +kernel) (by decide +kernel) (fun _ _ _ h => h.elim) (.inl ⟨rfl, fun w' hS => ?_⟩) trivial ?_
  · go_simp
    all_goals first | (rw [IntKind.wrap_i64] <;> omega) | (intro hh; exfalso; omega)
  try simp only [List.setIfInBounds_toArray, List.set_cons_zero, List.set_cons_succ]
  refine wpAnyH.takeT (i := 6) (t := 75) (v := .int .i64 i) rfl rfl (by decide +kernel) (by decide +kernel) (by decide +kernel) (fun _ _ _ h => h.elim) (.inl ⟨rfl, fun w' hS => ?_⟩) trivial ?_
  · go_simp
    all_goals first | (rw [IntKind.wrap_i64] <;> omega) | (intro hh; exfalso; omega)
  try simp only [List.setIfInBounds_toArray, List.set_cons_zero, List.set_cons_succ]
  refine wpAnyH.takeT (i := 7) (t := 76) (v := .slice (some ⟨g, i * 3, none⟩) (l.length + 1 - i) (c - i)) rfl rfl (by decide +kernel) (by decide +kernel) (by decide +kernel) (fun _ _ _ h => h.elim) (.inl ⟨rfl, fun w' hS => ?_⟩) trivial ?_
  · go_simp
    all_goals first | (rw [IntKind.wrap_i64] <;> omega) | (intro hh; exfalso; omega)
  try simp only [List.setIfInBounds_toArray, List.set_cons_zero, List.set_cons_succ]
  refine wpAnyH.one (i := 8) (by decide +kernel) rfl rfl ?_
  refine wp_copyX (.tmp 73) (.tmp 76) rfl 77 rfl (some ⟨g, (i + 1) * 3, none⟩) (some ⟨g, i * 3, none⟩) (l.length - i) (c - (i + 1)) (l.length + 1 - i) (c - i) rfl rfl g ((i + 1) * 3) (l.length - i) cur X hnn.out hXl.out (fun h => ⟨rfl, (hsrcX.out h).2⟩) hCd.out hfit.out hone.out ?_
  intro w2 hC2 hg2
  refine ⟨trivial, ?_⟩
  try simp only [List.setIfInBounds_toArray, List.set_cons_zero, List.set_cons_succ]
  refine wpAnyH_done (by decide +kernel) ?_ _
  refine NoPanic.normal ?_
  have hv2 : Cel w2 vb (prL p) := hv.out.kept (hg2.block vb hv.out.lt (by simp; exact hne))
  replace hv2 := Lib.hid hv2
  go_wp2_with (refine wpList_copyX rfl (.tmp 80) (.tmp 81) rfl 82 rfl (some ⟨g, i * 3, none⟩) (some ⟨vb, 0, none⟩) (l.length + 1 - i) (c - i) 1 1 rfl rfl g (i * 3) 1 _ (prL p) ?hnb rfl ?hdb hC2 ?hfb (prL_one p) ?nxb; case' nxb => intro w3 hC3 hg3)
  case hnb => simp only [Nat.min_def]; split <;> omega
  case hdb => exact fun j u hu => (hv2.out.cell j).trans hu
  case hfb => rw [hlen2.out]; omega
  go_wp2_with fail
  go_ret
  have hb3 : Below base w w3 := ((Below.refl base w).grown (gr_drew' hg2) (by have := hC.out.lt; omega) (fun q e => by cases e; exact hbg)).grown hg3 (by have := hC2.lt; omega) (fun q e => by cases e; exact hbg)
  exact ⟨rfl, own_shut hbg hC3 hc1 (by unfold maxLen; omega) (by rw [length_splice _ _ _ (by rw [hlen2.out, prL_len]; omega), hlen2.out]) hfin.out, hb3⟩
theorem insert_len (i n3 : Nat) (cur' X : List Value) (P RES : List Value) (A : List Value) (hA : cur'.take (i * 3) = A) (hP : P.length = 3) (hfit : i * 3 + 3 + X.length ≤ cur'.length) (hn : n3 = i * 3 + 3 + X.length) (hR : RES = A ++ (P ++ X)) :
    (splice (splice cur' (i * 3) P) ((i + 1) * 3) X).take n3 = RES ∧ (splice (splice cur' (i * 3) P) ((i + 1) * 3) X).length = cur'.length := by
  have hal : A.length = i * 3 := by rw [← hA, List.length_take]; omega
  have l1 : (splice cur' (i * 3) P).length = cur'.length := length_splice _ _ _ (by omega)
  have l2 := length_splice (splice cur' (i * 3) P) ((i + 1) * 3) X (by rw [l1]; omega)
  refine ⟨?_, l2.trans l1⟩
  have e : (splice cur' (i * 3) P).take ((i + 1) * 3) = A ++ P := by
    unfold splice
    rw [hA, ← List.append_assoc, List.take_left' (by rw [List.length_append]; omega)]
  rw [hR, hn]
  show ((splice cur' (i * 3) P).take ((i + 1) * 3) ++ (X ++ _)).take _ = _
  rw [e, ← List.append_assoc, List.take_left' (by simp only [List.length_append]; omega), List.append_assoc]

set_option maxRecDepth 100000 in
set_option maxHeartbeats 1000000 in
theorem insert_grow (g base vb i : Nat) (l : List Pr) (p : Pr) (cur : List Value) (w : World) (hC : Cel w g cur) (hl3 : cur.length = l.length * 3) (hct : cur = l.flatMap prL) (hv : Cel w vb (prL p)) (hi : i < l.length) (hll : l.length < 3518437208800) (hbase : base ≤ w.heap.size) :
    Calls Try.prog 49 #[.slice (some ⟨g, 0, none⟩) l.length l.length, .int .i64 i, .slice (some ⟨vb, 0, none⟩) 1 1] w fun e w' => ∃ A' c', e = .returned (.slice A' (l.length + 1) c') ∧ w'.ownsRow base 56 3 (.slice A' (l.length + 1) c') (l.length + 1) ((l.take i ++ [p] ++ l.drop i).flatMap prL) ∧ Below base w w' := by
  have hin : ((i : Int) == (l.length : Int)) = false := by simp; omega
  have hte : cur.take (i * 3) = (l.take i).flatMap prL := by
    rw [hct]
    conv => lhs; rw [← List.take_append_drop i l, List.flatMap_append]
    rw [List.take_left' (by rw [flat_length prL_len, List.length_take]; omega)]
  have hde : cur.drop (i * 3) = (l.drop i).flatMap prL := by
    rw [hct]
    conv => lhs; rw [← List.take_append_drop i l, List.flatMap_append]
    rw [List.drop_left' (by rw [flat_length prL_len, List.length_take]; omega)]
  have hXl : ((l.drop i).flatMap prL).length = (l.length - i) * 3 := by rw [flat_length prL_len, List.length_drop]
  have hone : ∀ v ∈ (l.drop i).flatMap prL, v.oneCell' = true := flat_one prL_one _
  have hR : (l.take i ++ [p] ++ l.drop i).flatMap prL = (l.take i).flatMap prL ++ (prL p ++ (l.drop i).flatMap prL) := by simp [List.flatMap_append]
  generalize (l.take i ++ [p] ++ l.drop i).flatMap prL = RES at hR ⊢
  clear hct
  generalize (l.drop i).flatMap prL = X at *
  generalize (l.take i).flatMap prL = AA at *
  have hvl := hv.lt
  have hgl := hC.lt
  replace hl3 := Lib.hid hl3
  replace hXl := Lib.hid hXl
  replace hone := Lib.hid hone
  replace hte := Lib.hid hte
  replace hde := Lib.hid hde
  replace hR := Lib.hid hR
  replace hC := Lib.hid hC
  replace hv := Lib.hid hv
  go_enter Try.func49, Try.ntmps49
  go_wp2_with (refine wpList_appendZ rfl (.tmp 34) (.tmp 39) rfl 40 rfl g i l.length (l.length + 1 - i) cur rfl ?hwv hC.out ?hic ?hk0 ?hgg ?hbb ?nxa; case' nxa => intro g2 cap cur2 w2 hC2 hge hcap hcm hcl2 hct2 hb2)
  case hwv => exact congrArg (Value.int .i64) (by omega)
  case hic => rw [hl3.out]; omega
  case hk0 => omega
  case hgg => omega
  case hbb => omega
  have hv2 : Cel w2 vb (prL p) := hv.out.kept (hb2.block _ (by omega))
  have hg2 : Cel w2 g cur := hC.out.kept (hb2.block _ (by omega))
  have e0 : i + (l.length + 1 - i) = l.length + 1 := by omega
  rw [e0] at hcap
  replace hcl2 := Lib.hid hcl2
  replace hct2 := Lib.hid hct2
  replace hv2 := Lib.hid hv2
  replace hg2 := Lib.hid hg2
  replace hC2 := Lib.hid hC2
  replace hb2 := Lib.hid hb2
  simp only [e0]
  clear e0
  have hci : ¬ cap = i := by omega
  have hci1 : ¬ cap = i + 1 := by omega
  have hci2 : ¬ l.length = i := by omega
  have hrun := run_copyX w2 3 (some ⟨g2, i * 3, none⟩) (some ⟨vb, 0, none⟩) (l.length + 1 - i) (cap - i) 1 1 g2 (i * 3) 1 (prL p) (by simp only [Nat.min_def]; split <;> omega) rfl (fun _ => ⟨rfl, _, rfl, fun j u hu => by rw [Addr.add_mid, Nat.zero_add]; exact (hv2.out.cell j).trans hu⟩) (hC2.out.there (by rw [hcl2.out]; omega)) (prL_one p)
  have hC3 := Cel.setCells (prL p) (i * 3) w2 cur2 hC2.out (by rw [hcl2.out, prL_len]; omega)
  have hg3 : w2.grownBy (w2.setCells g2 (i * 3) (prL p)) (some g2) := gr_setCells (prL p) (i * 3) w2 (World.grownBy.refl _ _)
  generalize w2.setCells g2 (i * 3) (prL p) = w3 at hrun hC3 hg3
  have hg3c : Cel w3.drew g cur := hg2.out.kept (hg3.block g (by have := hg2.out.lt; omega) (by simp; omega))
  have hnn : l.length - i = Nat.min (l.length - i) (l.length - i) := by simp only [Nat.min_def]; split <;> omega
  replace hnn := Lib.hid hnn
  replace hg3c := Lib.hid hg3c
  replace hC3 := Lib.hid hC3
  replace hg3 := Lib.hid hg3
  go_wp2_with fail
  rw [hrun]
  replace hrun := Lib.hid hrun
  go_wp2_with fail
  refine wpAnyH.region rfl (fun w' => True) ?_
  refine wpAnyH.takeT (i := 0) (t := 46) (v := .slice (some ⟨g2, 0, none⟩) (l.length + 1) cap) rfl rfl (by decide +kernel) (by decide +kernel) (by decide +kernel) (fun _ _ _ h => h.elim) (.inl ⟨rfl, fun w' hS => ?_⟩) trivial ?_
  · go_simp
    all_goals first | (rw [IntKind.wrap_i64] <;> omega) | (intro hh; exfalso; omega)
  try simp only [List.setIfInBounds_toArray, List.set_cons_zero, List.set_cons_succ]
  refine wpAnyH.takeT (i := 1) (t := 47) (v := .int .i64 i) rfl rfl (by decide +kernel) (by decide +kernel) (by decide +kernel) (fun _ _ _ h => h.elim) (.inl ⟨rfl, fun w' hS => ?_⟩) trivial ?_
  · go_simp
    all_goals first | (rw [IntKind.wrap_i64] <;> omega) | (intro hh; exfalso; omega)
  try simp only [List.setIfInBounds_toArray, List.set_cons_zero, List.set_cons_succ]
  refine wpAnyH.takeT (i := 2) (t := 48) (v := .int .i64 1) rfl rfl (by decide +kernel) (by decide +kernel) (by decide +kernel) (fun _ _ _ h => h.elim) (.inl ⟨rfl, fun w' hS => ?_⟩) trivial ?_
  · go_simp
    all_goals first | (rw [IntKind.wrap_i64] <;> omega) | (intro hh; exfalso; omega)
  try simp only [List.setIfInBounds_toArray, List.set_cons_zero, List.set_cons_succ]
  refine wpAnyH.takeT (i := 3) (t := 49) (v := .int .i64 (i + 1)) rfl rfl (by decide +kernel) (by decide +kernel) (by decide +kernel) (fun _ _ _ h => h.elim) (.inl ⟨rfl, fun w' hS => ?_⟩) trivial ?_
  · go_simp
    all_goals first | (rw [IntKind.wrap_i64] <;> omega) | (intro hh; exfalso; omega)
  try simp only [List.setIfInBounds_toArray, List.set_cons_zero, List.set_cons_succ]
  refine wpAnyH.takeT (i := 4) (t := 50) (v := .slice (some ⟨g2, (i + 1) * 3, none⟩) (l.length - i) (cap - (i + 1))) rfl rfl (by decide +kernel) (by decide +kernel) (by decide +kernel) (fun _ _ _ h => h.elim) (.inl ⟨rfl, fun w' hS => ?_⟩) trivial ?_
  · go_simp
    all_goals first | (rw [IntKind.wrap_i64] <;> omega) | (intro hh; exfalso; omega)
  try simp only [List.setIfInBounds_toArray, List.set_cons_zero, List.set_cons_succ]
  refine wpAnyH.takeT (i := 5) (t := 51) (v := .slice (some ⟨g, 0, none⟩) l.length l.length) rfl rfl (by decide +kernel) (by decide +kernel) (by decide +kernel) (fun _ _ _ h => h.elim) (.inl ⟨rfl, fun w' hS => ?_⟩) trivial ?_
  · go_simp
    all_goals first | (rw [IntKind.wrap_i64] <;> omega) | (intro hh; exfalso; omega)
  try simp only [List.setIfInBounds_toArray, List.set_cons_zero, List.set_cons_succ]
  refine wpAnyH.takeT (i := 6) (t := 52) (v := .int .i64 i) rfl rfl (by decide +kernel) (by decide +kernel) (by decide +kernel) (fun _ _ _ h => h.elim) (.inl ⟨rfl, fun w' hS => ?_⟩) trivial ?_
  · go_simp
    all_goals first | (rw [IntKind.wrap_i64] <;> omega) | (intro hh; exfalso; omega)
  try simp only [List.setIfInBounds_toArray, List.set_cons_zero, List.set_cons_succ]
  refine wpAnyH.takeT (i := 7) (t := 53) (v := .slice (some ⟨g, i * 3, none⟩) (l.length - i) (l.length - i)) rfl rfl (by decide +kernel) (by decide +kernel) (by decide +kernel) (fun _ _ _ h => h.elim) (.inl ⟨rfl, fun w' hS => ?_⟩) trivial ?_
  · go_simp
    all_goals first | (rw [IntKind.wrap_i64] <;> omega) | (intro hh; exfalso; omega)
  try simp only [List.setIfInBounds_toArray, List.set_cons_zero, List.set_cons_succ]
  refine wpAnyH.one (i := 8) (by decide +kernel) rfl rfl ?_
  refine wp_copyX (.tmp 50) (.tmp 53) rfl 54 rfl (some ⟨g2, (i + 1) * 3, none⟩) (some ⟨g, i * 3, none⟩) (l.length - i) (cap - (i + 1)) (l.length - i) (l.length - i) rfl rfl g2 ((i + 1) * 3) (l.length - i) (splice cur2 (i * 3) (prL p)) X (by simp) hXl.out (fun _ => ⟨rfl, _, rfl, fun j u hu => by rw [Addr.add_mid]; rw [← hde.out, List.getElem?_drop] at hu; exact (hg3c.out.cell _).trans hu⟩) (Cel.kept hC3.out rfl) (by rw [length_splice _ _ _ (by rw [hcl2.out, prL_len]; omega), hcl2.out]; omega) hone.out ?_
  intro w4 hC4 hg4
  refine ⟨trivial, ?_⟩
  try simp only [List.setIfInBounds_toArray, List.set_cons_zero, List.set_cons_succ]
  refine wpAnyH_done (by decide +kernel) ?_ _
  refine NoPanic.normal ?_
  replace hC4 := Lib.hid hC4
  replace hg4 := Lib.hid hg4
  go_wp2_with fail
  go_ret
  have hgb : base ≤ g2 := by omega
  have hlc : (splice cur2 (i * 3) (prL p)).length = cap * 3 := by rw [length_splice _ _ _ (by rw [hcl2.out, prL_len]; omega), hcl2.out]
  obtain ⟨f1, f2⟩ := insert_len i ((l.length + 1) * 3) cur2 X (prL p) RES AA (hct2.out.trans hte.out) (prL_len p) (by rw [hcl2.out, hXl.out]; omega) (by rw [hXl.out]; omega) hR.out
  have hbl : Below base w w4 := ((hb2.out.mono hbase).grown hg3.out (by have := hC2.out.lt; omega) (fun q e => by cases e; exact hgb)).grown (gr_drew' hg4.out) (by have := hC3.out.lt; omega) (fun q e => by cases e; exact hgb)
  exact ⟨_, _, rfl, own_shut hgb hC4.out hcap hcm (by rw [f2, hcl2.out]) f1, hbl⟩
/-- slices.Insert of one pair at i. -/
theorem insert_any (A : Option Addr) (c base vb i : Nat) (l : List Pr) (p : Pr) (w : World) (hown : w.ownsRow base 56 3 (.slice A l.length c) l.length (l.flatMap prL)) (hv : Cel w vb (prL p)) (hvb : ∀ g, A = some ⟨g, 0, none⟩ → vb ≠ g) (hi : i ≤ l.length) (hll : l.length < 3518437208800) (hbase : base ≤ w.heap.size) :
    Calls Try.prog 49 #[.slice A l.length c, .int .i64 i, .slice (some ⟨vb, 0, none⟩) 1 1] w fun e w' => ∃ A' c', e = .returned (.slice A' (l.length + 1) c') ∧ w'.ownsRow base 56 3 (.slice A' (l.length + 1) c') (l.length + 1) ((l.take i ++ [p] ++ l.drop i).flatMap prL) ∧ Below base w w' := by
  by_cases hie : i = l.length
  · subst hie
    rw [List.take_length, List.drop_length, List.append_nil]
    exact insert_end A c base vb l p w hown hv hll hbase
  · rcases own_open hown with ⟨_, h0, _, _⟩ | ⟨g, cur, rfl, hb, hC, h1, h2, h3, h4⟩
    · omega
    · by_cases hr : l.length + 1 ≤ c
      · refine (insert_shift g c base vb i l p cur w hC h3 h4 hr h2 hv (hvb g rfl) (by omega) hll hb).mono fun e w' he => ?_
        exact ⟨_, _, he⟩
      · obtain rfl : c = l.length := by omega
        refine insert_grow g base vb i l p cur w hC h3 ?_ hv (by omega) hll hbase
        rw [← h4, ← h3, List.take_length]
end Go.Proofs.Ytjokpjfmnjefdaa
