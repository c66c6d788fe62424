/- slices.Delete of one pair of a row of the call's own. -/
import Derived.Test.YtjokpjfmnjefdaaBf
namespace Go.Proofs.Ytjokpjfmnjefdaa
open Go.RowKit Go.Shelf
attribute [local go_sem] Oper.semAt_some

theorem wp_append_fit {o : Oper} {a : Act} {w : World} {K : Act → World → Prop} {Q : Exit → Act → World → Prop} (s x : Operand) (ho : o.op = .call { callee := .builtin .append, args := #[s, x], argTypes := #[26, 26] }) (t : Nat) (hd : o.dst = some t)
    (base g n cap : Nat) (xs : List Value) (hs : a.eval s = .slice (some ⟨g, 0, none⟩) n cap) (hown : w.ownsRow base 56 3 (.slice (some ⟨g, 0, none⟩) n cap) n xs)
    (ad : Addr) (m c : Nat) (news : List Value) (hx : a.eval x = .slice (some ad) m c) (hl : news.length = m * 3) (hnews : ∀ j u, news[j]? = some u → w.cell? (ad.add j) = some u) (h1 : ∀ u ∈ news, u.oneCell' = true) (hroom : n + m ≤ cap)
    (h : ∀ w', w'.ownsRow base 56 3 (.slice (some ⟨g, 0, none⟩) (n + m) cap) (n + m) (xs ++ news) → w.grownBy w' (some g) → K { a with tmps := a.tmps.setIfInBounds t (.slice (some ⟨g, 0, none⟩) (n + m) cap) } w') : o.wp Try.prog a w K Q := by
  obtain ⟨i0, hi0, hz0, hz1, hz2⟩ := info_parts info56
  obtain ⟨w', hr, h2, h3⟩ := run_append_fits (P := Try.prog) (w := w) base 26 o.type 56 i0 3 Try.underlying26 hi0 hz1 g n cap xs hown ad m c news hl hnews h1 hroom
  unfold Oper.wp execOp
  simp only [ho, resolve, invoke, builtin, Sem.run_bind, Sem.run_pure, Result.andThen_ok, List.map_toArray, List.map_cons, List.map_nil, hs, hx, hr]
  rw [Oper.upon_value, hd]
  exact h w' h2 h3

set_option maxRecDepth 100000 in
set_option maxHeartbeats 1000000 in
theorem delete1_row (g c base i : Nat) (l : List Pr) (cur : List Value) (w : World) (hC : Cel w g cur) (hl3 : cur.length = c * 3) (hct : cur.take (l.length * 3) = l.flatMap prL) (hlc : l.length ≤ c) (hcm : c ≤ maxLen) (hi : i < l.length) (hbg : base ≤ g) :
    Calls Try.prog 48 #[.slice (some ⟨g, 0, none⟩) l.length c, .int .i64 i, .int .i64 ((i : Int) + 1)] w fun e w' => e = .returned (.slice (some ⟨g, 0, none⟩) (l.length - 1) c) ∧ w'.ownsRow base 56 3 (.slice (some ⟨g, 0, none⟩) (l.length - 1) c) (l.length - 1) ((l.take i ++ l.drop (i + 1)).flatMap prL) ∧ Below base w w' := by
  have hte : cur.take (i * 3) = (l.take i).flatMap prL := by
    have := congrArg (fun z => z.take (i * 3)) hct
    simp only [List.take_take] at this
    rw [show min (i * 3) (l.length * 3) = i * 3 from by simp only [Nat.min_def]; split <;> omega] at this
    rw [this]
    conv => lhs; rw [← List.take_append_drop i l, List.flatMap_append]
    rw [List.take_left' (by rw [flat_length prL_len, List.length_take]; omega)]
  have hflat : ∀ j u, ((l.drop (i + 1)).flatMap prL)[j]? = some u → cur[(i + 1) * 3 + j]? = some u := fun j u hu => by
    have e : (l.drop (i + 1)).flatMap prL = (cur.take (l.length * 3)).drop ((i + 1) * 3) := by
      rw [hct]
      conv => rhs; rw [← List.take_append_drop (i + 1) l, List.flatMap_append]
      rw [List.drop_left' (by rw [flat_length prL_len, List.length_take]; omega)]
    rw [e, List.getElem?_drop, List.getElem?_take] at hu
    split at hu
    · exact hu
    · cases hu
  have hXl : ((l.drop (i + 1)).flatMap prL).length = (l.length - (i + 1)) * 3 := by rw [flat_length prL_len, List.length_drop]
  have hone : ∀ v ∈ (l.drop (i + 1)).flatMap prL, v.oneCell' = true := flat_one prL_one _
  have hR : (l.take i ++ l.drop (i + 1)).flatMap prL = (l.take i).flatMap prL ++ (l.drop (i + 1)).flatMap prL := by rw [List.flatMap_append]
  have hown : w.drew.ownsRow base 56 3 (.slice (some ⟨g, 0, none⟩) i c) i ((l.take i).flatMap prL) := own_shut (w := w.drew) hbg hC (by omega) hcm (by omega) hte
  have hCd : Cel w.drew g cur := hC
  unfold maxLen at hcm
  clear hct hte
  generalize (l.take i ++ l.drop (i + 1)).flatMap prL = RES at hR ⊢
  generalize (l.drop (i + 1)).flatMap prL = X at *
  generalize (l.take i).flatMap prL = AA at *
  have hsrc : ∀ j u, X[j]? = some u → w.drew.cell? (Addr.add (if c = i + 1 then ⟨g, 0, none⟩ else ⟨g, (i + 1) * 3, none⟩) j) = some u := fun j u hu => by
    by_cases hc : c = i + 1
    · have := (List.getElem?_eq_some_iff.1 hu).1
      omega
    · rw [if_neg hc, Addr.add_mid]
      exact (hCd.cell _).trans (hflat j u hu)
  obtain ⟨ad, had⟩ : ∃ ad : Addr, ad = if c = i + 1 then ⟨g, 0, none⟩ else ⟨g, (i + 1) * 3, none⟩ := ⟨_, rfl⟩
  rw [← had] at hsrc
  replace had := Lib.hid had
  have hci : ¬ c = i := by omega
  have hcn : ¬ c = l.length - 1 := by omega
  have hii : ((i : Int) == (i : Int) + 1) = false := by simp; omega
  replace hl3 := Lib.hid hl3
  replace hXl := Lib.hid hXl
  replace hone := Lib.hid hone
  replace hR := Lib.hid hR
  replace hown := Lib.hid hown
  replace hsrc := Lib.hid hsrc
  replace hC := Lib.hid hC
  clear hflat hCd
  go_enter Try.func48, Try.ntmps48
  go_wp2_with fail
  replace hii := Lib.hid hii
  replace hci := Lib.hid hci
  replace hcn := Lib.hid hcn
  refine wpAnyH.region rfl (fun w' => True) ?_
  refine wpAnyH.takeT (i := 0) (t := 20) (v := .slice (some ⟨g, 0, none⟩) l.length c) rfl rfl (by decide +kernel) (by decide +kernel) (by decide +kernel) (fun _ _ _ h => h.elim) (.inl ⟨rfl, fun w' hS => ?_⟩) trivial ?_
  · go_simp
    all_goals first | done | (rw [IntKind.wrap_i64] <;> omega) | (intro hh; exfalso; omega) | (split <;> first | (rw [had.out]; by_cases hcc : c = i + 1 <;> simp [hcc]; done) | (exfalso; omega))
  try simp only [List.setIfInBounds_toArray, List.set_cons_zero, List.set_cons_succ]
  refine wpAnyH.takeT (i := 1) (t := 21) (v := .int .i64 i) rfl rfl (by decide +kernel) (by decide +kernel) (by decide +kernel) (fun _ _ _ h => h.elim) (.inl ⟨rfl, fun w' hS => ?_⟩) trivial ?_
  · go_simp
    all_goals first | done | (rw [IntKind.wrap_i64] <;> omega) | (intro hh; exfalso; omega) | (split <;> first | (rw [had.out]; by_cases hcc : c = i + 1 <;> simp [hcc]; done) | (exfalso; omega))
  try simp only [List.setIfInBounds_toArray, List.set_cons_zero, List.set_cons_succ]
  refine wpAnyH.takeT (i := 2) (t := 22) (v := .slice (some ⟨g, 0, none⟩) i c) rfl rfl (by decide +kernel) (by decide +kernel) (by decide +kernel) (fun _ _ _ h => h.elim) (.inl ⟨rfl, fun w' hS => ?_⟩) trivial ?_
  · go_simp
    all_goals first | done | (rw [IntKind.wrap_i64] <;> omega) | (intro hh; exfalso; omega) | (split <;> first | (rw [had.out]; by_cases hcc : c = i + 1 <;> simp [hcc]; done) | (exfalso; omega))
  try simp only [List.setIfInBounds_toArray, List.set_cons_zero, List.set_cons_succ]
  refine wpAnyH.takeT (i := 3) (t := 23) (v := .slice (some ⟨g, 0, none⟩) l.length c) rfl rfl (by decide +kernel) (by decide +kernel) (by decide +kernel) (fun _ _ _ h => h.elim) (.inl ⟨rfl, fun w' hS => ?_⟩) trivial ?_
  · go_simp
    all_goals first | done | (rw [IntKind.wrap_i64] <;> omega) | (intro hh; exfalso; omega) | (split <;> first | (rw [had.out]; by_cases hcc : c = i + 1 <;> simp [hcc]; done) | (exfalso; omega))
  try simp only [List.setIfInBounds_toArray, List.set_cons_zero, List.set_cons_succ]
  refine wpAnyH.takeT (i := 4) (t := 24) (v := .int .i64 ((i : Int) + 1)) rfl rfl (by decide +kernel) (by decide +kernel) (by decide +kernel) (fun _ _ _ h => h.elim) (.inl ⟨rfl, fun w' hS => ?_⟩) trivial ?_
  · go_simp
    all_goals first | done | (rw [IntKind.wrap_i64] <;> omega) | (intro hh; exfalso; omega) | (split <;> first | (rw [had.out]; by_cases hcc : c = i + 1 <;> simp [hcc]; done) | (exfalso; omega))
  try simp only [List.setIfInBounds_toArray, List.set_cons_zero, List.set_cons_succ]
  refine wpAnyH.takeT (i := 5) (t := 25) (v := .slice (some ad) (l.length - (i + 1)) (c - (i + 1))) rfl rfl (by decide +kernel) (by decide +kernel) (by decide +kernel) (fun _ _ _ h => h.elim) (.inl ⟨rfl, fun w' hS => ?_⟩) trivial ?_
  · go_simp
    all_goals first | done | (rw [IntKind.wrap_i64] <;> omega) | (intro hh; exfalso; omega) | (split <;> first | (rw [had.out]; by_cases hcc : c = i + 1 <;> simp [hcc]; done) | (exfalso; omega))
  try simp only [List.setIfInBounds_toArray, List.set_cons_zero, List.set_cons_succ]
  refine wpAnyH.one (i := 6) (by decide +kernel) rfl rfl ?_
  refine wp_append_fit (.tmp 22) (.tmp 25) rfl 26 rfl base g i c AA rfl hown.out _ (l.length - (i + 1)) (c - (i + 1)) X rfl hXl.out hsrc.out hone.out (by omega) ?_
  intro w2 hown2 hg2
  rw [show i + (l.length - (i + 1)) = l.length - 1 from by omega] at hown2 ⊢
  refine ⟨trivial, ?_⟩
  try simp only [List.setIfInBounds_toArray, List.set_cons_zero, List.set_cons_succ]
  have hone2 := own_open hown2
  obtain ⟨g', cur2, e1, hbg', hC2, h21, h22, h23, h24⟩ : ∃ g' cur2, (some ⟨g, 0, none⟩ : Option Addr) = some ⟨g', 0, none⟩ ∧ base ≤ g' ∧ Cel w2 g' cur2 ∧ l.length - 1 ≤ c ∧ c ≤ maxLen ∧ cur2.length = c * 3 ∧ cur2.take ((l.length - 1) * 3) = AA ++ X := by
    rcases hone2 with ⟨h, _⟩ | h
    · cases h
    · exact h
  cases e1
  clear hone2
  obtain ⟨zs, hzl, hcl⟩ := run_clear26 w2 g ((l.length - 1) * 3) 1 (c - (l.length - 1)) (hC2.there (by rw [h23]; omega))
  have hC3 := Cel.setCells zs ((l.length - 1) * 3) w2 cur2 hC2 (by rw [h23, hzl]; omega)
  have hg3 : w2.grownBy (w2.setCells g ((l.length - 1) * 3) zs) (some g) := gr_setCells zs _ w2 (World.grownBy.refl _ _)
  have hfin : (splice cur2 ((l.length - 1) * 3) zs).take ((l.length - 1) * 3) = RES := by
    unfold splice
    rw [List.take_left' (by rw [List.length_take]; omega), h24, hR.out]
  have hlen3 : (splice cur2 ((l.length - 1) * 3) zs).length = c * 3 := by rw [length_splice _ _ _ (by rw [h23, hzl]; omega), h23]
  have hbf : Below base w (w2.setCells g ((l.length - 1) * 3) zs) := ((Below.refl base w).grown (gr_drew' hg2) (by have := hC.out.lt; omega) (fun q e => by cases e; exact hbg)).grown hg3 (by have := hC2.lt; omega) (fun q e => by cases e; exact hbg)
  generalize w2.setCells g ((l.length - 1) * 3) zs = w3 at hcl hC3 hg3 hbf
  generalize splice cur2 ((l.length - 1) * 3) zs = cur3 at hC3 hfin hlen3
  have hres := own_shut hbg' hC3 (by omega) h22 hlen3 hfin
  clear hfin hlen3 hC3 hzl h24 h23 hC2 hown2 hg2 hg3
  have hl1 : ((l.length - 1 : Nat) : Int) ≤ (l.length : Int) := by omega
  have hl2 : (l.length : Int) ≤ (c : Int) := by omega
  have hl4 : ¬ c = l.length - 1 := hcn.out
  have hl5 : l.length - (l.length - 1) = 1 := by omega
  refine wpAnyH.takeT (i := 7) (t := 0) (v := .slice (some ⟨g, 0, none⟩) (l.length - 1) c) rfl rfl (by decide +kernel) (by decide +kernel) (by decide +kernel) (fun _ _ _ h => h.elim) (.inl ⟨rfl, fun w' hS => ?_⟩) trivial ?_
  · go_simp
  try simp only [List.setIfInBounds_toArray, List.set_cons_zero, List.set_cons_succ]
  refine wpAnyH_done (by decide +kernel) ?_ _
  refine NoPanic.normal ?_
  go_wp2_with fail
  go_ret
  exact ⟨rfl, hres, hbf⟩

/-- slices.Delete(s, i, i + 1). -/
theorem delete1_any (A : Option Addr) (c base i : Nat) (l : List Pr) (w : World) (hown : w.ownsRow base 56 3 (.slice A l.length c) l.length (l.flatMap prL)) (hi : i < l.length) :
    Calls Try.prog 48 #[.slice A l.length c, .int .i64 i, .int .i64 ((i : Int) + 1)] w fun e w' => ∃ A' c', e = .returned (.slice A' (l.length - 1) c') ∧ w'.ownsRow base 56 3 (.slice A' (l.length - 1) c') (l.length - 1) ((l.take i ++ l.drop (i + 1)).flatMap prL) ∧ Below base w w' := by
  rcases own_open hown with ⟨_, h0, _, _⟩ | ⟨g, cur, rfl, hb, hC, h1, h2, h3, h4⟩
  · omega
  · exact (delete1_row g c base i l cur w hC h3 h4 h1 h2 hi hb).mono fun e w' he => ⟨_, _, he⟩
end Go.Proofs.Ytjokpjfmnjefdaa
