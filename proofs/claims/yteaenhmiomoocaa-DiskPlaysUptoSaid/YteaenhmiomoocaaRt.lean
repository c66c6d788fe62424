/- The law's own functions: Op.text (30), Lent (29). -/
import Derived.Test.YteaenhmiomoocaaRn
namespace Go.Proofs.Yteaenhmiomoocaa
open Go.RowKit Go.Shelf
attribute [local go_sem] Oper.semAt_some

/-- The text that an operation writes. -/
def opT (o : OpD) : Tx := if o.b = [] then fullT o.f else o.b
def opV (o : OpD) (A : Option Addr) (c : Nat) (A' : Option Addr) (c' : Nat) : Value := .agg #[.int .i64 o.k, .int .i64 o.i, .int .i64 o.n, .slice A o.b.length c, .int .u8 (o.f.toNat : Int), .slice A' o.l.length c']

set_option maxRecDepth 100000 in
set_option maxHeartbeats 1000000 in
theorem text_any (w : World) (o : OpD) (A : Option Addr) (c : Nat) (A' : Option Addr) (c' : Nat) (hT : TextAt w (.slice A o.b.length c) o.b) :
    Calls Try.prog 30 #[opV o A c A' c'] w fun e w' => ∃ A2 c2, e = .returned (.slice A2 (opT o).length c2) ∧ TextAt w' (.slice A2 (opT o).length c2) (opT o) ∧ Below w.heap.size w w' ∧ ((o.b ≠ [] ∧ A2 = A) ∨ ∃ q, w.heap.size ≤ q ∧ A2 = some ⟨q, 0, none⟩) := by
  obtain ⟨k, i, n, b, f, l⟩ := o
  unfold opV opT
  dsimp only at *
  have hfull := full_any f
  have hsz : ∀ o, (w.alloc o).heap.size = w.heap.size + 1 := fun o => by simp
  have hlt := Nat.le_succ w.heap.size
  cases b with
  | nil =>
    simp only [List.length_nil, if_true, fullT_length] at *
    go_enter Try.func30, Try.ntmps30
    go_wp2_with (go_at_call 14; refine (hfull _).mono ?_; rintro e w1 ⟨rfl, hB, hb1⟩; have hb := bl_tr (bl_alloc (Below.refl _ _) _) hb1; rw [hsz] at hB ⊢)
    go_ret
    exact ⟨some ⟨w.heap.size + 1, 0, none⟩, 256, rfl, .inr ⟨_, 0, _, by rw [fullT_length], hB.lt, fun j x hx => by rw [Nat.zero_add]; exact hB.get hx⟩, hb, .inr ⟨_, hlt, rfl⟩⟩
  | cons x b =>
    have hne : ((b.length : Int) + 1 == 0) = false := by rw [beq_eq_false_iff_ne]; omega
    simp only [reduceCtorEq, if_false]
    go_enter Try.func30, Try.ntmps30
    go_wp2_with fail
    go_ret
    exact ⟨_, _, rfl, hT.below (bl_alloc (Below.refl _ _) _), bl_alloc (Below.refl _ _) _, .inl ⟨by simp, rfl⟩⟩

theorem own_some {w : World} {base : Nat} {A : Option Addr} {n c : Nat} {xs : List Value} (h : w.ownsRow base 5 1 (.slice A n c) n xs) (hn : n ≠ 0) : ∃ g cap cur, Value.slice A n c = .slice (some ⟨g, 0, none⟩) n cap ∧ base ≤ g ∧ w.heap[g]? = some (.cells cur 5) ∧ n ≤ cap := by
  obtain ⟨hx, ⟨h2, h0⟩ | ⟨g', cap', cur, h2, hg, hh, hn', _⟩⟩ := h
  · exact absurd h0 hn
  · exact ⟨g', cap', cur, h2, hg, hh, hn'⟩
theorem tC_ends : [.int .u8 201, .int .u8 202] = tC [201, 202] := by rfl

set_option maxRecDepth 100000 in
set_option maxHeartbeats 1000000 in
theorem lent_any (w : World) (A : Option Addr) (n c : Nat) (t : Tx) (hT : TextAt w (.slice A n c) t) (hn : n ≤ 140737488351232) :
    Calls Try.prog 29 #[.slice A n c] w fun e w' => Below w.heap.size w w' ∧ ∃ g cap, e = .returned (.slice (some ⟨g, 0, none⟩) n cap) ∧ n + 2 ≤ cap ∧ w.heap.size ≤ g ∧ w'.ownsRow w.heap.size 5 1 (.slice (some ⟨g, 0, none⟩) (n + 2) cap) (n + 2) (tC (t ++ [201, 202])) := by
  obtain ⟨i5, hi5, hz5, hs5, hy5⟩ := info_parts info5'
  obtain ⟨hnt, hsrc⟩ := hT.src
  rw [← hnt] at hsrc
  replace hnt := Lib.hid hnt
  have hone : ∀ t : Tx, ∀ u ∈ tC t, u.oneCell' = true := fun t => tC_one
  go_enter Try.func29, Try.ntmps29
  go_wp2_with (at_builtin; first | (refine wpList_append_srcT rfl _ _ 30 rfl w.heap.size 5 i5 _ 1 1 Try.underlying30 hi5 hz5 hs5 hy5 rfl (by omega) (.slice (some ⟨w.heap.size, 0, none⟩) 0 0) 0 [] rfl ?hown1 A n c (tC t) rfl ?hsrc1 (hone t) ?h631 ?hby1 ?hbase1 ?nx1; case' nx1 => intro A5 c5 w5 hown5 hg5; simp only [Nat.zero_add, List.nil_append] at hown5 ⊢) | (refine wpList_append_srcT rfl _ _ 30 rfl w.heap.size 5 i5 _ 1 1 Try.underlying30 hi5 hz5 hs5 hy5 rfl (by omega) (.slice A5 n c5) n (tC t) rfl ?hown2 (some ⟨w5.heap.size, 0, none⟩) 2 2 (tC [201, 202]) rfl ?hsrc2 (hone [201, 202]) ?h632 ?hby2 ?hbase2 ?nx2; case' nx2 => intro A6 c6 w6 hown6 hg6; obtain ⟨g, cap, cur, hA6, hgb, hh6, hcap⟩ := own_some hown6 (by omega); simp only [Value.slice.injEq] at hA6; obtain ⟨rfl, _, rfl⟩ := hA6))
  case hown1 => simpa using ownsRow_empty w 5 1 w.heap.size (by simp)
  case hsrc1 => have := (hT.below (bl_alloc (Below.refl _ _) (.cells #[] 5))).src.2; rwa [← hnt.out] at this
  case h631 => simp only [maxLen]; omega
  case hby1 => omega
  case hbase1 => simp
  case hown2 => exact hown5.alloc _
  case hsrc2 => exact src_new w5 (tC [201, 202]) 5 2 1 rfl
  case h632 => simp only [maxLen]; omega
  case hby2 => omega
  case hbase2 => have := hg5.size; simp at this ⊢; omega
  have hb5 : Below w.heap.size w w5 := bl_gr (bl_alloc (Below.refl _ _) _) (g := w.heap.size) (by simpa [Value.ownBlock] using hg5) (Nat.le_refl _)
  have hb6 := bl_own (bl_alloc hb5 _) (hown5.alloc _) (Nat.le_refl _) hg6
  go_ret
  exact ⟨hb6, g, _, rfl, hcap, hgb, by simpa [tC] using hown6⟩
set_option maxRecDepth 100000 in
set_option maxHeartbeats 1000000 in
theorem stays_any (w : World) (base g n cap : Nat) (A : Option Addr) (ca : Nat) (t : Tx) (hown : w.ownsRow base 5 1 (.slice (some ⟨g, 0, none⟩) (n + 2) cap) (n + 2) (tC (t ++ [201, 202]))) (hcap : n + 2 ≤ cap) (hT : TextAt w (.slice A n ca) t) (hn : n ≤ 140737488351232) :
    Calls Try.prog 32 #[.slice (some ⟨g, 0, none⟩) n cap, .slice A n ca] w fun e w' => e = .returned (.bool true) ∧ Below w.heap.size w w' := by
  obtain ⟨A2, c2, e, htl⟩ := ownsRow_tells hown
  cases e
  obtain ⟨g2, e, _, hgl, hc⟩ := htl (by omega)
  cases e
  have hnt : n = t.length := hT.src.1
  have e1 : w.cell? ⟨g, n, none⟩ = some (.int .u8 201) := hc n _ (by rw [hnt]; simp [tC, bV])
  have e2 : w.cell? ⟨g, n + 1, none⟩ = some (.int .u8 202) := hc (n + 1) _ (by rw [hnt]; simp [tC, bV])
  have hL : TextAt w (.slice (some ⟨g, 0, none⟩) n cap) t := .inr ⟨g, 0, cap, by rw [hnt], hgl, fun j x hx => by
    rw [Nat.zero_add]
    refine hc j x ?_
    rw [show tC (t ++ [201, 202]) = tC t ++ tC [201, 202] from by simp [tC], List.getElem?_append_left (List.getElem?_eq_some_iff.1 hx).1]
    exact hx⟩
  have hc1 : ∀ w', Below w.heap.size w w' → (convert 30 9 (.slice (some ⟨g, 0, none⟩) n cap)).run Try.prog w' = .ok (.string ⟨t.toArray⟩) w' := fun w' hb => conv_text (hL.below hb)
  have hc2 : ∀ w', Below w.heap.size w w' → (convert 30 9 (.slice A n ca)).run Try.prog w' = .ok (.string ⟨t.toArray⟩) w' := fun w' hb => conv_text (hT.below hb)
  generalize (⟨t.toArray⟩ : ByteArray) = s at hc1 hc2
  replace hc1 := Lib.hid hc1
  replace hc2 := Lib.hid hc2
  have h10 := bl_drew (Below.refl w.heap.size w)
  have hn0 : (0 : Int) ≤ (n : Int) := by omega
  have hn1 : (n : Int) + 1 < (n : Int) + 2 := by omega
  have hw : IntKind.i64.wrap ((n : Int) + 1) = (n : Int) + 1 := by rw [IntKind.wrap_i64]; omega
  clear hc htl hT hL hnt hown
  go_enter Try.func32, Try.ntmps32
  go_wp2_with fail
  refine wpAnyH.region rfl (fun w' => Below w.heap.size w w') ?_
  try simp only [List.setIfInBounds_toArray, List.set_cons_zero, List.set_cons_succ]
  refine wpAnyH.takeT (i := 0) (t := 11) (v := (.slice (some ⟨g, 0, none⟩) (n + 2) cap)) rfl rfl (by decide +kernel) (by decide +kernel) (by decide +kernel) (fun _ _ _ h => h.elim) (.inl ⟨rfl, fun w' hS => ?_⟩) h10 ?_
  · go_simp
  try simp only [List.setIfInBounds_toArray, List.set_cons_zero, List.set_cons_succ]
  refine wpAnyH.takeT (i := 1) (t := 12) (v := (.slice A n ca)) rfl rfl (by decide +kernel) (by decide +kernel) (by decide +kernel) (fun _ _ _ h => h.elim) (.inl ⟨rfl, fun w' hS => ?_⟩) h10 ?_
  · go_simp
  try simp only [List.setIfInBounds_toArray, List.set_cons_zero, List.set_cons_succ]
  refine wpAnyH.takeT (i := 2) (t := 13) (v := (.int .i64 (n : Nat))) rfl rfl (by decide +kernel) (by decide +kernel) (by decide +kernel) (fun _ _ _ h => h.elim) (.inl ⟨rfl, fun w' hS => ?_⟩) h10 ?_
  · go_simp
  try simp only [List.setIfInBounds_toArray, List.set_cons_zero, List.set_cons_succ]
  refine wpAnyH.takeT (i := 3) (t := 14) (v := (.slice (some ⟨g, 0, none⟩) n cap)) rfl rfl (by decide +kernel) (by decide +kernel) (by decide +kernel) (fun _ _ _ h => h.elim) (.inl ⟨rfl, fun w' hS => ?_⟩) h10 ?_
  · go_simp
    all_goals (intro h; exfalso; omega)
  try simp only [List.setIfInBounds_toArray, List.set_cons_zero, List.set_cons_succ]
  refine wpAnyH.takeT (i := 4) (t := 15) (v := (.string s)) rfl rfl (by decide +kernel) (by decide +kernel) (by decide +kernel) (fun _ _ _ h => h.elim) (.inl ⟨rfl, fun w' hS => ?_⟩) h10 ?_
  · have c0 := hc1.out _ hS
    go_simp
  try simp only [List.setIfInBounds_toArray, List.set_cons_zero, List.set_cons_succ]
  refine wpAnyH.takeT (i := 5) (t := 16) (v := (.slice A n ca)) rfl rfl (by decide +kernel) (by decide +kernel) (by decide +kernel) (fun _ _ _ h => h.elim) (.inl ⟨rfl, fun w' hS => ?_⟩) h10 ?_
  · go_simp
  try simp only [List.setIfInBounds_toArray, List.set_cons_zero, List.set_cons_succ]
  refine wpAnyH.takeT (i := 6) (t := 17) (v := (.string s)) rfl rfl (by decide +kernel) (by decide +kernel) (by decide +kernel) (fun _ _ _ h => h.elim) (.inl ⟨rfl, fun w' hS => ?_⟩) h10 ?_
  · have c0 := hc2.out _ hS
    go_simp
  try simp only [List.setIfInBounds_toArray, List.set_cons_zero, List.set_cons_succ]
  refine wpAnyH.takeT (i := 7) (t := 18) (v := (.bool true)) rfl rfl (by decide +kernel) (by decide +kernel) (by decide +kernel) (fun _ _ _ h => h.elim) (.inl ⟨rfl, fun w' hS => ?_⟩) h10 ?_
  · go_simp
  try simp only [List.setIfInBounds_toArray, List.set_cons_zero, List.set_cons_succ]
  refine wpAnyH.takeT (i := 8) (t := 19) (v := (.bool true)) rfl rfl (by decide +kernel) (by decide +kernel) (by decide +kernel) (fun _ _ _ h => h.elim) (.inl ⟨rfl, fun w' hS => ?_⟩) h10 ?_
  · go_simp
  try simp only [List.setIfInBounds_toArray, List.set_cons_zero, List.set_cons_succ]
  refine wpAnyH.takeT (i := 9) (t := 20) (v := (.slice (some ⟨g, 0, none⟩) (n + 2) cap)) rfl rfl (by decide +kernel) (by decide +kernel) (by decide +kernel) (fun _ _ _ h => h.elim) (.inl ⟨rfl, fun w' hS => ?_⟩) h10 ?_
  · go_simp
  try simp only [List.setIfInBounds_toArray, List.set_cons_zero, List.set_cons_succ]
  refine wpAnyH.takeT (i := 10) (t := 21) (v := (.slice A n ca)) rfl rfl (by decide +kernel) (by decide +kernel) (by decide +kernel) (fun _ _ _ h => h.elim) (.inl ⟨rfl, fun w' hS => ?_⟩) h10 ?_
  · go_simp
  try simp only [List.setIfInBounds_toArray, List.set_cons_zero, List.set_cons_succ]
  refine wpAnyH.takeT (i := 11) (t := 22) (v := (.int .i64 (n : Nat))) rfl rfl (by decide +kernel) (by decide +kernel) (by decide +kernel) (fun _ _ _ h => h.elim) (.inl ⟨rfl, fun w' hS => ?_⟩) h10 ?_
  · go_simp
  try simp only [List.setIfInBounds_toArray, List.set_cons_zero, List.set_cons_succ]
  refine wpAnyH.takeT (i := 12) (t := 23) (v := (.pointer (some ⟨g, n, none⟩))) rfl rfl (by decide +kernel) (by decide +kernel) (by decide +kernel) (fun _ _ _ h => h.elim) (.inl ⟨rfl, fun w' hS => ?_⟩) h10 ?_
  · go_simp
    all_goals (intro h; exfalso; omega)
  try simp only [List.setIfInBounds_toArray, List.set_cons_zero, List.set_cons_succ]
  refine wpAnyH.takeT (i := 13) (t := 24) (v := (.int .u8 201)) rfl rfl (by decide +kernel) (by decide +kernel) (by decide +kernel) (fun _ _ _ h => h.elim) (.inl ⟨rfl, fun w' hS => ?_⟩) h10 ?_
  · have c0 := (hS.cell (p := ⟨g, n, none⟩) hgl).trans e1
    go_simp
  try simp only [List.setIfInBounds_toArray, List.set_cons_zero, List.set_cons_succ]
  refine wpAnyH.takeT (i := 14) (t := 25) (v := (.bool true)) rfl rfl (by decide +kernel) (by decide +kernel) (by decide +kernel) (fun _ _ _ h => h.elim) (.inl ⟨rfl, fun w' hS => ?_⟩) h10 ?_
  · go_simp
  try simp only [List.setIfInBounds_toArray, List.set_cons_zero, List.set_cons_succ]
  refine wpAnyH.takeT (i := 15) (t := 26) (v := (.bool true)) rfl rfl (by decide +kernel) (by decide +kernel) (by decide +kernel) (fun _ _ _ h => h.elim) (.inl ⟨rfl, fun w' hS => ?_⟩) h10 ?_
  · go_simp
  try simp only [List.setIfInBounds_toArray, List.set_cons_zero, List.set_cons_succ]
  refine wpAnyH.takeT (i := 16) (t := 27) (v := (.bool true)) rfl rfl (by decide +kernel) (by decide +kernel) (by decide +kernel) (fun _ _ _ h => h.elim) (.inl ⟨rfl, fun w' hS => ?_⟩) h10 ?_
  · go_simp
  try simp only [List.setIfInBounds_toArray, List.set_cons_zero, List.set_cons_succ]
  refine wpAnyH.takeT (i := 17) (t := 28) (v := (.slice (some ⟨g, 0, none⟩) (n + 2) cap)) rfl rfl (by decide +kernel) (by decide +kernel) (by decide +kernel) (fun _ _ _ h => h.elim) (.inl ⟨rfl, fun w' hS => ?_⟩) h10 ?_
  · go_simp
  try simp only [List.setIfInBounds_toArray, List.set_cons_zero, List.set_cons_succ]
  refine wpAnyH.takeT (i := 18) (t := 29) (v := (.slice A n ca)) rfl rfl (by decide +kernel) (by decide +kernel) (by decide +kernel) (fun _ _ _ h => h.elim) (.inl ⟨rfl, fun w' hS => ?_⟩) h10 ?_
  · go_simp
  try simp only [List.setIfInBounds_toArray, List.set_cons_zero, List.set_cons_succ]
  refine wpAnyH.takeT (i := 19) (t := 30) (v := (.int .i64 (n : Nat))) rfl rfl (by decide +kernel) (by decide +kernel) (by decide +kernel) (fun _ _ _ h => h.elim) (.inl ⟨rfl, fun w' hS => ?_⟩) h10 ?_
  · go_simp
  try simp only [List.setIfInBounds_toArray, List.set_cons_zero, List.set_cons_succ]
  refine wpAnyH.takeT (i := 20) (t := 31) (v := (.int .i64 ((n : Int) + 1))) rfl rfl (by decide +kernel) (by decide +kernel) (by decide +kernel) (fun _ _ _ h => h.elim) (.inl ⟨rfl, fun w' hS => ?_⟩) h10 ?_
  · go_simp
  try simp only [List.setIfInBounds_toArray, List.set_cons_zero, List.set_cons_succ]
  refine wpAnyH.takeT (i := 21) (t := 32) (v := (.pointer (some ⟨g, n + 1, none⟩))) rfl rfl (by decide +kernel) (by decide +kernel) (by decide +kernel) (fun _ _ _ h => h.elim) (.inl ⟨rfl, fun w' hS => ?_⟩) h10 ?_
  · go_simp
    all_goals (intro h; exfalso; omega)
  try simp only [List.setIfInBounds_toArray, List.set_cons_zero, List.set_cons_succ]
  refine wpAnyH.takeT (i := 22) (t := 33) (v := (.int .u8 202)) rfl rfl (by decide +kernel) (by decide +kernel) (by decide +kernel) (fun _ _ _ h => h.elim) (.inl ⟨rfl, fun w' hS => ?_⟩) h10 ?_
  · have c0 := (hS.cell (p := ⟨g, n + 1, none⟩) hgl).trans e2
    go_simp
  try simp only [List.setIfInBounds_toArray, List.set_cons_zero, List.set_cons_succ]
  refine wpAnyH.takeT (i := 23) (t := 34) (v := (.bool true)) rfl rfl (by decide +kernel) (by decide +kernel) (by decide +kernel) (fun _ _ _ h => h.elim) (.inl ⟨rfl, fun w' hS => ?_⟩) h10 ?_
  · go_simp
  try simp only [List.setIfInBounds_toArray, List.set_cons_zero, List.set_cons_succ]
  refine wpAnyH.takeT (i := 24) (t := 35) (v := (.bool true)) rfl rfl (by decide +kernel) (by decide +kernel) (by decide +kernel) (fun _ _ _ h => h.elim) (.inl ⟨rfl, fun w' hS => ?_⟩) h10 ?_
  · go_simp
  try simp only [List.setIfInBounds_toArray, List.set_cons_zero, List.set_cons_succ]
  refine wpAnyH.takeT (i := 25) (t := 4) (v := (.bool true)) rfl rfl (by decide +kernel) (by decide +kernel) (by decide +kernel) (fun _ _ _ h => h.elim) (.inl ⟨rfl, fun w' hS => ?_⟩) h10 ?_
  · go_simp
  try simp only [List.setIfInBounds_toArray, List.set_cons_zero, List.set_cons_succ]
  refine wpAnyH_done (by decide +kernel) ?_ _
  refine NoPanic.normal ?_
  go_wp2_with fail
  go_ret
  exact ⟨rfl, h10⟩
end Go.Proofs.Yteaenhmiomoocaa
