/- slices.Delete of one of a ledger's open transactions. (out of layer 22's texts) -/
import Derived.Test.YtejjiiakficafaaKp
import Derived.Test.YtejjiiakficafaaHd
import Derived.Laws.CopyOwn
import Derived.Lib.AppendZerosOnto
import Derived.Lib.Overlaps
namespace Go.Proofs.Ytejjiiakficafaa
open Go.RowKit Go.Shelf
attribute [local go_sem] Oper.semAt_some

def Cel (w : World) (g : Nat) (cur : List Value) : Prop := w.heap[g]? = some (.cells cur.toArray 82 (0, 0))
theorem Cel.lt {w : World} {g : Nat} {cur : List Value} (h : Cel w g cur) : g < w.heap.size := (Array.getElem?_eq_some_iff.1 h).1
theorem Cel.cell {w : World} {g : Nat} {cur : List Value} (h : Cel w g cur) (j : Nat) : w.cell? ⟨g, j, none⟩ = cur[j]? := by
  unfold World.cell?
  rw [show w.heap[g]? = _ from h]
  simp
theorem Cel.unf {w : World} {g : Nat} {cur : List Value} (h : Cel w g cur) (j : Nat) : w.frozen? ⟨g, j, none⟩ = false := by
  unfold World.frozen?
  rw [show w.heap[g]? = _ from h]
  simp
theorem Cel.there {w : World} {g : Nat} {cur : List Value} (h : Cel w g cur) {o n : Nat} (hn : o + n ≤ cur.length) : w.there g o n := fun j hj => by
  refine ⟨?_, h.unf _⟩
  rw [h.cell, List.getElem?_eq_getElem (by omega)]; rfl
theorem Cel.kept {w w' : World} {g : Nat} {cur : List Value} (h : Cel w g cur) (hh : w'.heap[g]? = w.heap[g]?) : Cel w' g cur := hh.trans h
theorem Cel.setCell {w : World} {g : Nat} {cur : List Value} (h : Cel w g cur) (j : Nat) (v : Value) : Cel (w.setCell ⟨g, j, none⟩ v) g (cur.set j v) := by
  unfold Cel World.setCell at *
  simp only [Array.getElem?_modify, if_true, h, Option.map_some]
  simp
theorem splice_cons {α : Type} (L : List α) (off : Nat) (x : α) (xs : List α) (h : off < L.length) : splice (L.set off x) (off + 1) xs = splice L off (x :: xs) := by
  unfold splice
  have h1 : off < (L.set off x).length := by simpa using h
  rw [List.take_succ_eq_append_getElem h1, List.getElem_set_self, List.take_set_of_le (Nat.le_refl _), List.drop_set_of_lt (by omega)]
  simp [Nat.add_comm, Nat.add_left_comm]
theorem Cel.setCells {g : Nat} : ∀ (xs : List Value) (off : Nat) (w : World) (cur : List Value), Cel w g cur → off + xs.length ≤ cur.length → Cel (w.setCells g off xs) g (splice cur off xs)
  | [], off, w, cur, h, _ => by
    have : splice cur off [] = cur := by simp [splice]
    rw [this]; exact h
  | x :: xs, off, w, cur, h, hl => by
    rw [List.length_cons] at hl
    rw [← splice_cons _ _ _ _ (by omega)]
    exact Cel.setCells xs (off + 1) _ _ (h.setCell off x) (by rw [List.length_set]; omega)

/-- A row of the call's own, its block laid open. -/
theorem own_open {w : World} {base : Nat} {A : Option Addr} {n c : Nat} {xs : List Value} (h : w.ownsRow base 82 2 (.slice A n c) n xs) : (A = none ∧ n = 0 ∧ c = 0 ∧ xs = []) ∨ ∃ g cur, A = some ⟨g, 0, none⟩ ∧ base ≤ g ∧ Cel w g cur ∧ n ≤ c ∧ c ≤ maxLen ∧ cur.length = c * 2 ∧ cur.take (n * 2) = xs := by
  obtain ⟨h0, ⟨e, hn⟩ | ⟨g, cap, cur, e, hb, hh, h1, h2, h3, h4⟩⟩ := h
  · cases e
    exact .inl ⟨rfl, rfl, rfl, List.eq_nil_of_length_eq_zero (by simpa using h0)⟩
  · cases e
    exact .inr ⟨g, cur.toList, rfl, hb, by simpa [Cel] using hh, h1, h2, by simpa using h3, h4⟩
theorem own_shut {w : World} {base g n c : Nat} {cur xs : List Value} (hb : base ≤ g) (h : Cel w g cur) (h1 : n ≤ c) (h2 : c ≤ maxLen) (h3 : cur.length = c * 2) (h4 : cur.take (n * 2) = xs) : w.ownsRow base 82 2 (.slice (some ⟨g, 0, none⟩) n c) n xs :=
  ⟨by rw [← h4, List.length_take]; omega, .inr ⟨g, c, cur.toArray, rfl, hb, h, h1, h2, by simpa using h3, by simpa using h4⟩⟩

theorem zero82 (w : World) : (zeroValue 82).run Try.prog w = .ok (.agg #[.int .i64 0, .int .i64 0]) w := by kernel_rfl
theorem run_clear58 (w : World) (b o n c : Nat) (h : w.there b o (n * 2)) : ∃ zs : List Value, zs.length = n * 2 ∧ ∀ ty : TypeId, (Builtin.clear_ #[58] ty #[.slice (some ⟨b, o, none⟩) n c]).run Try.prog w = .ok (.tuple #[]) (w.setCells b o zs) := by
  cases n with
  | zero =>
    refine ⟨[], rfl, fun ty => ?_⟩
    simp [Builtin.clear_, run_underlying Try.underlying58, World.setCells]
  | succ n =>
    refine ⟨(Builtin.zeroCells #[.int .i64 0, .int .i64 0] (n + 1)).toList, by simp [Builtin.zeroCells], fun ty => ?_⟩
    have h1 := run_storeCells_cells (P := Try.prog) b o (Builtin.zeroCells #[.int .i64 0, .int .i64 0] (n + 1)).toList 0 w (fun j hj => by simpa using (h j (by simpa [Builtin.zeroCells] using hj)).1) (fun j hj => by simpa using (h j (by simpa [Builtin.zeroCells] using hj)).2) (fun v hv => by
      simp only [Builtin.zeroCells, Array.toList_map, List.mem_map] at hv
      obtain ⟨i, _, rfl⟩ := hv
      have h3 : i % 2 = 0 ∨ i % 2 = 1 := by omega
      rcases h3 with h3 | h3 <;> simp [h3, Value.oneCell'])
    simp only [Nat.add_zero] at h1
    simp [Builtin.clear_, run_underlying Try.underlying58, zero82, Value.cells, h1]
theorem gr_drew' {a w : World} {row : Option Nat} (h : a.drew.grownBy w row) : a.grownBy w row := ⟨h.os, h.tape, h.output, h.size, h.block⟩
theorem wp_append_fit {o : Oper} {a : Act} {w : World} {K : Act → World → Prop} {Q : Exit → Act → World → Prop} (s x : Operand) (ho : o.op = .call { callee := .builtin .append, args := #[s, x], argTypes := #[58, 58] }) (t : Nat) (hd : o.dst = some t)
    (base g n cap : Nat) (xs : List Value) (hs : a.eval s = .slice (some ⟨g, 0, none⟩) n cap) (hown : w.ownsRow base 82 2 (.slice (some ⟨g, 0, none⟩) n cap) n xs)
    (ad : Addr) (m c : Nat) (news : List Value) (hx : a.eval x = .slice (some ad) m c) (hl : news.length = m * 2) (hnews : ∀ j u, news[j]? = some u → w.cell? (ad.add j) = some u) (h1 : ∀ u ∈ news, u.oneCell' = true) (hroom : n + m ≤ cap)
    (h : ∀ w', w'.ownsRow base 82 2 (.slice (some ⟨g, 0, none⟩) (n + m) cap) (n + m) (xs ++ news) → w.grownBy w' (some g) → K { a with tmps := a.tmps.setIfInBounds t (.slice (some ⟨g, 0, none⟩) (n + m) cap) } w') : o.wp Try.prog a w K Q := by
  obtain ⟨i0, hi0, hz0, hz1, hz2⟩ := info_parts info82
  obtain ⟨w', hr, h2, h3⟩ := run_append_fits (P := Try.prog) (w := w) base 58 o.type 82 i0 2 Try.underlying58 hi0 hz1 g n cap xs hown ad m c news hl hnews h1 hroom
  unfold Oper.wp execOp
  simp only [ho, resolve, invoke, builtin, Sem.run_bind, Sem.run_pure, Result.andThen_ok, List.map_toArray, List.map_cons, List.map_nil, hs, hx, hr]
  rw [Oper.upon_value, hd]
  exact h w' h2 h3

set_option maxRecDepth 100000 in
set_option maxHeartbeats 1000000 in
theorem delete1_row (g c base i : Nat) (l : List Tx) (cur : List Value) (w : World) (hC : Cel w g cur) (hl3 : cur.length = c * 2) (hct : cur.take (l.length * 2) = l.flatMap txL) (hlc : l.length ≤ c) (hcm : c ≤ maxLen) (hi : i < l.length) (hbg : base ≤ g) :
    Calls Try.prog 53 #[.slice (some ⟨g, 0, none⟩) l.length c, .int .i64 i, .int .i64 ((i : Int) + 1)] w fun e w' => e = .returned (.slice (some ⟨g, 0, none⟩) (l.length - 1) c) ∧ w'.ownsRow base 82 2 (.slice (some ⟨g, 0, none⟩) (l.length - 1) c) (l.length - 1) ((l.take i ++ l.drop (i + 1)).flatMap txL) ∧ w.grownBy w' (some g) := by
  have hte : cur.take (i * 2) = (l.take i).flatMap txL := by
    have := congrArg (fun z => z.take (i * 2)) hct
    simp only [List.take_take] at this
    rw [show min (i * 2) (l.length * 2) = i * 2 from by simp only [Nat.min_def]; split <;> omega] at this
    rw [this]
    conv => lhs; rw [← List.take_append_drop i l, List.flatMap_append]
    rw [List.take_left' (by rw [flat_length txL_len, List.length_take]; omega)]
  have hflat : ∀ j u, ((l.drop (i + 1)).flatMap txL)[j]? = some u → cur[(i + 1) * 2 + j]? = some u := fun j u hu => by
    have e : (l.drop (i + 1)).flatMap txL = (cur.take (l.length * 2)).drop ((i + 1) * 2) := by
      rw [hct]
      conv => rhs; rw [← List.take_append_drop (i + 1) l, List.flatMap_append]
      rw [List.drop_left' (by rw [flat_length txL_len, List.length_take]; omega)]
    rw [e, List.getElem?_drop, List.getElem?_take] at hu
    split at hu
    · exact hu
    · cases hu
  have hXl : ((l.drop (i + 1)).flatMap txL).length = (l.length - (i + 1)) * 2 := by rw [flat_length txL_len, List.length_drop]
  have hone : ∀ v ∈ (l.drop (i + 1)).flatMap txL, v.oneCell' = true := flat_one txL_one _
  have hR : (l.take i ++ l.drop (i + 1)).flatMap txL = (l.take i).flatMap txL ++ (l.drop (i + 1)).flatMap txL := by rw [List.flatMap_append]
  have hown : w.drew.ownsRow base 82 2 (.slice (some ⟨g, 0, none⟩) i c) i ((l.take i).flatMap txL) := own_shut (w := w.drew) hbg hC (by omega) hcm (by omega) hte
  have hCd : Cel w.drew g cur := hC
  unfold maxLen at hcm
  clear hct hte
  generalize (l.take i ++ l.drop (i + 1)).flatMap txL = RES at hR ⊢
  generalize (l.drop (i + 1)).flatMap txL = X at *
  generalize (l.take i).flatMap txL = AA at *
  have hsrc : ∀ j u, X[j]? = some u → w.drew.cell? (Addr.add (if c = i + 1 then ⟨g, 0, none⟩ else ⟨g, (i + 1) * 2, none⟩) j) = some u := fun j u hu => by
    by_cases hc : c = i + 1
    · have := (List.getElem?_eq_some_iff.1 hu).1
      omega
    · rw [if_neg hc, Addr.add_mid]
      exact (hCd.cell _).trans (hflat j u hu)
  obtain ⟨ad, had⟩ : ∃ ad : Addr, ad = if c = i + 1 then ⟨g, 0, none⟩ else ⟨g, (i + 1) * 2, none⟩ := ⟨_, rfl⟩
  rw [← had] at hsrc
  replace had := Lib.hid had
  have hci : ¬ c = i := by omega
  have hcn : ¬ c = l.length - 1 := by omega
  have hii : ((i : Int) == (i : Int) + 1) = false := by simp; omega
  replace hl3 := Lib.hid hl3
  replace hXl := Lib.hid hXl
  replace hone := Lib.hid hone
  replace hR := Lib.hid hR
  replace hown := Lib.hid hown
  replace hsrc := Lib.hid hsrc
  replace hC := Lib.hid hC
  clear hflat hCd
  go_enter Try.func53, Try.ntmps53
  go_wp2_with fail
  replace hii := Lib.hid hii
  replace hci := Lib.hid hci
  replace hcn := Lib.hid hcn
  refine wpAnyH.region rfl (fun w' => True) ?_
  refine wpAnyH.takeT (i := 0) (t := 20) (v := .slice (some ⟨g, 0, none⟩) l.length c) rfl rfl (by decide +kernel) (by decide +kernel) (by decide +kernel) (fun _ _ _ h => h.elim) (.inl ⟨rfl, fun w' hS => ?_⟩) trivial ?_
  · go_simp
    all_goals first | done | (rw [IntKind.wrap_i64] <;> omega) | (intro hh; exfalso; omega) | (split <;> first | (rw [had.out]; by_cases hcc : c = i + 1 <;> simp [hcc]; done) | (exfalso; omega))
  try simp only [List.setIfInBounds_toArray, List.set_cons_zero, List.set_cons_succ]
  refine wpAnyH.takeT (i := 1) (t := 21) (v := .int .i64 i) rfl rfl (by decide +kernel) (by decide +kernel) (by decide +kernel) (fun _ _ _ h => h.elim) (.inl ⟨rfl, fun w' hS => ?_⟩) trivial ?_
  · go_simp
    all_goals first | done | (rw [IntKind.wrap_i64] <;> omega) | (intro hh; exfalso; omega) | (split <;> first | (rw [had.out]; by_cases hcc : c = i + 1 <;> simp [hcc]; done) | (exfalso; omega))
  try simp only [List.setIfInBounds_toArray, List.set_cons_zero, List.set_cons_succ]
  refine wpAnyH.takeT (i := 2) (t := 22) (v := .slice (some ⟨g, 0, none⟩) i c) rfl rfl (by decide +kernel) (by decide +kernel) (by decide +kernel) (fun _ _ _ h => h.elim) (.inl ⟨rfl, fun w' hS => ?_⟩) trivial ?_
  · go_simp
    all_goals first | done | (rw [IntKind.wrap_i64] <;> omega) | (intro hh; exfalso; omega) | (split <;> first | (rw [had.out]; by_cases hcc : c = i + 1 <;> simp [hcc]; done) | (exfalso; omega))
  try simp only [List.setIfInBounds_toArray, List.set_cons_zero, List.set_cons_succ]
  refine wpAnyH.takeT (i := 3) (t := 23) (v := .slice (some ⟨g, 0, none⟩) l.length c) rfl rfl (by decide +kernel) (by decide +kernel) (by decide +kernel) (fun _ _ _ h => h.elim) (.inl ⟨rfl, fun w' hS => ?_⟩) trivial ?_
  · go_simp
    all_goals first | done | (rw [IntKind.wrap_i64] <;> omega) | (intro hh; exfalso; omega) | (split <;> first | (rw [had.out]; by_cases hcc : c = i + 1 <;> simp [hcc]; done) | (exfalso; omega))
  try simp only [List.setIfInBounds_toArray, List.set_cons_zero, List.set_cons_succ]
  refine wpAnyH.takeT (i := 4) (t := 24) (v := .int .i64 ((i : Int) + 1)) rfl rfl (by decide +kernel) (by decide +kernel) (by decide +kernel) (fun _ _ _ h => h.elim) (.inl ⟨rfl, fun w' hS => ?_⟩) trivial ?_
  · go_simp
    all_goals first | done | (rw [IntKind.wrap_i64] <;> omega) | (intro hh; exfalso; omega) | (split <;> first | (rw [had.out]; by_cases hcc : c = i + 1 <;> simp [hcc]; done) | (exfalso; omega))
  try simp only [List.setIfInBounds_toArray, List.set_cons_zero, List.set_cons_succ]
  refine wpAnyH.takeT (i := 5) (t := 25) (v := .slice (some ad) (l.length - (i + 1)) (c - (i + 1))) rfl rfl (by decide +kernel) (by decide +kernel) (by decide +kernel) (fun _ _ _ h => h.elim) (.inl ⟨rfl, fun w' hS => ?_⟩) trivial ?_
  · go_simp
    all_goals first | done | (rw [IntKind.wrap_i64] <;> omega) | (intro hh; exfalso; omega) | (split <;> first | (rw [had.out]; by_cases hcc : c = i + 1 <;> simp [hcc]; done) | (exfalso; omega))
  try simp only [List.setIfInBounds_toArray, List.set_cons_zero, List.set_cons_succ]
  refine wpAnyH.one (i := 6) (by decide +kernel) rfl rfl ?_
  refine wp_append_fit (.tmp 22) (.tmp 25) rfl 26 rfl base g i c AA rfl hown.out _ (l.length - (i + 1)) (c - (i + 1)) X rfl hXl.out hsrc.out hone.out (by omega) ?_
  intro w2 hown2 hg2
  rw [show i + (l.length - (i + 1)) = l.length - 1 from by omega] at hown2 ⊢
  refine ⟨trivial, ?_⟩
  try simp only [List.setIfInBounds_toArray, List.set_cons_zero, List.set_cons_succ]
  have hone2 := own_open hown2
  obtain ⟨g', cur2, e1, hbg', hC2, h21, h22, h23, h24⟩ : ∃ g' cur2, (some ⟨g, 0, none⟩ : Option Addr) = some ⟨g', 0, none⟩ ∧ base ≤ g' ∧ Cel w2 g' cur2 ∧ l.length - 1 ≤ c ∧ c ≤ maxLen ∧ cur2.length = c * 2 ∧ cur2.take ((l.length - 1) * 2) = AA ++ X := by
    rcases hone2 with ⟨h, _⟩ | h
    · cases h
    · exact h
  cases e1
  clear hone2
  obtain ⟨zs, hzl, hcl⟩ := run_clear58 w2 g ((l.length - 1) * 2) 1 (c - (l.length - 1)) (hC2.there (by rw [h23]; omega))
  have hC3 := Cel.setCells zs ((l.length - 1) * 2) w2 cur2 hC2 (by rw [h23, hzl]; omega)
  have hg3 : w2.grownBy (w2.setCells g ((l.length - 1) * 2) zs) (some g) := gr_setCells zs _ w2 (World.grownBy.refl _ _)
  have hfin : (splice cur2 ((l.length - 1) * 2) zs).take ((l.length - 1) * 2) = RES := by
    unfold splice
    rw [List.take_left' (by rw [List.length_take]; omega), h24, hR.out]
  have hlen3 : (splice cur2 ((l.length - 1) * 2) zs).length = c * 2 := by rw [length_splice _ _ _ (by rw [h23, hzl]; omega), h23]
  have hbf : w.grownBy (w2.setCells g ((l.length - 1) * 2) zs) (some g) := gr_trg (gr_drew' hg2) hg3
  generalize w2.setCells g ((l.length - 1) * 2) zs = w3 at hcl hC3 hg3 hbf
  generalize splice cur2 ((l.length - 1) * 2) zs = cur3 at hC3 hfin hlen3
  have hres := own_shut hbg' hC3 (by omega) h22 hlen3 hfin
  clear hfin hlen3 hC3 hzl h24 h23 hC2 hown2 hg2 hg3
  have hl1 : ((l.length - 1 : Nat) : Int) ≤ (l.length : Int) := by omega
  have hl2 : (l.length : Int) ≤ (c : Int) := by omega
  have hl4 : ¬ c = l.length - 1 := hcn.out
  have hl5 : l.length - (l.length - 1) = 1 := by omega
  refine wpAnyH.takeT (i := 7) (t := 0) (v := .slice (some ⟨g, 0, none⟩) (l.length - 1) c) rfl rfl (by decide +kernel) (by decide +kernel) (by decide +kernel) (fun _ _ _ h => h.elim) (.inl ⟨rfl, fun w' hS => ?_⟩) trivial ?_
  · go_simp
  try simp only [List.setIfInBounds_toArray, List.set_cons_zero, List.set_cons_succ]
  refine wpAnyH_done (by decide +kernel) ?_ _
  refine NoPanic.normal ?_
  go_wp2_with fail
  go_ret
  exact ⟨rfl, hres, hbf⟩

/-- slices.Delete(s, i, i + 1). -/
theorem delete1_any (A : Option Addr) (c base i : Nat) (l : List Tx) (w : World) (hown : w.ownsRow base 82 2 (.slice A l.length c) l.length (l.flatMap txL)) (hi : i < l.length) :
    Calls Try.prog 53 #[.slice A l.length c, .int .i64 i, .int .i64 ((i : Int) + 1)] w fun e w' => e = .returned (.slice A (l.length - 1) c) ∧ w'.ownsRow base 82 2 (.slice A (l.length - 1) c) (l.length - 1) ((l.take i ++ l.drop (i + 1)).flatMap txL) ∧ w.grownBy w' (Value.slice A l.length c).ownBlock := by
  rcases own_open hown with ⟨_, h0, _, _⟩ | ⟨g, cur, rfl, hb, hC, h1, h2, h3, h4⟩
  · omega
  · exact (delete1_row g c base i l cur w hC h3 h4 h1 h2 hi hb)
end Go.Proofs.Ytejjiiakficafaa
