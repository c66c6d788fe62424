/- The document's disk: a block turned; Sync (33). -/
import Derived.Test.YteaenhmiomoocaaRx
namespace Go.Proofs.Yteaenhmiomoocaa
open Go.RowKit Go.Shelf
attribute [local go_sem] Oper.semAt_some

section
variable {X Y : World} {n0 rb g c : Nat} {bs : List Bk} {d d' : Dsk}
/-- Block j turned into x. -/
theorem RfAt.put {F : Nat → Prop} (h : RfAt F X n0 rb g c bs d) (hrb : rb < n0) {j : Nat} (hj : j < bs.length) (x : Bk) (hrow : Y.ownsRow n0 67 3 (.slice (some ⟨g, 0, none⟩) bs.length c) bs.length (bkC (bs.set j x)))
    (hk : ∀ b, b < X.heap.size → b ≠ g → Y.heap[b]? = X.heap[b]?) (hlen : d'.ts.length = d.ts.length) (ho : d'.off = d.off) (hf : d'.fuse = d.fuse)
    (hother : ∀ i : Nat, i ≠ j → (lookI d'.bad (i : Int)).getD false = (lookI d.bad (i : Int)).getD false ∧ d'.ts[i]?.getD [] = d.ts[i]?.getD [] ∧ vsOf d' i = vsOf d i)
    (hb : x.bad = (lookI d'.bad (j : Int)).getD false) (ht : x.bad = false → BufT F X x.tv (d'.ts[j]?.getD [])) (hv : (x.vv = .slice none 0 0 ∧ vsOf d' j = []) ∨ (x.vv = bs[j].vv ∧ vsOf d' j = vsOf d j))
    (hs : ∃ A n c, x.tv = .slice A n c) : RfAt F Y n0 rb g c (bs.set j x) d' := by
  have hgb := h.gl.1
  have hgT := h.gl.2
  have kr : Y.heap[rb]? = X.heap[rb]? := hk rb h.box.lt (by omega)
  have k5 : ∀ b, TyAt X b 5 → Y.heap[b]? = X.heap[b]? := fun b ht => hk b ht.lt (ht.ne hgT (by decide))
  have kq : ∀ i (hi : i < bs.length) q, bs[i].vv.ownBlock = some q → Y.heap[q]? = X.heap[q]? := fun i hi q e => hk q (h.own (List.getElem_mem hi) e).2.lt ((h.own (List.getElem_mem hi) e).2.ne hgT (by decide))
  have hown : ∀ q, x.vv.ownBlock = some q → bs[j].vv.ownBlock = some q := fun q e => by
    rcases hv with ⟨h1, _⟩ | ⟨h1, _⟩
    · rw [h1] at e; cases e
    · rw [h1] at e; exact e
  refine ⟨?_, h.boxT.of_heap kr, ?_, ?_, ?_, ?_, ?_, ?_, ?_⟩
  · rw [List.length_set, ho, hf]; exact h.box.of_heap kr
  · rw [List.length_set]; exact hrow
  · rw [List.length_set, hlen]; exact h.len
  · intro i hi
    rw [List.length_set] at hi
    rw [List.getElem_set]
    split
    · rename_i e; subst e; exact hb
    · rename_i e; rw [(hother i (fun h => e h.symm)).1]; exact h.bad i hi
  · intro i hi hbd
    rw [List.length_set] at hi
    rw [List.getElem_set] at hbd ⊢
    split at hbd
    · rename_i e; subst e
      simp only [if_true]
      exact (ht hbd).keep k5
    · rename_i e
      rw [if_neg e, (hother i (fun h => e h.symm)).2.1]
      exact (h.txt i hi hbd).keep k5
  · intro i hi
    rw [List.length_set] at hi
    rw [List.getElem_set]
    by_cases e : j = i
    · subst e
      simp only [if_true]
      rcases hv with ⟨h1, h2⟩ | ⟨h1, h2⟩
      · rw [h1, h2]
        exact ⟨[], World.ownsRow_nil _ _ _ _, fun k x hx => by simp at hx⟩
      · rw [h1, h2]
        obtain ⟨hs, hr, hx⟩ := h.ver j hj
        exact ⟨hs, ownsRow_keep hr (fun q e => kq j hj q e), fun k x hk' => (hx k x hk').imp fun v hv => ⟨hv.1, hv.2.keep k5⟩⟩
    · rw [if_neg e, (hother i (fun h => e h.symm)).2.2]
      obtain ⟨hs, hr, hx⟩ := h.ver i hi
      exact ⟨hs, ownsRow_keep hr (fun q e => kq i hi q e), fun k x hk' => (hx k x hk').imp fun v hv => ⟨hv.1, hv.2.keep k5⟩⟩
  · intro a b ha hb hab q hq
    rw [List.length_set] at ha hb
    rw [List.getElem_set] at hq ⊢
    by_cases haj : j = a
    · subst haj
      rw [if_neg hab]
      simp only [if_true] at hq
      exact h.sep j b ha hb hab q (hown q hq)
    · rw [if_neg haj] at hq
      by_cases hbj : j = b
      · subst hbj
        simp only [if_true]
        exact fun e => h.sep a j ha hb hab q hq (hown q e)
      · rw [if_neg hbj]
        exact h.sep a b ha hb hab q hq
  · intro y hy
    rcases List.mem_or_eq_of_mem_set hy with hy | rfl
    · exact h.sl y hy
    · exact hs
theorem FrB.put {j : Nat} (hj : j < bs.length) (x : Bk) (hk : ∀ b, b ≠ g → Y.heap[b]? = X.heap[b]?) (ho : Y.os = X.os ∧ Y.tape = X.tape ∧ Y.output = X.output) (hs : X.heap.size ≤ Y.heap.size) (hv : x.vv = .slice none 0 0 ∨ x.vv = bs[j].vv) : FrB X Y rb g bs (bs.set j x) :=
  ⟨ho.1, ho.2.1, ho.2.2, hs, fun b _ _ h2 _ => hk b h2, fun y hy q e => by
    rcases List.mem_or_eq_of_mem_set hy with hy | rfl
    · exact .inl ⟨y, hy, e⟩
    · rcases hv with hv | hv
      · rw [hv] at e; cases e
      · rw [hv] at e; exact .inl ⟨_, List.getElem_mem hj, e⟩⟩
end

theorem prD_congr {d : Dsk} {pr pr' : Int → Bool} (h : ∀ k : Int, (lookI d.vs k).isSome = true → pr k = pr' k) : prD d pr = prD d pr' := by
  simp only [prD, Dsk.mk.injEq, and_true]
  refine ⟨?_, ?_, ?_⟩
  · apply List.ext_getElem
    · simp
    · intro j h1 h2
      simp only [List.getElem_mapIdx]
      cases hv : lookI d.vs (j : Int) with
      | none => simp
      | some l => rw [h j (by rw [hv]; rfl)]
  · apply List.filter_congr
    intro p _
    cases hv : lookI d.vs p.1 with
    | none => simp
    | some l => rw [h p.1 (by rw [hv]; rfl)]
  · apply List.filter_congr
    intro p hp
    rw [h p.1 (lookI_some_mem hp)]
theorem bkC_set3 : ∀ (l : List Bk) j (_ : j < l.length) (a : Value) (b : Bool) (v : Value), (((bkC l).set (j * 3) a).set (j * 3 + 1) (.bool b)).set (j * 3 + 2) v = bkC (l.set j ⟨a, b, v⟩)
  | x :: l, 0, _, a, b, v => rfl
  | x :: l, j + 1, h, a, b, v => by
    have h1 := bkC_set3 l j (by simpa using h) a b v
    rw [show (j + 1) * 3 = j * 3 + 3 from by omega, show j * 3 + 3 + 1 = j * 3 + 1 + 3 from by omega, show j * 3 + 3 + 2 = j * 3 + 2 + 3 from by omega]
    show bkL x ++ (((bkC l).set (j * 3) a).set (j * 3 + 1) (.bool b)).set (j * 3 + 2) v = _
    rw [h1]; rfl
/-- The blocks ahead of i. -/
def preB (i : Nat) (k : Int) : Bool := decide (k < (i : Int))
theorem preB_zero {d : Dsk} {N : Nat} (hO : d.Ok N) : prD d (preB 0) = d := by
  refine (prD_congr (pr' := fun _ => false) fun k hk => ?_).trans (prD_none d)
  obtain ⟨l, hl⟩ := Option.isSome_iff_exists.1 hk
  have := (hO.vs k l hl).1
  simp [preB]; omega
theorem preB_skip {d : Dsk} {i : Nat} (h : lookI d.vs (i : Int) = none) : prD d (preB (i + 1)) = prD d (preB i) := by
  refine prD_congr fun k hk => ?_
  by_cases e : k = (i : Int)
  · subst e; rw [h] at hk; cases hk
  · simp only [preB]
    rw [decide_eq_decide]
    omega
theorem preB_step {d : Dsk} {i : Nat} {l : List Tx} (h : lookI d.vs (i : Int) = some l) : prD d (preB (i + 1)) = { prD d (preB i) with ts := (prD d (preB i)).ts.set i (lastT l), bad := delI (prD d (preB i)).bad i, vs := delI (prD d (preB i)).vs i } := by
  rw [← prD_step h]
  congr 1
  funext k
  simp only [preB]
  rw [Bool.eq_iff_iff]
  simp
  omega
theorem preB_all {d : Dsk} {N : Nat} (hO : d.Ok N) : prD d (preB d.ts.length) = syncS d := prD_all fun k hk => by
  obtain ⟨l, hl⟩ := Option.isSome_iff_exists.1 hk
  have := (hO.vs k l hl).2.1
  simp [preB]; omega
theorem preB_vs (d : Dsk) {i j : Nat} (h : i ≤ j) : vsOf (prD d (preB i)) j = vsOf d j := by
  unfold vsOf prD
  dsimp only
  rw [lookI_filter, if_neg (by simp [preB]; omega)]

set_option maxRecDepth 100000 in
set_option maxHeartbeats 4000000 in
theorem rsync_any {F : Nat → Prop} (w : World) (n0 rb g c : Nat) (bs : List Bk) (d : Dsk) (N : Nat) (h : RfAt F w n0 rb g c bs d) (hrb : rb < n0) (hO : d.Ok N) (hN : N < 549755813888) :
    Calls Try.prog 33 #[.pointer (some ⟨rb, 0, none⟩)] w fun e w' => e = .returned (.int .i64 (syncD d).1) ∧ ∃ bs', RfAt F w' n0 rb g c bs' (syncD d).2 ∧ FrB w w' rb g bs bs' := by
  have hle := hO.len
  obtain ⟨P, hP⟩ : ∃ P, powr d = P := ⟨_, rfl⟩
  have HP := Lib.hid hP
  have hR0 : syncD d = if (powr d).1 then (0, syncS (powr d).2) else (8, (powr d).2) := rfl
  have hOp : (powr d).2.Ok N := powr_ok hO
  have hpl : (powr d).2.ts.length = d.ts.length := powr_len d
  rw [hP] at hR0 hOp hpl
  obtain ⟨p1, p2⟩ := P
  dsimp only at hR0 hOp hpl
  have hop := rop_any w n0 rb g c bs d N h hrb hO
  rw [hP] at hop
  dsimp only at hop
  replace hop := Lib.hid hop
  clear hP
  cases p1 with
  | false =>
    simp only [Bool.false_eq_true, if_false] at hR0
    have HR := Lib.hid hR0
    clear hR0
    go_enter Try.func33, Try.ntmps33
    go_wp2_with (go_at_call 41; refine hop.out.mono ?_; rintro e w1 ⟨rfl, h1, hg1⟩)
    go_ret
    exact ⟨by rw [HR.out]; rfl, bs, by rw [HR.out]; exact h1, FrB.of_box hg1 _ _⟩
  | true =>
    simp only [if_true] at hR0
    have HR := Lib.hid hR0
    clear hR0
    have hlb := h.len
    have hb1 : bs.length ≤ 4096 := by omega
    have hbn := Lib.hid (show bs.length = p2.ts.length from by omega)
    clear hpl hlb
    go_enter Try.func33, Try.ntmps33
    go_wp2_with (go_at_call 41; refine hop.out.mono ?_; rintro e w1 ⟨rfl, h1, hg1⟩)
    have hF1 := FrB.of_box hg1 g bs
    clear hop h hg1
    go_loopw [3] (fun u wr => ∃ (i : Nat) (bs' : List Bk), i ≤ bs.length ∧ u = .int .i64 i ∧ bs'.length = bs.length ∧ RfAt F wr n0 rb g c bs' (prD p2 (preB i)) ∧ FrB w wr rb g bs bs') (fun u _ => bs.length - (intOf u).toNat)
    case atStart => exact ⟨0, bs, Nat.zero_le _, rfl, rfl, by rw [preB_zero hOp]; exact h1, hF1⟩
    case round =>
      obtain ⟨i, bs', hi, rfl, hbl, hr, hF⟩ := hrel
      clear h1 hF1
      have hi0 : (0 : Int) ≤ (i : Int) := by omega
      have q := hr.box.cell
      have l := hr.box.lt
      have hgl := hr.gl.2.lt
      rw [hbl] at q
      replace hbl := Lib.hid hbl
      by_cases hlt : i < bs.length
      · have hj : i < bs'.length := by rw [hbl.out]; exact hlt
        obtain ⟨t0, t1, t2⟩ := hr.cells hj
        obtain ⟨AV, cV, hve⟩ := hr.vlen hj
        rw [hve, preB_vs p2 (Nat.le_refl i)] at t2
        cases hv : lookI p2.vs (i : Int) with
        | none =>
          have hz : vsOf p2 i = [] := by unfold vsOf; rw [hv]; rfl
          rw [hz] at t2
          simp only [List.length_nil] at t2
          have hsk := Lib.hid (preB_skip hv)
          clear hz hv hve
          go_wp2_with fail
          go_roundw
          case rel => exact ⟨i + 1, bs', by omega, by go_num, hbl.out, by rw [hsk.out]; exact hr, hF⟩
          case measure => simp [intOf]; omega
        | some lv =>
          have hvs : vsOf p2 i = lv := by unfold vsOf; rw [hv]; rfl
          obtain ⟨_, _, hne, hlN, hl256⟩ := hOp.vs i lv hv
          have hpos : lv.length ≠ 0 := by simpa using hne
          obtain ⟨hs, hrow, hvr⟩ := hr.ver i hj
          rw [preB_vs p2 (Nat.le_refl i), hvs, hve] at hrow
          rw [preB_vs p2 (Nat.le_refl i), hvs] at hvr
          obtain ⟨v, hvk, hbuf⟩ := hvr (lv.length - 1) (lastT lv) (by rw [lastT_get hpos]; exact List.getElem?_eq_getElem (by omega))
          obtain ⟨A, c', e, htl⟩ := ownsRow_tells hrow
          injection e with e1 e2 e3
          subst e1 e3
          obtain ⟨gq, rfl, _, hgq, hcq⟩ := htl hpos
          have hcv := hcq _ _ hvk
          rw [hvs] at t2
          obtain ⟨m, hm⟩ : ∃ m, lv.length = m + 1 := ⟨lv.length - 1, by omega⟩
          rw [hm] at t2
          rw [show lv.length - 1 = m from by omega] at hcv
          have hm0 : (0 : Int) ≤ (m : Int) := by omega
          have hmN : m < 549755813888 := by omega
          have hst := Lib.hid (preB_step hv)
          have HBF := Lib.hid hbuf
          obtain ⟨bt, ct, hvE, _, _⟩ := hbuf
          rw [hvE] at hcv
          have HvE := Lib.hid hvE
          replace hve := Lib.hid hve
          replace hrow := Lib.hid hrow
          have hlast := Lib.hid (hl256 _ (lastT_mem hne))
          have HR2 := Lib.hid hr
          generalize hLT : lastT lv = tx at *
          clear hLT hvs hv hl256 hlN hpos hne hvr htl hcq hvk hm hvE
          go_wp2_with fail
          obtain ⟨X, hXe⟩ : ∃ X, wr.drew = X := ⟨_, rfl⟩
          have hX : RfAt F X n0 rb g c bs' (prD p2 (preB i)) := by rw [← hXe]; exact HR2.out.below (bl_drew (Below.refl _ _))
          have hFX : FrB w X rb g bs bs' := by rw [← hXe]; exact hF.trans (FrB.of_below (bl_drew (Below.refl _ _)) _ _ _)
          have hBX : BufT F X v tx := by rw [← hXe]; exact HBF.out.below (bl_drew (Below.refl _ _))
          have x0 : X.cell? ⟨rb, 0, none⟩ = some (.slice (some ⟨g, 0, none⟩) bs.length c) := by rw [← hXe]; exact (q 0)
          have x2 : X.cell? ⟨g, i * 3 + 2, none⟩ = some (.slice (some ⟨gq, 0, none⟩) (m + 1) cV) := by rw [← hXe]; exact t2
          have xv : X.cell? ⟨gq, m, none⟩ = some (.slice (some ⟨bt, 0, none⟩) tx.length ct) := by rw [← hXe]; exact hcv
          clear q l hgl t0 t1 t2 hcv hr hF HR2 HBF hgq
          refine anyBut.region rfl 19 (fun w' => w' = X) ?_
          rw [hXe]
          clear hXe
          try simp only [List.setIfInBounds_toArray, List.set_cons_zero, List.set_cons_succ]
          refine anyBut.takeW (i := 0) (t := 28) (v := (.pointer (some ⟨rb, 0, none⟩))) (by decide +kernel) rfl rfl (by decide +kernel) (by decide +kernel) (by decide +kernel) (fun _ _ _ h => h.elim) (.inl ⟨rfl, fun w' hS => ?_⟩) rfl ?_
          · subst hS
            go_simp
          try simp only [List.setIfInBounds_toArray, List.set_cons_zero, List.set_cons_succ]
          refine anyBut.takeW (i := 1) (t := 29) (v := (.pointer (some ⟨rb, 0, none⟩))) (by decide +kernel) rfl rfl (by decide +kernel) (by decide +kernel) (by decide +kernel) (fun _ _ _ h => h.elim) (.inl ⟨rfl, fun w' hS => ?_⟩) rfl ?_
          · subst hS
            go_simp
          try simp only [List.setIfInBounds_toArray, List.set_cons_zero, List.set_cons_succ]
          refine anyBut.takeW (i := 2) (t := 30) (v := (.pointer (some ⟨rb, 0, none⟩))) (by decide +kernel) rfl rfl (by decide +kernel) (by decide +kernel) (by decide +kernel) (fun _ _ _ h => h.elim) (.inl ⟨rfl, fun w' hS => ?_⟩) rfl ?_
          · subst hS
            go_simp
          try simp only [List.setIfInBounds_toArray, List.set_cons_zero, List.set_cons_succ]
          refine anyBut.takeW (i := 3) (t := 31) (v := (.slice (some ⟨g, 0, none⟩) bs.length c)) (by decide +kernel) rfl rfl (by decide +kernel) (by decide +kernel) (by decide +kernel) (fun _ _ _ h => h.elim) (.inl ⟨rfl, fun w' hS => ?_⟩) rfl ?_
          · subst hS
            go_simp
          try simp only [List.setIfInBounds_toArray, List.set_cons_zero, List.set_cons_succ]
          refine anyBut.takeW (i := 4) (t := 32) (v := (.int .i64 (i : Nat))) (by decide +kernel) rfl rfl (by decide +kernel) (by decide +kernel) (by decide +kernel) (fun _ _ _ h => h.elim) (.inl ⟨rfl, fun w' hS => ?_⟩) rfl ?_
          · subst hS
            go_simp
          try simp only [List.setIfInBounds_toArray, List.set_cons_zero, List.set_cons_succ]
          refine anyBut.takeW (i := 5) (t := 33) (v := (.pointer (some ⟨rb, 0, none⟩))) (by decide +kernel) rfl rfl (by decide +kernel) (by decide +kernel) (by decide +kernel) (fun _ _ _ h => h.elim) (.inl ⟨rfl, fun w' hS => ?_⟩) rfl ?_
          · subst hS
            go_simp
          try simp only [List.setIfInBounds_toArray, List.set_cons_zero, List.set_cons_succ]
          refine anyBut.takeW (i := 6) (t := 34) (v := (.pointer (some ⟨rb, 0, none⟩))) (by decide +kernel) rfl rfl (by decide +kernel) (by decide +kernel) (by decide +kernel) (fun _ _ _ h => h.elim) (.inl ⟨rfl, fun w' hS => ?_⟩) rfl ?_
          · subst hS
            go_simp
          try simp only [List.setIfInBounds_toArray, List.set_cons_zero, List.set_cons_succ]
          refine anyBut.takeW (i := 7) (t := 35) (v := (.pointer (some ⟨rb, 0, none⟩))) (by decide +kernel) rfl rfl (by decide +kernel) (by decide +kernel) (by decide +kernel) (fun _ _ _ h => h.elim) (.inl ⟨rfl, fun w' hS => ?_⟩) rfl ?_
          · subst hS
            go_simp
          try simp only [List.setIfInBounds_toArray, List.set_cons_zero, List.set_cons_succ]
          refine anyBut.takeW (i := 8) (t := 36) (v := (.slice (some ⟨g, 0, none⟩) bs.length c)) (by decide +kernel) rfl rfl (by decide +kernel) (by decide +kernel) (by decide +kernel) (fun _ _ _ h => h.elim) (.inl ⟨rfl, fun w' hS => ?_⟩) rfl ?_
          · subst hS
            go_simp
          try simp only [List.setIfInBounds_toArray, List.set_cons_zero, List.set_cons_succ]
          refine anyBut.takeW (i := 9) (t := 37) (v := (.int .i64 (i : Nat))) (by decide +kernel) rfl rfl (by decide +kernel) (by decide +kernel) (by decide +kernel) (fun _ _ _ h => h.elim) (.inl ⟨rfl, fun w' hS => ?_⟩) rfl ?_
          · subst hS
            go_simp
          try simp only [List.setIfInBounds_toArray, List.set_cons_zero, List.set_cons_succ]
          refine anyBut.takeW (i := 10) (t := 38) (v := (.pointer (some ⟨g, i * 3, none⟩))) (by decide +kernel) rfl rfl (by decide +kernel) (by decide +kernel) (by decide +kernel) (fun _ _ _ h => h.elim) (.inl ⟨rfl, fun w' hS => ?_⟩) rfl ?_
          · subst hS
            go_simp
          try simp only [List.setIfInBounds_toArray, List.set_cons_zero, List.set_cons_succ]
          refine anyBut.takeW (i := 11) (t := 39) (v := (.pointer (some ⟨g, i * 3 + 2, none⟩))) (by decide +kernel) rfl rfl (by decide +kernel) (by decide +kernel) (by decide +kernel) (fun _ _ _ h => h.elim) (.inl ⟨rfl, fun w' hS => ?_⟩) rfl ?_
          · subst hS
            go_simp
          try simp only [List.setIfInBounds_toArray, List.set_cons_zero, List.set_cons_succ]
          refine anyBut.takeW (i := 12) (t := 40) (v := (.slice (some ⟨gq, 0, none⟩) (m + 1) cV)) (by decide +kernel) rfl rfl (by decide +kernel) (by decide +kernel) (by decide +kernel) (fun _ _ _ h => h.elim) (.inl ⟨rfl, fun w' hS => ?_⟩) rfl ?_
          · subst hS
            go_simp
          try simp only [List.setIfInBounds_toArray, List.set_cons_zero, List.set_cons_succ]
          refine anyBut.takeW (i := 13) (t := 41) (v := (.int .i64 ((m + 1 : Nat) : Int))) (by decide +kernel) rfl rfl (by decide +kernel) (by decide +kernel) (by decide +kernel) (fun _ _ _ h => h.elim) (.inl ⟨rfl, fun w' hS => ?_⟩) rfl ?_
          · subst hS
            go_simp
          try simp only [List.setIfInBounds_toArray, List.set_cons_zero, List.set_cons_succ]
          refine anyBut.takeW (i := 14) (t := 42) (v := (.int .i64 (m : Nat))) (by decide +kernel) rfl rfl (by decide +kernel) (by decide +kernel) (by decide +kernel) (fun _ _ _ h => h.elim) (.inl ⟨rfl, fun w' hS => ?_⟩) rfl ?_
          · subst hS
            go_simp
            exact IntWalk.i64_in _ (by omega)
          try simp only [List.setIfInBounds_toArray, List.set_cons_zero, List.set_cons_succ]
          refine anyBut.takeW (i := 15) (t := 43) (v := (.pointer (some ⟨gq, m, none⟩))) (by decide +kernel) rfl rfl (by decide +kernel) (by decide +kernel) (by decide +kernel) (fun _ _ _ h => h.elim) (.inl ⟨rfl, fun w' hS => ?_⟩) rfl ?_
          · subst hS
            go_simp
            intro hmm; exfalso; omega
          try simp only [List.setIfInBounds_toArray, List.set_cons_zero, List.set_cons_succ]
          refine anyBut.takeW (i := 16) (t := 44) (v := (.slice (some ⟨bt, 0, none⟩) tx.length ct)) (by decide +kernel) rfl rfl (by decide +kernel) (by decide +kernel) (by decide +kernel) (fun _ _ _ h => h.elim) (.inl ⟨rfl, fun w' hS => ?_⟩) rfl ?_
          · subst hS
            go_simp
          try simp only [List.setIfInBounds_toArray, List.set_cons_zero, List.set_cons_succ]
          refine anyBut.takeW (i := 17) (t := 45) (v := (.agg #[.slice (some ⟨bt, 0, none⟩) tx.length ct, .bool false, .slice none 0 0])) (by decide +kernel) rfl rfl (by decide +kernel) (by decide +kernel) (by decide +kernel) (fun _ _ _ h => h.elim) (.inl ⟨rfl, fun w' hS => ?_⟩) rfl ?_
          · subst hS
            go_simp
          try simp only [List.setIfInBounds_toArray, List.set_cons_zero, List.set_cons_succ]
          refine anyBut.one (i := 18) (by decide +kernel) rfl rfl ?_
          go_simp
          try simp only [List.setIfInBounds_toArray, List.set_cons_zero, List.set_cons_succ]
          refine anyBut.one (i := 19) (by decide +kernel) rfl rfl ?_
          obtain ⟨y0, y1, y2⟩ := hX.cells hj
          have y3 := ownsRow_unf hX.row
          have HX := Lib.hid hX
          clear hX
          go_simp
          try simp only [List.setIfInBounds_toArray, List.set_cons_zero, List.set_cons_succ]
          refine anyBut.done (by decide +kernel) ?_ _
          refine NoPanic.normal ?_
          have hrow3 := ownsRow_set (ownsRow_set (ownsRow_set HX.out.row (i * 3) (.slice (some ⟨bt, 0, none⟩) tx.length ct)) (i * 3 + 1) (.bool false)) (i * 3 + 2) (.slice none 0 0)
          rw [bkC_set3 bs' i hj] at hrow3
          have hkz : ∀ b, b ≠ g → (((X.setCell ⟨g, i * 3, none⟩ (.slice (some ⟨bt, 0, none⟩) tx.length ct)).setCell ⟨g, i * 3 + 1, none⟩ (.bool false)).setCell ⟨g, i * 3 + 2, none⟩ (.slice none 0 0)).heap[b]? = X.heap[b]? := fun b hb =>
            ((Below.heap_setCell _ _ _ _ hb).trans (Below.heap_setCell _ _ _ _ hb)).trans (Below.heap_setCell _ _ _ _ hb)
          have hFz := hFX.trans (FrB.put (X := X) (Y := ((X.setCell ⟨g, i * 3, none⟩ (.slice (some ⟨bt, 0, none⟩) tx.length ct)).setCell ⟨g, i * 3 + 1, none⟩ (.bool false)).setCell ⟨g, i * 3 + 2, none⟩ (.slice none 0 0)) (rb := rb) hj ⟨.slice (some ⟨bt, 0, none⟩) tx.length ct, false, .slice none 0 0⟩ hkz ⟨rfl, rfl, rfl⟩ (by simp [World.setCell]) (.inl rfl))
          have hfin := HX.out.put (d' := prD p2 (preB (i + 1))) hrb hj ⟨.slice (some ⟨bt, 0, none⟩) tx.length ct, false, .slice none 0 0⟩ hrow3 (fun b _ hb => hkz b hb) (by rw [prD_len, prD_len]) rfl rfl (fun k hk => by
              rw [hst.out]
              dsimp only
              refine ⟨by rw [lookI_delI, if_neg (by omega)], by rw [List.getElem?_set_ne (by omega)], ?_⟩
              unfold vsOf
              dsimp only
              rw [lookI_delI, if_neg (by omega)])
            (by rw [hst.out]; dsimp only; rw [lookI_delI, if_pos rfl]; rfl)
            (fun _ => by
              rw [hst.out]
              dsimp only
              have hln : i < (prD p2 (preB i)).ts.length := by rw [← HX.out.len]; exact hj
              rw [List.getElem?_set_self hln, ← HvE.out]
              exact hBX)
            (.inl ⟨rfl, by rw [hst.out]; unfold vsOf; dsimp only; rw [lookI_delI, if_pos rfl]; rfl⟩) ⟨_, _, _, rfl⟩
          generalize ((X.setCell ⟨g, i * 3, none⟩ (.slice (some ⟨bt, 0, none⟩) tx.length ct)).setCell ⟨g, i * 3 + 1, none⟩ (.bool false)).setCell ⟨g, i * 3 + 2, none⟩ (.slice none 0 0) = Z at *
          clear y0 y1 y2 y3 hrow3 hkz x0 x2 xv HX hFX hBX
          go_wp2_with fail
          go_roundw
          case rel => exact ⟨i + 1, _, by omega, by go_num, by rw [List.length_set]; exact hbl.out, hfin, hFz⟩
          case measure => simp [intOf]; omega
      · obtain rfl : i = bs.length := by omega
        have hsy := Lib.hid (show prD p2 (preB bs.length) = syncS p2 from by rw [hbn.out]; exact preB_all hOp)
        go_wp2_with fail
        go_ret
        exact ⟨by rw [HR.out]; rfl, bs', by rw [HR.out]; rw [hsy.out] at hr; exact hr, hF⟩
end Go.Proofs.Yteaenhmiomoocaa
