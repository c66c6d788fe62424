/- The document's disk: Write (31), walked. -/
import Derived.Test.YteaenhmiomoocaaRw
namespace Go.Proofs.Yteaenhmiomoocaa
open Go.RowKit Go.Shelf
attribute [local go_sem] Oper.semAt_some

theorem vs_len {d : Dsk} {N : Nat} (hO : d.Ok N) (j : Nat) : (vsOf d j).length ≤ N := by
  unfold vsOf
  cases h : lookI d.vs (j : Int) with
  | none => simp
  | some l => exact (hO.vs _ l h).2.2.2.1
theorem powr_len (d : Dsk) : (powr d).2.ts.length = d.ts.length := by rw [powr_ts]

set_option maxRecDepth 100000 in
set_option maxHeartbeats 4000000 in
theorem rwrite_any {F : Nat → Prop} (w : World) (n0 rb g c : Nat) (bs : List Bk) (d : Dsk) (N : Nat) (i : Int) (A : Option Addr) (n ca : Nat) (t : Tx) (h : RfAt F w n0 rb g c bs d) (hrb : rb < n0) (hn0 : n0 ≤ w.heap.size) (hO : d.Ok N) (hN : N < 549755813888) (hi64 : -9223372036854775808 ≤ i ∧ i ≤ 9223372036854775807)
    (ht : TextAt w (.slice A n ca) t) (htb : ∀ b o, A = some ⟨b, o, none⟩ → b ≠ rb ∧ ∀ x ∈ bs, x.vv.ownBlock ≠ some b) (hnl : n ≤ 140737488355328) (hF : ∀ q, F q → q < w.heap.size) :
    Calls Try.prog 31 #[.pointer (some ⟨rb, 0, none⟩), .int .i64 i, .slice A n ca] w fun e w' => e = .returned (.int .i64 (writeD d i t).1) ∧ ∃ bs', RfAt F w' n0 rb g c bs' (writeD d i t).2 ∧ FrB w w' rb g bs bs' := by
  have q := h.box.cell
  have l := h.box.lt
  have hg := h.gl.2.lt
  have hlen := h.len
  have hle := hO.len
  have hb1 : bs.length ≤ 4096 := by omega
  obtain ⟨i5, hi5, hz5, hs5, hy5⟩ := info_parts info5'
  obtain ⟨i30, hi30, hz30, hs30, hy30⟩ := info_parts info30
  have hnt : n = t.length := ht.src.1
  by_cases h1 : i < 0
  · have HR := Lib.hid (show writeD d i t = (1, d) from by unfold writeD; rw [if_pos (.inl h1)])
    clear hlen hnt
    go_enter Try.func31, Try.ntmps31
    go_wp2
    go_ret
    exact ⟨by rw [HR.out]; rfl, bs, by rw [HR.out]; exact h, FrB.of_below (Below.refl _ _) _ _ _⟩
  · by_cases h2 : (bs.length : Int) ≤ i
    · have HR := Lib.hid (show writeD d i t = (1, d) from by unfold writeD; rw [if_pos (.inr (.inl (by omega)))])
      clear hlen hnt
      go_enter Try.func31, Try.ntmps31
      go_wp2
      go_ret
      exact ⟨by rw [HR.out]; rfl, bs, by rw [HR.out]; exact h, FrB.of_below (Below.refl _ _) _ _ _⟩
    · obtain ⟨j, rfl⟩ : ∃ j : Nat, i = j := ⟨i.toNat, by omega⟩
      have hj : j < bs.length := by omega
      have hj0 : (0 : Int) ≤ (j : Int) := by omega
      by_cases h3 : n = 256
      · subst h3
        have hR0 : writeD d j t = if (powr d).1 then (0, writeS (powr d).2 j t) else (8, (powr d).2) := by unfold writeD; rw [if_neg (by omega)]
        clear h1 h2 hi64
        replace hnt := Lib.hid hnt
        replace hlen := Lib.hid hlen
        obtain ⟨P, hP⟩ : ∃ P, powr d = P := ⟨_, rfl⟩
        have HP := Lib.hid hP
        rw [hP] at hR0
        obtain ⟨p1, p2⟩ := P
        dsimp only at hR0
        have hop := rop_any w n0 rb g c bs d N h hrb hO
        rw [hP] at hop
        dsimp only at hop
        replace hop := Lib.hid hop
        clear hP
        cases p1 with
        | false =>
          simp only [Bool.false_eq_true, if_false] at hR0
          have HR := Lib.hid hR0
          clear hR0
          go_enter Try.func31, Try.ntmps31
          go_wp2_with (go_at_call 41; refine hop.out.mono ?_; rintro e w1 ⟨rfl, h1, hg1⟩)
          go_ret
          exact ⟨by rw [HR.out]; rfl, bs, by rw [HR.out]; exact h1, FrB.of_box hg1 _ _⟩
        | true =>
          simp only [if_true] at hR0
          have HR := Lib.hid hR0
          clear hR0
          go_enter Try.func31, Try.ntmps31
          go_wp2_with (go_at_call 41; refine hop.out.mono ?_; rintro e w1 ⟨rfl, h1, hg1⟩)
          have ht1 : TextAt w1 (.slice A 256 ca) t := ht.keep hg1.size (fun b e => by
            cases A with
            | none => cases e
            | some a =>
              simp [Value.ownBlock] at e
              subst e
              rcases ht with ⟨h0, _⟩ | ⟨b, o, c', e, hl, _⟩
              · rw [h0] at hnt; exact absurd hnt.out (by simp)
              · injection e with e1 e2 e3
                injection e1 with e1
                subst e1
                exact hg1.block _ hl (by have := (htb _ _ rfl).1; simpa using this))
          have hFr1 := FrB.of_box hg1 g bs
          have hz1 := hg1.size
          clear h hg1 hop q l hg ht
          obtain ⟨X, hXe⟩ : ∃ X, w1.drew = X := ⟨_, rfl⟩
          have hX : RfAt F X n0 rb g c bs p2 := by rw [← hXe]; exact h1.below (bl_drew (Below.refl _ _))
          have htX : TextAt X (.slice A 256 ca) t := by rw [← hXe]; exact ht1.below (bl_drew (Below.refl _ _))
          have hFX : FrB w X rb g bs bs := by rw [← hXe]; exact hFr1.trans (FrB.of_below (bl_drew (Below.refl _ _)) _ _ _)
          have hzX : w.heap.size ≤ X.heap.size := hFX.size
          clear h1 ht1 hFr1 hz1
          obtain ⟨hs, hrow, hvr⟩ := hX.ver j hj
          have hhl : hs.length = (vsOf p2 j).length := by have := hrow.1; omega
          obtain ⟨_, _, t2⟩ := hX.cells hj
          have hown := fun q e => hX.own (List.getElem_mem hj) (q := q) e
          have hboxX := hX.box
          have hgX := hX.gl.2.lt
          have hgo : some g ≠ bs[j].vv.ownBlock := fun e => (hown g e.symm).2.ne hX.gl.2 (by decide) rfl
          have hrbo : some rb ≠ bs[j].vv.ownBlock := fun e => by have := (hown rb e.symm).1; omega
          obtain ⟨AV, cV, hve⟩ := hX.vlen hj
          have hxo := (htb · · · |>.2 bs[j] (List.getElem_mem hj))
          rw [hve] at t2 hgo hrbo hrow hxo
          have HX := Lib.hid hX
          have HW := Lib.hid (fun (Y : World) (v : Value) (A' : Option Addr) (c' : Nat) => @RfAt.write X Y n0 rb g c bs p2 F hX hrb j hj hs v t A' c' hvr hhl)
          rw [hve] at HW
          have hvl : (vsOf p2 j).length < 549755813888 := by
            have e : p2.vs = d.vs := by have := powr_vs d; rw [HP.out] at this; exact this
            have := vs_len hO j
            unfold vsOf at this ⊢
            rw [e]
            omega
          generalize (vsOf p2 j).length = nV at *
          clear hX hown hvr
          refine anyBut.region rfl 20 (fun w' => X.grownBy w' (Value.slice AV nV cV).ownBlock) ?_
          rw [hXe]
          clear hXe
          try simp only [List.setIfInBounds_toArray, List.set_cons_zero, List.set_cons_succ]
          refine anyBut.takeW (i := 0) (t := 26) (v := (.pointer (some ⟨rb, 0, none⟩))) (by decide +kernel) rfl rfl (by decide +kernel) (by decide +kernel) (by decide +kernel) (fun _ _ _ h => h.elim) (.inl ⟨rfl, fun w' hS => ?_⟩) (World.grownBy.refl X _) ?_
          · go_simp
          try simp only [List.setIfInBounds_toArray, List.set_cons_zero, List.set_cons_succ]
          refine anyBut.takeW (i := 1) (t := 27) (v := (.pointer (some ⟨rb, 0, none⟩))) (by decide +kernel) rfl rfl (by decide +kernel) (by decide +kernel) (by decide +kernel) (fun _ _ _ h => h.elim) (.inl ⟨rfl, fun w' hS => ?_⟩) (World.grownBy.refl X _) ?_
          · go_simp
          try simp only [List.setIfInBounds_toArray, List.set_cons_zero, List.set_cons_succ]
          refine anyBut.takeW (i := 2) (t := 28) (v := (.pointer (some ⟨rb, 0, none⟩))) (by decide +kernel) rfl rfl (by decide +kernel) (by decide +kernel) (by decide +kernel) (fun _ _ _ h => h.elim) (.inl ⟨rfl, fun w' hS => ?_⟩) (World.grownBy.refl X _) ?_
          · go_simp
          try simp only [List.setIfInBounds_toArray, List.set_cons_zero, List.set_cons_succ]
          refine anyBut.takeW (i := 3) (t := 29) (v := (.slice (some ⟨g, 0, none⟩) bs.length c)) (by decide +kernel) rfl rfl (by decide +kernel) (by decide +kernel) (by decide +kernel) (fun _ _ _ h => h.elim) (.inl ⟨rfl, fun w' hS => ?_⟩) (World.grownBy.refl X _) ?_
          · have y0 := (hboxX.grown hS hrbo).get (j := 0) rfl
            go_simp
          try simp only [List.setIfInBounds_toArray, List.set_cons_zero, List.set_cons_succ]
          refine anyBut.takeW (i := 4) (t := 30) (v := (.int .i64 (j : Nat))) (by decide +kernel) rfl rfl (by decide +kernel) (by decide +kernel) (by decide +kernel) (fun _ _ _ h => h.elim) (.inl ⟨rfl, fun w' hS => ?_⟩) (World.grownBy.refl X _) ?_
          · go_simp
          try simp only [List.setIfInBounds_toArray, List.set_cons_zero, List.set_cons_succ]
          refine anyBut.takeW (i := 5) (t := 31) (v := (.pointer (some ⟨rb, 0, none⟩))) (by decide +kernel) rfl rfl (by decide +kernel) (by decide +kernel) (by decide +kernel) (fun _ _ _ h => h.elim) (.inl ⟨rfl, fun w' hS => ?_⟩) (World.grownBy.refl X _) ?_
          · go_simp
          try simp only [List.setIfInBounds_toArray, List.set_cons_zero, List.set_cons_succ]
          refine anyBut.takeW (i := 6) (t := 32) (v := (.pointer (some ⟨rb, 0, none⟩))) (by decide +kernel) rfl rfl (by decide +kernel) (by decide +kernel) (by decide +kernel) (fun _ _ _ h => h.elim) (.inl ⟨rfl, fun w' hS => ?_⟩) (World.grownBy.refl X _) ?_
          · go_simp
          try simp only [List.setIfInBounds_toArray, List.set_cons_zero, List.set_cons_succ]
          refine anyBut.takeW (i := 7) (t := 33) (v := (.pointer (some ⟨rb, 0, none⟩))) (by decide +kernel) rfl rfl (by decide +kernel) (by decide +kernel) (by decide +kernel) (fun _ _ _ h => h.elim) (.inl ⟨rfl, fun w' hS => ?_⟩) (World.grownBy.refl X _) ?_
          · go_simp
          try simp only [List.setIfInBounds_toArray, List.set_cons_zero, List.set_cons_succ]
          refine anyBut.takeW (i := 8) (t := 34) (v := (.slice (some ⟨g, 0, none⟩) bs.length c)) (by decide +kernel) rfl rfl (by decide +kernel) (by decide +kernel) (by decide +kernel) (fun _ _ _ h => h.elim) (.inl ⟨rfl, fun w' hS => ?_⟩) (World.grownBy.refl X _) ?_
          · have y0 := (hboxX.grown hS hrbo).get (j := 0) rfl
            go_simp
          try simp only [List.setIfInBounds_toArray, List.set_cons_zero, List.set_cons_succ]
          refine anyBut.takeW (i := 9) (t := 35) (v := (.int .i64 (j : Nat))) (by decide +kernel) rfl rfl (by decide +kernel) (by decide +kernel) (by decide +kernel) (fun _ _ _ h => h.elim) (.inl ⟨rfl, fun w' hS => ?_⟩) (World.grownBy.refl X _) ?_
          · go_simp
          try simp only [List.setIfInBounds_toArray, List.set_cons_zero, List.set_cons_succ]
          refine anyBut.takeW (i := 10) (t := 36) (v := (.pointer (some ⟨g, j * 3, none⟩))) (by decide +kernel) rfl rfl (by decide +kernel) (by decide +kernel) (by decide +kernel) (fun _ _ _ h => h.elim) (.inl ⟨rfl, fun w' hS => ?_⟩) (World.grownBy.refl X _) ?_
          · go_simp
          try simp only [List.setIfInBounds_toArray, List.set_cons_zero, List.set_cons_succ]
          refine anyBut.takeW (i := 11) (t := 37) (v := (.pointer (some ⟨g, j * 3 + 2, none⟩))) (by decide +kernel) rfl rfl (by decide +kernel) (by decide +kernel) (by decide +kernel) (fun _ _ _ h => h.elim) (.inl ⟨rfl, fun w' hS => ?_⟩) (World.grownBy.refl X _) ?_
          · go_simp
          try simp only [List.setIfInBounds_toArray, List.set_cons_zero, List.set_cons_succ]
          refine anyBut.takeW (i := 12) (t := 38) (v := (.slice AV nV cV)) (by decide +kernel) rfl rfl (by decide +kernel) (by decide +kernel) (by decide +kernel) (fun _ _ _ h => h.elim) (.inl ⟨rfl, fun w' hS => ?_⟩) (World.grownBy.refl X _) ?_
          · have y0 : w'.cell? ⟨g, j * 3 + 2, none⟩ = some (.slice AV nV cV) := (World.cell?_of_block (w := X) (w' := w') (a := ⟨g, j * 3 + 2, none⟩) (hS.block g hgX hgo)).trans t2
            go_simp
          try simp only [List.setIfInBounds_toArray, List.set_cons_zero, List.set_cons_succ]
          refine anyBut.takeW (i := 14) (t := 40) (v := (.slice A 256 ca)) (by decide +kernel) rfl rfl (by decide +kernel) (by decide +kernel) (by decide +kernel) (fun _ _ _ h => h.elim) (.inl ⟨rfl, fun w' hS => ?_⟩) (World.grownBy.refl X _) ?_
          · go_simp
          try simp only [List.setIfInBounds_toArray, List.set_cons_zero, List.set_cons_succ]
          refine anyBut.one (i := 13) (by decide +kernel) rfl rfl ?_
          go_simp
          have gY := gr_alloc (World.grownBy.refl X (Value.slice AV nV cV).ownBlock) (.cells #[] 5)
          refine ⟨gY, ?_⟩
          have own1 : (X.alloc (.cells #[] 5)).ownsRow X.heap.size 5 1 (.slice (some ⟨X.heap.size, 0, none⟩) 0 0) 0 [] := ownsRow_empty X 5 1 _ (Nat.le_refl _)
          try simp only [List.setIfInBounds_toArray, List.set_cons_zero, List.set_cons_succ]
          refine anyBut.one (i := 15) (by decide +kernel) rfl rfl ?_
          have hsrc : SrcAt (X.alloc (.cells #[] 5)) A 256 1 (tC t) := by
            have := (htX.below (bl_alloc (Below.refl _ _) (.cells #[] 5))).src.2
            rwa [← hnt.out] at this
          refine wp_append_src 41 rfl (.tmp 39) (.tmp 40) 30 rfl X.heap.size 5 i5 _ 1 1 Try.underlying30 hi5 hz5 hs5 hy5 rfl (by decide) (.slice (some ⟨X.heap.size, 0, none⟩) 0 0) 0 [] rfl own1 A 256 ca (tC t) rfl hsrc tC_one (by simp only [maxLen]; omega) (by omega) (by simp) ?_
          intro A2 c2 Y2 own2 g2
          have bY2 : Below X.heap.size X Y2 := bl_gr (bl_alloc (Below.refl _ _) _) (by simpa [Value.ownBlock] using g2) (Nat.le_refl _)
          simp only [Nat.zero_add, List.nil_append] at own2 ⊢
          refine ⟨.inr (gr_below bY2 _), ?_⟩
          try simp only [List.setIfInBounds_toArray, List.set_cons_zero, List.set_cons_succ]
          have hb2 : BufT F Y2 (.slice A2 t.length c2) t := by
            have o := own2
            rw [hnt.out] at o
            refine BufT.of_own o rfl (fun e => ?_) (fun q e h => by have := ownsRow_base o e; have := hF q h; omega)
            obtain ⟨A', c', e', htl⟩ := ownsRow_tells o
            cases e'
            obtain ⟨g', e2, _⟩ := htl (by have := hnt.out; omega)
            rw [e] at e2
            cases e2
          rw [← hnt.out] at hb2
          clear g2 own1 own2 hsrc gY
          refine anyBut.one (i := 16) (by decide +kernel) rfl rfl ?_
          go_simp
          have bY3 : Below X.heap.size X (Y2.alloc (.cells #[.slice A2 256 c2] 30)) := bl_alloc bY2 _
          refine ⟨gr_below bY3 _, ?_⟩
          have hnews : ∀ j' u, ([.slice A2 256 c2] : List Value)[j']? = some u → (Y2.alloc (.cells #[.slice A2 256 c2] 30)).cell? (Addr.add ⟨Y2.heap.size, 0, none⟩ j') = some u := fun j' u hu => by
            rw [Addr.add_mid, Nat.zero_add]
            exact (Blk.new' #[.slice A2 256 c2] 30 rfl).get hu
          replace hb2 := hb2.below (bl_alloc (Below.refl _ _) (.cells #[.slice A2 256 c2] 30))
          have hsz3 : Y2.heap.size < (Y2.alloc (.cells #[.slice A2 256 c2] 30)).heap.size := by simp
          have hszX := bY2.size
          have hYs3 : X.heap.size ≤ (Y2.alloc (.cells #[.slice A2 256 c2] 30)).heap.size := bY3.size
          generalize Y2.alloc (.cells #[.slice A2 256 c2] 30) = Y3 at *
          have own3 := ownsRow_below hrow bY3
          have own30 := own3
          try simp only [List.setIfInBounds_toArray, List.set_cons_zero, List.set_cons_succ]
          refine anyBut.one (i := 17) (by decide +kernel) rfl rfl ?_
          refine wp_append_own_at (.tmp 38) (.tmp 42) 37 rfl n0 30 i30 _ 1 24 Try.underlying37 hi30 hz30 hs30 hy30 rfl (by decide) (.slice AV nV cV) nV hs rfl own3 ⟨Y2.heap.size, 0, none⟩ 1 1 [.slice A2 256 c2] rfl rfl hnews (by intro u hu; simp at hu; subst hu; rfl) (by simp only [maxLen]; omega) (by omega) (by omega) 43 rfl ?_
          intro v4 Y4 own4 g4 _ hnb4
          obtain ⟨A4, c4, e4, _⟩ := ownsRow_tells own4
          subst e4
          have gY4 : X.grownBy Y4 (Value.slice AV nV cV).ownBlock := gr_trg (gr_below bY3 _) g4
          refine ⟨.inr gY4, ?_⟩
          have hb4 : BufT F Y4 (.slice A2 256 c2) t := hb2.keep fun b ht => g4.block b ht.lt (fun e => (ownsRow_ty own30 e.symm).ne ht (by decide) rfl)
          clear hb2 own3 own30 hnews g4
          try simp only [List.setIfInBounds_toArray, List.set_cons_zero, List.set_cons_succ]
          refine anyBut.one (i := 18) (by decide +kernel) rfl rfl ?_
          go_simp
          try simp only [List.setIfInBounds_toArray, List.set_cons_zero, List.set_cons_succ]
          refine anyBut.one (i := 19) (by decide +kernel) rfl rfl ?_
          go_simp
          try simp only [List.setIfInBounds_toArray, List.set_cons_zero, List.set_cons_succ]
          refine anyBut.one (i := 20) (by decide +kernel) rfl rfl ?_
          have hkg : Y4.heap[g]? = X.heap[g]? := gY4.block g hgX hgo
          have y0 : Y4.cell? ⟨g, j * 3 + 2, none⟩ = some (.slice AV nV cV) := (World.cell?_of_block (w := X) (w' := Y4) (a := ⟨g, j * 3 + 2, none⟩) hkg).trans t2
          have y1 : Y4.frozen? ⟨g, j * 3 + 2, none⟩ = false := (World.frozen?_of_block (w := X) (w' := Y4) (a := ⟨g, j * 3 + 2, none⟩) hkg).trans (ownsRow_unf HX.out.row _)
          go_simp
          try simp only [List.setIfInBounds_toArray, List.set_cons_zero, List.set_cons_succ]
          refine anyBut.done (by decide +kernel) ?_ _
          refine NoPanic.normal ?_
          have hfin := HW.out Y4 (.slice A2 256 c2) A4 c4 gY4 own4 hb4 (fun q e => by
            rcases hnb4 with h | h
            · rw [h] at e; exact .inl e
            · rw [h] at e; simp only [Option.some.injEq] at e; right; omega)
          have hFf : FrB w (Y4.setCell ⟨g, j * 3 + 2, none⟩ (.slice A4 (nV + 1) c4)) rb g bs (bs.set j { bs[j] with vv := .slice A4 (nV + 1) c4 }) := by
            refine hFX.trans ⟨gY4.os, gY4.tape, gY4.output, by simpa [World.setCell] using gY4.size, fun b hb h1 h2 h3 => (Below.heap_setCell Y4 _ _ b h2).trans (gY4.block b hb (fun e => h3 bs[j] (List.getElem_mem hj) (by rw [hve]; exact e.symm))), fun x hx q e => ?_⟩
            rcases List.mem_or_eq_of_mem_set hx with hx | rfl
            · exact .inl ⟨x, hx, e⟩
            · dsimp only at e
              rcases hnb4 with h | h
              · rw [h] at e; exact .inl ⟨bs[j], List.getElem_mem hj, by rw [hve]; exact e⟩
              · rw [h] at e; simp only [Option.some.injEq] at e; right; omega
          clear y0 y1 hkg hnb4 gY4 hb4 own4
          generalize Y4.setCell ⟨g, j * 3 + 2, none⟩ (.slice A4 (nV + 1) c4) = Z at *
          go_wp2_with fail
          go_ret
          exact ⟨by rw [HR.out]; rfl, _, by rw [HR.out]; exact hfin, hFf⟩
      · have HR := Lib.hid (show writeD d j t = (1, d) from by unfold writeD; rw [if_pos (.inr (.inr (by omega)))])
        have h3' : ((n : Int) != 256) = true := by rw [bne_iff_ne]; omega
        clear hlen hnt h3
        go_enter Try.func31, Try.ntmps31
        go_wp2
        go_ret
        exact ⟨by rw [HR.out]; rfl, bs, by rw [HR.out]; exact h, FrB.of_below (Below.refl _ _) _ _ _⟩
end Go.Proofs.Yteaenhmiomoocaa
