/- The document's disk: New (20). -/
import Derived.Test.YteaenhmiomoocaaRk
namespace Go.Proofs.Yteaenhmiomoocaa
open Go.RowKit Go.Shelf
attribute [local go_sem] Oper.semAt_some

theorem info67 : (Try.prog.info? 67).map (fun i => (i.zero, i.size, i.bytes)) = some (some (.agg #[.slice none 0 0, .bool false, .slice none 0 0]), 3, 56) := by kernel_rfl

/-- A disk under birth: blocks of zeroes alone. -/
structure NwAt (F : Nat → Prop) (w : World) (n0 rb : Nat) (A : Option Addr) (c : Nat) (bs : List Bk) : Prop where
  box : Blk w rb [.slice A bs.length c, .bool false, .int .i64 (-1)]
  boxT : TyAt w rb 65
  row : w.ownsRow n0 67 3 (.slice A bs.length c) bs.length (bkC bs)
  all : ∀ x ∈ bs, x.bad = false ∧ x.vv = .slice none 0 0 ∧ BufT F w x.tv zeroT
theorem NwAt.below {F : Nat → Prop} {w w' : World} {n0 rb : Nat} {A : Option Addr} {c : Nat} {bs : List Bk} (h : NwAt F w n0 rb A c bs) (hb : Below w.heap.size w w') : NwAt F w' n0 rb A c bs :=
  ⟨h.box.below hb h.box.lt, h.boxT.below hb, ownsRow_below h.row hb, fun x hx => ⟨(h.all x hx).1, (h.all x hx).2.1, (h.all x hx).2.2.below hb⟩⟩
theorem NwAt.push {F : Nat → Prop} {X Y : World} {n0 rb : Nat} {A A' : Option Addr} {c c' : Nat} {bs : List Bk} {tv : Value} (h : NwAt F X n0 rb A c bs) (hrb : rb < n0) (hg : X.grownBy Y (Value.slice A bs.length c).ownBlock)
    (ho : Y.ownsRow n0 67 3 (.slice A' (bs.length + 1) c') (bs.length + 1) (bkC bs ++ [tv, .bool false, .slice none 0 0])) (hB : BufT F Y tv zeroT) :
    NwAt F (Y.setCell ⟨rb, 0, none⟩ (.slice A' (bs.length + 1) c')) n0 rb A' c' (bs ++ [⟨tv, false, .slice none 0 0⟩]) := by
  have hro : some rb ≠ (Value.slice A bs.length c).ownBlock := fun e => by have := ownsRow_base h.row e.symm; omega
  have k5 : ∀ b, TyAt X b 5 → Y.heap[b]? = X.heap[b]? := fun b ht => hg.block b ht.lt (fun e => ht.ne (ownsRow_ty h.row e.symm) (by decide) rfl)
  have hbY := h.box.grown hg hro
  have hTY : TyAt Y rb 65 := h.boxT.of_heap (hg.block rb h.box.lt hro)
  have k5' : ∀ b, TyAt Y b 5 → (Y.setCell ⟨rb, 0, none⟩ (.slice A' (bs.length + 1) c')).heap[b]? = Y.heap[b]? := fun b ht => Below.heap_setCell _ _ _ _ (ht.ne hTY (by decide))
  have el : (bs ++ [(⟨tv, false, .slice none 0 0⟩ : Bk)]).length = bs.length + 1 := by simp
  refine ⟨?_, hTY.setCell _ _, ?_, ?_⟩
  · rw [el]
    have := hbY.set_same 0 (.slice A' (bs.length + 1) c')
    simpa using this
  · rw [el]
    have e : bkC (bs ++ [(⟨tv, false, .slice none 0 0⟩ : Bk)]) = bkC bs ++ [tv, .bool false, .slice none 0 0] := by simp [bkC, bkL]
    rw [e]
    exact ownsRow_setCell_below ho (by dsimp only; omega) _
  · intro x hx
    rcases List.mem_append.1 hx with hx | hx
    · exact ⟨(h.all x hx).1, (h.all x hx).2.1, ((h.all x hx).2.2.keep k5).keep k5'⟩
    · rw [List.mem_singleton] at hx
      subst hx
      exact ⟨rfl, rfl, hB.keep k5'⟩
theorem NwAt.done {F : Nat → Prop} {w : World} {n0 rb : Nat} {A : Option Addr} {c : Nat} {bs : List Bk} (h : NwAt F w n0 rb A c bs) (h1 : bs.length ≠ 0) : ∃ g, A = some ⟨g, 0, none⟩ ∧ RfAt F w n0 rb g c bs (newD bs.length) := by
  obtain ⟨A2, c2, e, htl⟩ := ownsRow_tells h.row
  cases e
  obtain ⟨g, rfl, _⟩ := htl h1
  refine ⟨g, rfl, h.box, h.boxT, h.row, by simp [newD], fun j hj => ?_, fun j hj _ => ?_, fun j hj => ?_, fun i j hi hj _ q hq => ?_, fun x hx => ?_⟩
  · rw [(h.all _ (List.getElem_mem hj)).1]; rfl
  · have := (h.all _ (List.getElem_mem hj)).2.2
    simpa [newD, hj] using this
  · rw [(h.all _ (List.getElem_mem hj)).2.1]
    exact ⟨[], World.ownsRow_nil _ _ _ _, fun k x hx => by simp [vsOf, newD, lookI] at hx⟩
  · rw [(h.all _ (List.getElem_mem hi)).2.1] at hq; cases hq
  · obtain ⟨b, c, e, _⟩ := (h.all x hx).2.2
    exact ⟨_, _, _, e⟩

set_option maxRecDepth 100000 in
set_option maxHeartbeats 4000000 in
theorem rnew_any {F : Nat → Prop} (w : World) (n : Int) (hF : ∀ q, F q → q < w.heap.size) (hn64 : -9223372036854775808 ≤ n ∧ n ≤ 9223372036854775807) :
    Calls Try.prog 20 #[.int .i64 n] w fun e w' => Below w.heap.size w w' ∧ ((1 ≤ n ∧ n ≤ 4096 ∧ e = .returned (.pointer (some ⟨w.heap.size, 0, none⟩)) ∧ ∃ g c bs, RfAt F w' (w.heap.size + 1) w.heap.size g c bs (newD n.toNat)) ∨ (¬ (1 ≤ n ∧ n ≤ 4096) ∧ e = .returned (.pointer none))) := by
  have hmk := make30
  obtain ⟨i2, hi2, hz2, hs2, hb2⟩ := info_parts info67
  by_cases h1 : n < 1
  · go_enter Try.func20, Try.ntmps20
    go_wp2_with fail
    go_ret
    exact ⟨Below.refl _ _, .inr ⟨by omega, rfl⟩⟩
  · by_cases h2 : 4096 < n
    · go_enter Try.func20, Try.ntmps20
      go_wp2_with fail
      go_ret
      exact ⟨Below.refl _ _, .inr rfl⟩
    · obtain ⟨m, rfl⟩ : ∃ m : Nat, n = m := ⟨n.toNat, by omega⟩
      have hm1 : 1 ≤ m := by omega
      have hm2 : m ≤ 4096 := by omega
      go_enter Try.func20, Try.ntmps20
      go_wp2_with fail
      go_loopw [4] (fun v wr => ∃ (i : Nat) (A : Option Addr) (c : Nat) (bs : List Bk), i ≤ m ∧ v = .int .i64 i ∧ Hid (bs.length = i) ∧ NwAt F wr (w.heap.size + 1) w.heap.size A c bs ∧ Below w.heap.size w wr) (fun v _ => m - (intOf v).toNat)
      case atStart =>
        refine ⟨0, none, 0, [], by omega, rfl, Lib.hid rfl, ⟨Blk.new' _ _ rfl, TyAt.new _ _ _, World.ownsRow_nil _ _ _ _, fun x hx => by cases hx⟩, bl_alloc (Below.refl _ _) _⟩
      case round =>
        obtain ⟨i, A, c, bs, hi, rfl, hbl, hr, hb⟩ := hrel
        have hi0 : (0 : Int) ≤ (i : Int) := by omega
        by_cases hlt : i < m
        · have hlt' : decide ((i : Int) < (m : Int)) = true := by rw [decide_eq_true_iff]; omega
          go_wp2_with fail
          obtain ⟨X, hXe⟩ : ∃ X, wr.drew = X := ⟨_, rfl⟩
          have hX : NwAt F X (w.heap.size + 1) w.heap.size A c bs := by rw [← hXe]; exact hr.below (bl_drew (Below.refl _ _))
          have hbX : Below w.heap.size w X := by rw [← hXe]; exact bl_drew hb
          clear hr hb
          have hboxX := hX.box
          have hrowX := hX.row
          rw [hbl.out] at hboxX hrowX
          have hro : some w.heap.size ≠ (Value.slice A i c).ownBlock := fun e => by have := ownsRow_base hrowX e.symm; omega
          have hlX := hboxX.lt
          have hb0 := Lib.hid (fun g (e : (Value.slice A i c).ownBlock = some g) => ownsRow_base hrowX e)
          replace hX := Lib.hid hX
          refine anyBut.region rfl 11 (fun w' => X.grownBy w' (Value.slice A i c).ownBlock) ?_
          rw [hXe]
          clear hXe
          try simp only [List.setIfInBounds_toArray, List.set_cons_zero, List.set_cons_succ]
          refine anyBut.takeW (i := 0) (t := 18) (v := (.pointer (some ⟨w.heap.size, 0, none⟩))) (by decide +kernel) rfl rfl (by decide +kernel) (by decide +kernel) (by decide +kernel) (fun _ _ _ h => h.elim) (.inl ⟨rfl, fun w' hS => ?_⟩) (World.grownBy.refl X _) ?_
          · go_simp
          try simp only [List.setIfInBounds_toArray, List.set_cons_zero, List.set_cons_succ]
          refine anyBut.takeW (i := 1) (t := 19) (v := (.pointer (some ⟨w.heap.size, 0, none⟩))) (by decide +kernel) rfl rfl (by decide +kernel) (by decide +kernel) (by decide +kernel) (fun _ _ _ h => h.elim) (.inl ⟨rfl, fun w' hS => ?_⟩) (World.grownBy.refl X _) ?_
          · go_simp
          try simp only [List.setIfInBounds_toArray, List.set_cons_zero, List.set_cons_succ]
          refine anyBut.takeW (i := 2) (t := 20) (v := (.pointer (some ⟨w.heap.size, 0, none⟩))) (by decide +kernel) rfl rfl (by decide +kernel) (by decide +kernel) (by decide +kernel) (fun _ _ _ h => h.elim) (.inl ⟨rfl, fun w' hS => ?_⟩) (World.grownBy.refl X _) ?_
          · go_simp
          try simp only [List.setIfInBounds_toArray, List.set_cons_zero, List.set_cons_succ]
          refine anyBut.takeW (i := 3) (t := 21) (v := (.pointer (some ⟨w.heap.size, 0, none⟩))) (by decide +kernel) rfl rfl (by decide +kernel) (by decide +kernel) (by decide +kernel) (fun _ _ _ h => h.elim) (.inl ⟨rfl, fun w' hS => ?_⟩) (World.grownBy.refl X _) ?_
          · go_simp
          try simp only [List.setIfInBounds_toArray, List.set_cons_zero, List.set_cons_succ]
          refine anyBut.takeW (i := 4) (t := 22) (v := (.slice A i c)) (by decide +kernel) rfl rfl (by decide +kernel) (by decide +kernel) (by decide +kernel) (fun _ _ _ h => h.elim) (.inl ⟨rfl, fun w' hS => ?_⟩) (World.grownBy.refl X _) ?_
          · have y0 := (hboxX.grown hS hro).get (j := 0) rfl
            go_simp
          try simp only [List.setIfInBounds_toArray, List.set_cons_zero, List.set_cons_succ]
          refine anyBut.one (i := 5) (by decide +kernel) rfl rfl ?_
          go_simp
          refine ⟨gr_alloc (World.grownBy.refl X _) _, ?_⟩
          try simp only [List.setIfInBounds_toArray, List.set_cons_zero, List.set_cons_succ]
          refine anyBut.one (i := 6) (by decide +kernel) rfl rfl ?_
          go_simp
          refine ⟨gr_alloc (World.grownBy.refl X _) _, ?_⟩
          try simp only [List.setIfInBounds_toArray, List.set_cons_zero, List.set_cons_succ]
          refine anyBut.one (i := 7) (by decide +kernel) rfl rfl ?_
          go_simp
          refine ⟨gr_alloc (gr_alloc (World.grownBy.refl X _) _) _, ?_⟩
          try simp only [List.setIfInBounds_toArray, List.set_cons_zero, List.set_cons_succ]
          refine anyBut.one (i := 8) (by decide +kernel) rfl rfl ?_
          have hz2 : w.heap.size + 1 ≤ X.heap.size := hlX
          refine wp_append_src 26 rfl (.tmp 22) (.tmp 25) 63 rfl (w.heap.size + 1) 67 i2 _ 3 56 Try.underlying63 hi2 (by assumption) hs2 hb2 rfl (by decide) (.slice A i c) i _ rfl ((hrowX.alloc _).alloc _) (some ⟨X.heap.size + 1, 0, none⟩) 1 1 [.slice (some ⟨X.heap.size, 0, none⟩) 256 256, .bool false, .slice none 0 0] rfl (by simpa using src_new (X.alloc (.cells (tC zeroT).toArray 5)) [.slice (some ⟨X.heap.size, 0, none⟩) 256 256, .bool false, .slice none 0 0] 67 1 3 rfl) (by intro u hu; simp at hu; rcases hu with rfl | rfl | rfl <;> rfl) (by simp only [maxLen]; omega) (by omega) (by simp; omega) ?_
          intro A8 c8 Y own8 g8
          have gY8 := gr_trg (gr_alloc (gr_alloc (World.grownBy.refl X (Value.slice A i c).ownBlock) (.cells (tC zeroT).toArray 5)) (.cells #[.slice (some ⟨X.heap.size, 0, none⟩) 256 256, .bool false, .slice none 0 0] 67)) g8
          have hBX : BufT F (X.alloc (.cells (tC zeroT).toArray 5)) (.slice (some ⟨X.heap.size, 0, none⟩) 256 256) zeroT := ⟨X.heap.size, 256, rfl, TyAt.new _ _ _, fun j x hx => by rw [Nat.zero_add]; exact (Blk.new' (w := X) (tC zeroT).toArray 5 rfl).get (by simpa using hx), fun h => by have := hF _ h; have := hbX.size; omega⟩
          have hBY : BufT F Y (.slice (some ⟨X.heap.size, 0, none⟩) 256 256) zeroT := (hBX.below (bl_alloc (Below.refl _ _) _)).keep fun b ht => g8.block b ht.lt (fun e => ht.ne (((ownsRow_ty (hrowX.alloc _) e.symm).alloc _)) (by decide) rfl)
          refine ⟨.inr gY8, ?_⟩
          try simp only [List.setIfInBounds_toArray, List.set_cons_zero, List.set_cons_succ]
          refine anyBut.one (i := 9) (by decide +kernel) rfl rfl ?_
          go_simp
          try simp only [List.setIfInBounds_toArray, List.set_cons_zero, List.set_cons_succ]
          refine anyBut.one (i := 10) (by decide +kernel) rfl rfl ?_
          go_simp
          try simp only [List.setIfInBounds_toArray, List.set_cons_zero, List.set_cons_succ]
          refine anyBut.one (i := 11) (by decide +kernel) rfl rfl ?_
          have htY := hboxX.grown gY8 hro
          have r3 := htY.cell
          have u3 := htY.unf
          go_simp
          try simp only [List.setIfInBounds_toArray, List.set_cons_zero, List.set_cons_succ]
          refine anyBut.done (by decide +kernel) ?_ _
          refine NoPanic.normal ?_
          have hfin := hX.out.push (Y := Y) (A' := A8) (c' := c8) (tv := .slice (some ⟨X.heap.size, 0, none⟩) 256 256) (by omega) (by rw [hbl.out]; exact gY8) (by rw [hbl.out]; exact own8) hBY
          rw [hbl.out] at hfin
          have hbf : Below w.heap.size w (Y.setCell ⟨w.heap.size, 0, none⟩ (.slice A8 (i + 1) c8)) := bl_set (hbX.grown gY8 hbX.size (fun g e => by have := hb0.out g e; omega)) (Nat.le_refl _) _
          generalize Y.setCell ⟨w.heap.size, 0, none⟩ (.slice A8 (i + 1) c8) = Z at *
          clear gY8 g8 own8 htY r3 u3 hBX hBY
          go_wp2_with fail
          go_roundw
          case rel => exact ⟨i + 1, A8, c8, _, by omega, by go_num, Lib.hid (by simp [hbl.out]), hfin, hbf⟩
          case measure => simp [intOf]; omega
        · obtain rfl : i = m := by omega
          obtain ⟨g, rfl, hR⟩ := hr.done (by rw [hbl.out]; omega)
          go_wp2_with fail
          go_ret
          rw [hbl.out] at hR
          exact ⟨hb, .inl ⟨by omega, by omega, rfl, g, c, bs, hR⟩⟩
end Go.Proofs.Yteaenhmiomoocaa
