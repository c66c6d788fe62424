/- The walk of DiskTwice. -/
import Derived.Test.YteaenhmiomoocaaTr
import Derived.Test.YteaenhmiomoocaaHd
namespace Go.Proofs.Yteaenhmiomoocaa
open Go.RowKit Go.Shelf Go.Maps

/-- What the rounds keep. -/
def TwRel (w : World) (h i : Nat) (wr : World) : Prop :=
  ∃ us d N, DkAt wr h i us d ∧ d.Ok N ∧ N ≤ i ∧ d.ts.length = 6 ∧ d.off = false ∧ d.fuse = -1 ∧ Below w.heap.size w wr

/-- What was read: k blocks, and their errors. -/
def TwRead (wr : World) (h k : Nat) (d : Dsk) (v u : Value) : Prop :=
  ∃ vsl : List Value, vsl.length = k ∧ wr.ownsRow (h + 4) 30 1 v k vsl ∧ wr.ownsRow (h + 4) 3 1 u k ((List.range k).map fun (j : Nat) => .int .i64 (readD d (j : Int)).2) ∧ (∀ (j : Nat) x, vsl[j]? = some x → BufAt (h + 4) wr x (readT d (j : Int))) ∧ (k = 0 → v.ownBlock = none ∧ u.ownBlock = none)

set_option maxRecDepth 100000 in
set_option maxHeartbeats 4000000 in
theorem twice_any (A : Option Addr) (c : Nat) (l : List OpD) (A2 : Option Addr) (c2 : Nat) (cs : List Int) (A3 : Option Addr) (c3 : Nat) (ms : List Int) (w : World) (hl : OpsAt w A l) (hll : l.length ≤ 1048576) (hcs : NumsAt w A2 cs) (hcl : cs.length ≤ 1048576) (hms : NumsAt w A3 ms) (hml : ms.length ≤ 1048576) :
    Calls Try.prog 3 #[.slice A l.length c, .slice A2 cs.length c2, .slice A3 ms.length c3] w fun e w' => e = .returned (.bool true) ∧ Below w.heap.size w w' := by
  have hmx : 2000000 < maxLen := by simp only [maxLen]; omega
  obtain ⟨i30, hi30, hz0, hz1, hz2⟩ := info_parts info30
  obtain ⟨i3, hi3, hy0, hy1, hy2⟩ := info_parts info3
  go_enter Try.func3, Try.ntmps3
  go_wp2_with fail
  refine (new_ok 6 w (by omega) (by omega)).mono ?_
  rintro e w1 ⟨rfl, D1, b1⟩
  have hl1 := D1.lt
  go_wp2_with (first | (go_at_call 10; refine (num_any _ _).mono ?_; rintro e w' ⟨rfl, rfl⟩))
  refine (knows_any _).mono ?_
  rintro e w2 ⟨rfl, b2⟩
  have D2 := D1.below b2
  have R0 : TwRel w w.heap.size 0 w2 := ⟨[], _, 0, D2, newD_ok 6 (by omega), by omega, by simp [newD], rfl, rfl, bl_tr b1 b2⟩
  clear D1 b1 b2 D2
  go_wp2_with fail
  go_loopw [9] (fun u wr => ∃ i : Nat, i ≤ l.length ∧ u = .int .i64 i ∧ TwRel w w.heap.size i wr) (fun u _ => l.length - (intOf u).toNat)
  case atStart => exact ⟨0, by omega, rfl, R0⟩
  case round =>
    obtain ⟨i, hi, rfl, us, d, N, D4, O4, hN4, ht4, hoff, hfuse, b4⟩ := hrel
    clear R0
    have hN5 : N < 549755813888 := by omega
    by_cases hlt : i < l.length
    · obtain ⟨b, o, rfl, hbl, c0, c1, c4, hok⟩ := (hl.below b4) i hlt
      obtain ⟨M, hM, hMe0⟩ := mod_nat l[i].i 6 hok (by omega) (by omega)
      have hMe : (IntKind.i64.wrap (l[i].i.tmod 6 + 6)).tmod 6 = (M : Int) := hMe0
      generalize l[i] = x at c0 c1 c4 hok hMe
      clear hMe0
      unfold okI at hok
      have hbw : b < w.heap.size := (hl i hlt).elim fun b' h => h.elim fun o' h => by have e := h.1; cases e; exact h.2.1
      have hltI : (i : Int) < (l.length : Int) := by omega
      have hMi : 0 ≤ (M : Int) ∧ (M : Int) < d.ts.length := by omega
      have him : i < maxLen := by omega
      by_cases hk : x.k = 1
      · have hk1 : (x.k == 1) = true := by simpa using hk
        rw [hk] at c0
        go_wp2_with (first | (go_at_call 12; refine (sync_any w.heap.size i us d N wr D4 O4 hN5).mono ?_; rw [syncD_live hoff hfuse]; rintro e w5 ⟨rfl, us5, D5, F5⟩))
        go_roundw
        case rel => exact ⟨i + 1, by omega, by go_num, us5, _, N, D5.mono (by omega), syncS_ok O4, by omega, by simp only [syncS, syncT_length]; exact ht4, hoff, hfuse, b4.trans (F5.below (n0 := w.heap.size) (Nat.le_refl _) (fun i v g h1 h2 => by have := (D4.base h1 h2).1; omega) b4.size)⟩
        case measure => simp [intOf]; omega
      · have hk1 : (x.k == 1) = false := by simpa using hk
        clear hk
        go_wp2_with fail
        go_region_held3 (fun w' => ∀ o, w'.cell? ⟨b, o, none⟩ = wr.cell? ⟨b, o, none⟩)
          (first | assumption | exact fun _ => rfl)
          ((first | (go_at_call 14; refine (full_any x.f _).mono ?_; rintro e wA ⟨rfl, BA, bA⟩; have sA : ∀ o, wA.cell? ⟨b, o, none⟩ = wr.cell? ⟨b, o, none⟩ := fun o => bA.cell (p := ⟨b, o, none⟩) hbl) | (go_at_call 13; refine (write_live D4 O4 hN5 him hoff hfuse ((bl_drew (Below.refl _ _)).trans bA) (Nat.le_refl _) BA (fullT_length _) (M : Int) hMi 256).mono ?_; rintro e wB ⟨rfl, usB, DB, FB⟩; have sB : ∀ o, wB.cell? ⟨b, o, none⟩ = wr.cell? ⟨b, o, none⟩ := fun o => (World.cell?_of_block (a := ⟨b, o, none⟩) (FB.block b (Nat.lt_of_lt_of_le hbl bA.size) (.inl hbw) (fun i v h1 h2 => by have := (D4.base h1 h2).1; omega))).trans (sA o))))
        go_wp2_with fail
        go_roundw
        case rel => exact ⟨i + 1, by omega, by go_num, usB, _, N + 1, DB, writeS_ok O4 hMi (fullT_length x.f), by omega, by simp only [writeS]; exact ht4, hoff, hfuse, (bl_tr b4 ((bl_drew (Below.refl _ _)).trans bA)).trans (FB.below (n0 := w.heap.size) (Nat.le_refl _) (fun i v g h1 h2 => by have := (D4.base h1 h2).1; omega) (by have := b4.size; have := bA.size; have e : wr.drew.heap.size = wr.heap.size := rfl; omega))⟩
        case measure => simp [intOf]; omega
    · obtain rfl : i = l.length := by omega
      have hcr := crash_any w.heap.size l.length us d cs A2 c2 N wr D4 O4 hN5 (by omega) (hcs.ints b4 D4 (Nat.le_refl _)) (by omega)
      obtain ⟨O6, ht6⟩ := crashD_ok O4 D4.sorted cs
      rw [ht4] at ht6
      go_wp2_with (first | (go_at_call 15; refine hcr.mono ?_; rintro e w6 ⟨rfl, D6, F6⟩))
      have b6 := b4.trans (F6.below (n0 := w.heap.size) (Nat.le_refl _) (fun i v g h1 h2 => by have := (D4.base h1 h2).1; omega) b4.size)
      have hd6 := crashD_twice d cs ms
      generalize hnb : l.length + d.vs.length = nb at D6
      have hnb2 : nb ≤ 1048576 + 4096 := by have := D4.few O4; omega
      clear hcr D4 F6 b4 hnb
      generalize crashD d cs = d1 at *
      have hd6 := Lib.hid hd6
      have R1 : TwRead w6 w.heap.size 0 d1 (.slice none 0 0) (.slice none 0 0) := ⟨[], rfl, World.ownsRow_nil _ _ _ _, World.ownsRow_nil _ _ _ _, fun j x h => by simp at h, fun _ => ⟨rfl, rfl⟩⟩
      go_loopw [10, 11, 12] (fun v u k wr => ∃ n : Nat, n ≤ 6 ∧ k = .int .i64 n ∧ DkAt wr w.heap.size nb [] d1 ∧ TwRead wr w.heap.size n d1 v u ∧ Below w.heap.size w wr) (fun _ _ k _ => 6 - (intOf k).toNat)
      case atStart => exact ⟨0, by omega, rfl, D6, R1, b6⟩
      case round =>
        obtain ⟨n, hn, rfl, D7, ⟨vsl, hvl, hrv, hru, hbf, hnil⟩, b7⟩ := hrel
        clear R1 D6 b6
        by_cases hlt : n < 6
        · obtain ⟨Av, cv, rfl, _⟩ := ownsRow_tells hrv
          obtain ⟨Au, cu, rfl, _⟩ := ownsRow_tells hru
          go_wp2_with fail
          refine (read_any w.heap.size _ [] _ (n : Int) N _ D7 O6 (by omega) hN5).mono ?_
          rintro e w8 ⟨v8, rfl, H8, b8⟩
          have D8 := D7.below b8
          have hl7 := D7.lt
          replace hrv := ownsRow_below hrv b8
          replace hru := ownsRow_below hru b8
          have hbf8 : ∀ (j : Nat) x, vsl[j]? = some x → BufAt (w.heap.size + 4) w8 x (readT d1 (j : Int)) := fun j x hj => (hbf j x hj).below b8
          replace H8 : BufAt (w.heap.size + 4) w8 v8 (readT d1 (n : Int)) := H8.le (by omega)
          have b78 := bl_tr b7 b8
          have hl8 := D8.lt
          clear hbf b8 D7 b7 hl7
          obtain ⟨A8, c8, rfl⟩ := H8.slice
          have hvne : (Value.slice Av n cv).ownBlock ≠ none → vsl ≠ [] := fun h e => by
            subst e
            exact h (hnil hvl.symm).1
          have hune : (Value.slice Au n cu).ownBlock ≠ none → ((List.range n).map fun (j : Nat) => Value.int .i64 (readD d1 (j : Int)).2) ≠ [] := fun h e => by
            have : n = 0 := by simpa using congrArg List.length e
            exact h (hnil this).2
          have hvb : ∀ y ∈ vsl, ∀ b : UInt8, y ≠ bV b := fun y hy b e => by
            obtain ⟨j, hj⟩ := List.getElem?_of_mem hy
            obtain ⟨A', c', e'⟩ := (hbf8 j y hj).slice
            rw [e'] at e
            cases e
          have hub : ∀ y ∈ ((List.range n).map fun (j : Nat) => Value.int .i64 (readD d1 (j : Int)).2), ∀ b : UInt8, y ≠ bV b := fun y hy b e => by
            obtain ⟨j, _, rfl⟩ := List.mem_map.1 hy
            cases e
          have hrng : ((List.range (n + 1)).map fun (j : Nat) => Value.int .i64 (readD d1 (j : Int)).2) = ((List.range n).map fun (j : Nat) => Value.int .i64 (readD d1 (j : Int)).2) ++ [.int .i64 (readD d1 (n : Int)).2] := by rw [List.range_succ, List.map_append]; rfl
          replace hrng := Lib.hid hrng
          generalize htn : readT d1 (n : Int) = tn at H8
          generalize hen : (readD d1 (n : Int)).2 = en at hrng
          go_wp2_with (first
            | (at_builtin; refine wpList_append_own _ rfl _ _ 37 rfl (w.heap.size + 4) 30 i30 _ 1 24 Try.underlying37 hi30 hz0 hz1 hz2 rfl (by omega) (.slice Av n cv) n vsl rfl (hrv.alloc _) ⟨w8.heap.size, 0, none⟩ 1 1 [.slice A8 tn.length c8] rfl rfl (cell_one_new _ _ _) (fun u hu => by simp at hu; rw [hu]; rfl) ?h63 ?hby ?hba ?nx; case' nx => intro v9 w9 hrv9 hg9 _; obtain ⟨A9, c9, rfl, _⟩ := ownsRow_tells hrv9; have hru9 := ownsRow_type (hru.alloc _) (hrv.alloc _) (by decide) hg9)
            | (at_builtin; refine wpList_append_own _ rfl _ _ 23 rfl (w.heap.size + 4) 3 i3 _ 1 8 Try.underlying23 hi3 hy0 hy1 hy2 rfl (by omega) (.slice Au n cu) n _ rfl (hru9.alloc _) ⟨w9.heap.size, 0, none⟩ 1 1 [.int .i64 en] rfl rfl (cell_one_new _ _ _) (fun u hu => by simp at hu; rw [hu]; rfl) ?h63b ?hbyb ?hbab ?nxb; case' nxb => intro v10 w10 hru10 hg10 _; obtain ⟨A10, c10, rfl, _⟩ := ownsRow_tells hru10; have hrv10 := ownsRow_type (hrv9.alloc _) (hru9.alloc _) (by decide) hg10)
            | (go_at_call 10; refine (num_any _ _).mono ?_; rintro e w' ⟨rfl, rfl⟩))
          case h63 => omega
          case hby => omega
          case hba => simp; omega
          case h63b => omega
          case hbyb => omega
          case hbab => have := hg9.size; simp at this ⊢; omega
          have D9 := (D8.below (bl_alloc (Below.refl _ _) _)).row (hrv.alloc _) (Nat.le_refl _) hg9
          have D10 := (D9.below (bl_alloc (Below.refl _ _) _)).row (hru9.alloc _) (Nat.le_refl _) hg10
          have bA : Below w8.heap.size w8 (w8.alloc (.cells #[.slice A8 tn.length c8] 30)) := bl_alloc (Below.refl _ _) _
          have bB : Below w9.heap.size w9 (w9.alloc (.cells #[.int .i64 en] 3)) := bl_alloc (Below.refl _ _) _
          have keep : ∀ x t, BufAt (w.heap.size + 4) w8 x t → BufAt (w.heap.size + 4) w10 x t := fun x t hx =>
            (((hx.below bA).row (hrv.alloc _) hvb hg9 hvne).below bB).row (hru9.alloc _) hub hg10 hune
          go_roundw
          case rel =>
            refine ⟨n + 1, by omega, by go_num, D10, ⟨vsl ++ [.slice A8 tn.length c8], by simp [hvl], hrv10, by rw [hrng.out]; exact hru10, fun j x hj => ?_, fun h => by omega⟩, ?_⟩
            · by_cases hjn : j < vsl.length
              · rw [List.getElem?_append_left hjn] at hj
                exact keep _ _ (hbf8 j x hj)
              · rw [List.getElem?_append_right (by omega)] at hj
                have hj0 : j - vsl.length = 0 := by
                  have := (List.getElem?_eq_some_iff.1 hj).1
                  simp at this
                  omega
                rw [hj0] at hj
                simp at hj
                subst hj
                obtain rfl : j = n := by omega
                rw [htn]
                exact keep _ _ H8
            · have h1 := (b78.trans (bA.mono b78.size)).grown hg9 (by have := b78.size; simp; omega) (fun g e => by have := ownsRow_base hrv e; omega)
              exact (h1.trans (bB.mono h1.size)).grown hg10 (by have := h1.size; simp; omega) (fun g e => by have := ownsRow_base hru9 e; omega)
          case measure => simp [intOf]; omega
        · obtain rfl : n = 6 := by omega
          have O7 : d1.vs = [] := by
            have := D7.keys
            simpa using this.symm
          have hcr := crash_any w.heap.size nb [] d1 ms A3 c3 N wr D7 O6 hN5 (by omega) (hms.ints b7 D7 (Nat.le_refl _)) (by omega)
          rw [hd6.out, O7] at hcr
          have hl7 := D7.lt
          go_wp2_with (first | (go_at_call 15; refine hcr.mono ?_; rintro e w8 ⟨rfl, D8, F8⟩))
          have b8 := b7.trans (F8.below (n0 := w.heap.size) (Nat.le_refl _) (fun i v g h => by simp [lookI] at h) b7.size)
          replace hrv := F8.row hrv (Nat.le_refl _)
          replace hru := F8.row hru (Nat.le_refl _)
          replace hbf : ∀ (j : Nat) x, vsl[j]? = some x → BufAt (w.heap.size + 4) w8 x (readT d1 (j : Int)) := fun j x hj => F8.buf (hbf j x hj) (Nat.le_refl _)
          simp only [List.length_nil, Nat.add_zero] at D8
          clear hcr D7 b7 F8 hl7
          obtain ⟨Av, cv, rfl, htv⟩ := ownsRow_tells hrv
          obtain ⟨gv, rfl, hgv, hgvl, hcv⟩ := htv (by omega)
          obtain ⟨Au, cu, rfl, htu⟩ := ownsRow_tells hru
          obtain ⟨gu, rfl, hgu, hgul, hcu⟩ := htu (by omega)
          clear htv htu hrv hru hnil
          go_loopw [15] (fun k wr => ∃ n : Nat, n ≤ 6 ∧ k = .int .i64 n ∧ Below w8.heap.size w8 wr) (fun k _ => 6 - (intOf k).toNat)
          case atStart => exact ⟨0, by omega, rfl, Below.refl _ _⟩
          case round =>
            obtain ⟨n, hn, rfl, b9⟩ := hrel
            have D9 := D8.below b9
            by_cases hlt : n < 6
            · obtain ⟨y, hy⟩ : ∃ y, vsl[n]? = some y := ⟨_, List.getElem?_eq_getElem (by omega)⟩
              have hBy := (hbf n y hy).below b9
              have cy : wr.cell? ⟨gv, n, none⟩ = some y := (b9.cell (p := ⟨gv, n, none⟩) hgvl).trans (hcv n y hy)
              have ce : wr.cell? ⟨gu, n, none⟩ = some (.int .i64 (readD d1 (n : Int)).2) := (b9.cell (p := ⟨gu, n, none⟩) hgul).trans (hcu n _ (by simp [hlt]))
              have hlv : gv < wr.heap.size := Nat.lt_of_lt_of_le hgvl b9.size
              have hlu : gu < wr.heap.size := Nat.lt_of_lt_of_le hgul b9.size
              have hnI : (n : Int) < 6 := by omega
              obtain ⟨Ay, cy', rfl⟩ := hBy.slice
              go_wp2_with fail
              refine (read_any w.heap.size _ [] _ (n : Int) N _ D9 O6 (by omega) hN5).mono ?_
              rintro e w10 ⟨v10, rfl, H10, b10⟩
              have hc1 : ∀ w', Below w10.heap.size w10 w' → (convert 30 9 (.slice Ay (readT d1 (n : Int)).length cy')).run Try.prog w' = .ok (.string ⟨(readT d1 (n : Int)).toArray⟩) w' := fun w' hb => conv_buf ((hBy.below b10).below hb)
              have hc2 : ∀ w', Below w10.heap.size w10 w' → (convert 30 9 v10).run Try.prog w' = .ok (.string ⟨(readT d1 (n : Int)).toArray⟩) w' := fun w' hb => conv_buf (H10.below hb)
              have cy10 : w10.cell? ⟨gv, n, none⟩ = _ := (b10.cell (p := ⟨gv, n, none⟩) hlv).trans cy
              have ce10 : w10.cell? ⟨gu, n, none⟩ = _ := (b10.cell (p := ⟨gu, n, none⟩) hlu).trans ce
              have hlv10 := Nat.lt_of_lt_of_le hlv b10.size
              have hlu10 := Nat.lt_of_lt_of_le hlu b10.size
              obtain ⟨A10, c10, rfl⟩ := H10.slice
              generalize (⟨(readT d1 (n : Int)).toArray⟩ : ByteArray) = sr at hc1 hc2
              generalize (readT d1 (n : Int)).length = lr at hc1 hc2 cy10
              generalize (readD d1 (n : Int)).2 = er at ce10
              have h10 := bl_drew (Below.refl w10.heap.size w10)
              go_wp2_with fail
              refine wpAnyH.region rfl (fun w' => Below w10.heap.size w10 w') ?_
              refine wpAnyH.takeT (i := 0) (t := 98) (v := .slice A10 lr c10) rfl rfl (by decide +kernel) (by decide +kernel) (by decide +kernel) (fun _ _ _ h => h.elim) (.inl ⟨rfl, fun w' hS => ?_⟩) h10 ?_
              · go_simp
              try simp only [List.setIfInBounds_toArray, List.set_cons_zero, List.set_cons_succ]
              refine wpAnyH.takeT (i := 1) (t := 99) (v := .string sr) rfl rfl (by decide +kernel) (by decide +kernel) (by decide +kernel) (fun _ _ _ h => h.elim) (.inl ⟨rfl, fun w' hS => ?_⟩) h10 ?_
              · have c0 := hc2 _ hS
                go_simp
              try simp only [List.setIfInBounds_toArray, List.set_cons_zero, List.set_cons_succ]
              refine wpAnyH.takeT (i := 2) (t := 100) (v := .slice (some ⟨gv, 0, none⟩) 6 cv) rfl rfl (by decide +kernel) (by decide +kernel) (by decide +kernel) (fun _ _ _ h => h.elim) (.inl ⟨rfl, fun w' hS => ?_⟩) h10 ?_
              · go_simp
              try simp only [List.setIfInBounds_toArray, List.set_cons_zero, List.set_cons_succ]
              refine wpAnyH.takeT (i := 3) (t := 101) (v := .int .i64 n) rfl rfl (by decide +kernel) (by decide +kernel) (by decide +kernel) (fun _ _ _ h => h.elim) (.inl ⟨rfl, fun w' hS => ?_⟩) h10 ?_
              · go_simp
              try simp only [List.setIfInBounds_toArray, List.set_cons_zero, List.set_cons_succ]
              refine wpAnyH.takeT (i := 4) (t := 102) (v := .pointer (some ⟨gv, n, none⟩)) rfl rfl (by decide +kernel) (by decide +kernel) (by decide +kernel) (fun _ _ _ h => h.elim) (.inl ⟨rfl, fun w' hS => ?_⟩) h10 ?_
              · go_simp
              try simp only [List.setIfInBounds_toArray, List.set_cons_zero, List.set_cons_succ]
              refine wpAnyH.takeT (i := 5) (t := 103) (v := .slice Ay lr cy') rfl rfl (by decide +kernel) (by decide +kernel) (by decide +kernel) (fun _ _ _ h => h.elim) (.inl ⟨rfl, fun w' hS => ?_⟩) h10 ?_
              · have c0 := (hS.cell (p := ⟨gv, n, none⟩) hlv10).trans cy10
                go_simp
              try simp only [List.setIfInBounds_toArray, List.set_cons_zero, List.set_cons_succ]
              refine wpAnyH.takeT (i := 6) (t := 104) (v := .string sr) rfl rfl (by decide +kernel) (by decide +kernel) (by decide +kernel) (fun _ _ _ h => h.elim) (.inl ⟨rfl, fun w' hS => ?_⟩) h10 ?_
              · have c0 := hc1 _ hS
                go_simp
              try simp only [List.setIfInBounds_toArray, List.set_cons_zero, List.set_cons_succ]
              refine wpAnyH.takeT (i := 7) (t := 105) (v := .bool false) rfl rfl (by decide +kernel) (by decide +kernel) (by decide +kernel) (fun _ _ _ h => h.elim) (.inl ⟨rfl, fun w' hS => ?_⟩) h10 ?_
              · go_simp
              try simp only [List.setIfInBounds_toArray, List.set_cons_zero, List.set_cons_succ]
              refine wpAnyH.takeT (i := 8) (t := 106) (v := .bool false) rfl rfl (by decide +kernel) (by decide +kernel) (by decide +kernel) (fun _ _ _ h => h.elim) (.inl ⟨rfl, fun w' hS => ?_⟩) h10 ?_
              · go_simp
              try simp only [List.setIfInBounds_toArray, List.set_cons_zero, List.set_cons_succ]
              refine wpAnyH.takeT (i := 9) (t := 107) (v := .int .i64 er) rfl rfl (by decide +kernel) (by decide +kernel) (by decide +kernel) (fun _ _ _ h => h.elim) (.inl ⟨rfl, fun w' hS => ?_⟩) h10 ?_
              · go_simp
              try simp only [List.setIfInBounds_toArray, List.set_cons_zero, List.set_cons_succ]
              refine wpAnyH.takeT (i := 11) (t := 109) (v := .slice (some ⟨gu, 0, none⟩) 6 cu) rfl rfl (by decide +kernel) (by decide +kernel) (by decide +kernel) (fun _ _ _ h => h.elim) (.inl ⟨rfl, fun w' hS => ?_⟩) h10 ?_
              · go_simp
              try simp only [List.setIfInBounds_toArray, List.set_cons_zero, List.set_cons_succ]
              refine wpAnyH.takeT (i := 12) (t := 110) (v := .int .i64 n) rfl rfl (by decide +kernel) (by decide +kernel) (by decide +kernel) (fun _ _ _ h => h.elim) (.inl ⟨rfl, fun w' hS => ?_⟩) h10 ?_
              · go_simp
              try simp only [List.setIfInBounds_toArray, List.set_cons_zero, List.set_cons_succ]
              refine wpAnyH.takeT (i := 13) (t := 111) (v := .pointer (some ⟨gu, n, none⟩)) rfl rfl (by decide +kernel) (by decide +kernel) (by decide +kernel) (fun _ _ _ h => h.elim) (.inl ⟨rfl, fun w' hS => ?_⟩) h10 ?_
              · go_simp
              try simp only [List.setIfInBounds_toArray, List.set_cons_zero, List.set_cons_succ]
              refine wpAnyH.takeT (i := 14) (t := 112) (v := .int .i64 er) rfl rfl (by decide +kernel) (by decide +kernel) (by decide +kernel) (fun _ _ _ h => h.elim) (.inl ⟨rfl, fun w' hS => ?_⟩) h10 ?_
              · have c0 := (hS.cell (p := ⟨gu, n, none⟩) hlu10).trans ce10
                go_simp
              try simp only [List.setIfInBounds_toArray, List.set_cons_zero, List.set_cons_succ]
              refine wpAnyH.one (i := 10) (by decide +kernel) rfl rfl ?_
              refine wp_goCall1 10 (enters_of Try.func10 (by kernel_rfl) rfl) (.tmp 107) #[25] rfl 108 rfl ?_
              refine (num_any _ _).mono ?_
              rintro e w' ⟨rfl, rfl⟩
              refine ⟨_, rfl, h10, ?_⟩
              try simp only [List.setIfInBounds_toArray, List.set_cons_zero, List.set_cons_succ]
              refine wpAnyH.takeT (i := 15) (t := 113) (v := .bool false) rfl rfl (by decide +kernel) (by decide +kernel) (by decide +kernel) (fun _ _ _ h => h.elim) (.inl ⟨rfl, fun w' hS => ?_⟩) h10 ?_
              · go_simp
              try simp only [List.setIfInBounds_toArray, List.set_cons_zero, List.set_cons_succ]
              refine wpAnyH.takeT (i := 16) (t := 114) (v := .bool false) rfl rfl (by decide +kernel) (by decide +kernel) (by decide +kernel) (fun _ _ _ h => h.elim) (.inl ⟨rfl, fun w' hS => ?_⟩) h10 ?_
              · go_simp
              try simp only [List.setIfInBounds_toArray, List.set_cons_zero, List.set_cons_succ]
              refine wpAnyH_done (by decide +kernel) ?_ _
              refine NoPanic.normal ?_
              go_wp2_with fail
              go_roundw
              case rel => exact ⟨n + 1, by omega, by go_num, bl_tr b9 (bl_tr b10 h10)⟩
              case measure => simp [intOf]; omega
            · obtain rfl : n = 6 := by omega
              go_wp2_with fail
              go_ret
              exact ⟨rfl, bl_tr b8 b9⟩
end Go.Proofs.Yteaenhmiomoocaa
