/- The walk of DiskChoices. -/
import Derived.Test.YteaenhmiomoocaaOps
import Derived.Test.YteaenhmiomoocaaHd
namespace Go.Proofs.Yteaenhmiomoocaa
open Go.RowKit Go.Shelf Go.Maps

/-- Block 1, written once and synced, then again and again. -/
def chD (fs : List UInt8) : Dsk := ⟨[zeroT, fullT 99, zeroT], [], if fs = [] then [] else [(1, fs.map fullT)], false, -1⟩
theorem chD_nil : syncS (writeS (newD 3) 1 (fullT 99)) = chD [] := by kernel_rfl
theorem chD_step (fs : List UInt8) (f : UInt8) : writeS (chD fs) 1 (fullT f) = chD (fs ++ [f]) := by
  by_cases h : fs = []
  · subst h
    simp [writeS, chD, lookI, putI, delI, insI]
  · simp [writeS, chD, h, lookI, putI, delI, insI]
theorem chD_ok (fs : List UInt8) : (chD fs).Ok fs.length := by
  refine ⟨by simp [chD], fun t ht => ?_, fun i l hl => ?_, by simp [chD]⟩
  · simp only [chD, List.mem_cons, List.not_mem_nil, or_false] at ht
    rcases ht with rfl | rfl | rfl <;> exact fullT_length _
  · by_cases h : fs = []
    · simp [chD, h, lookI] at hl
    · simp only [chD, h, if_false, lookI] at hl
      by_cases e : i = 1
      · subst e
        simp at hl
        subst hl
        refine ⟨by omega, by simp [chD], by simpa using h, by simp, fun t ht => ?_⟩
        obtain ⟨f, _, rfl⟩ := List.mem_map.1 ht
        exact fullT_length f
      · have e' : ¬ (1 = i) := fun h => e h.symm
        simp [e'] at hl
theorem chD_vs {fs : List UInt8} (h : fs ≠ []) : (chD fs).vs = [(1, fs.map fullT)] := by simp [chD, h]
theorem chD_eq {fs : List UInt8} (h : fs ≠ []) : chD fs = ⟨[zeroT, fullT 99, zeroT], [], [(1, fs.map fullT)], false, -1⟩ := by simp [chD, h]
theorem chD_crash0 {fs : List UInt8} (h : fs ≠ []) : readD (crashD (chD fs) [0]) 1 = (some (fullT 99), 0) := by
  rw [chD_eq h]
  simp [crashD, crashL, crash1, readD, lookI]
theorem chD_crash1 {fs : List UInt8} (h : fs ≠ []) (m : Nat) (hm : m < fs.length) : readD (crashD (chD fs) [(m : Int) + 1]) 1 = (some (fullT fs[m]), 0) := by
  have h1 : (0 : Int) < (m : Int) + 1 := by omega
  have h2 : (m : Int) + 1 ≤ (fs.length : Int) := by omega
  rw [chD_eq h]
  simp [crashD, crashL, crash1, readD, lookI, h1, h2, hm, delI]
theorem chD_crash2 {fs : List UInt8} (h : fs ≠ []) (c : Int) (h0 : c ≠ 0) (hc : ¬ (0 < c ∧ c ≤ fs.length)) : readD (crashD (chD fs) [c]) 1 = (none, 22) := by
  have hc' : ¬ (0 < c ∧ c ≤ ((fs.map fullT).length : Int)) := by simpa using hc
  have e : crash1 ⟨[zeroT, fullT 99, zeroT], [], [(1, fs.map fullT)], false, -1⟩ (1, fs.map fullT) c = ⟨[zeroT, fullT 99, zeroT], [(1, true)], [(1, fs.map fullT)], false, -1⟩ := by
    unfold crash1
    rw [if_neg hc', if_neg h0]
    rfl
  rw [chD_eq h]
  simp only [crashD, crashL, List.head?_cons, Option.getD_some, e]
  rfl

/-- From address A on w holds the bytes l. -/
def BytesAt (w : World) (A : Option Addr) (l : List UInt8) : Prop :=
  ∀ i (h : i < l.length), ∃ b o, A = some ⟨b, o, none⟩ ∧ b < w.heap.size ∧ w.cell? ⟨b, o + i, none⟩ = some (.int .u8 (l[i].toNat : Int))
theorem BytesAt.below {w w' : World} {A : Option Addr} {l : List UInt8} (h : BytesAt w A l) (hb : Below w.heap.size w w') : BytesAt w' A l := fun i hi => by
  obtain ⟨b, o, hA, hlt, hc⟩ := h i hi
  exact ⟨b, o, hA, Nat.lt_of_lt_of_le hlt hb.size, (hb.cell (p := ⟨b, o + i, none⟩) hlt).trans hc⟩

set_option maxRecDepth 100000 in
set_option maxHeartbeats 4000000 in
theorem choices_any (A : Option Addr) (c : Nat) (fs : List UInt8) (z : Int) (w : World) (hl : BytesAt w A fs) (hll : fs.length ≤ 1048576) (hz : okI z) :
    Calls Try.prog 4 #[.slice A fs.length c, .int .i64 z] w fun e w' => e = .returned (.bool true) ∧ Below w.heap.size w w' := by
  have hml : 10 < maxLen := by simp only [maxLen]; omega
  unfold okI at hz
  go_enter Try.func4, Try.ntmps4
  go_wp2_with fail
  refine (new_ok 3 w (by omega) (by omega)).mono ?_
  rintro e w1 ⟨rfl, D1, b1⟩
  have hl1 := D1.lt
  go_wp2_with (first | (go_at_call 10; refine (num_any _ _).mono ?_; rintro e w' ⟨rfl, rfl⟩))
  refine (knows_any _).mono ?_
  rintro e w2 ⟨rfl, b2⟩
  have D2 := D1.below b2
  have b2' := bl_tr b1 b2
  clear D1 b1 b2
  go_wp2_with fail
  refine (full_any 99 _).mono ?_
  rintro e w3 ⟨rfl, B3, b3⟩
  go_wp2_with fail
  refine (write_live D2 (newD_ok 3 (by omega)) (by omega) (by omega) rfl rfl b3 (Nat.le_refl _) B3 (fullT_length 99) 1 (by simp [newD]) 256).mono ?_
  rintro e w4 ⟨rfl, us4, D4, F4⟩
  have b4 := (bl_tr b2' b3).trans (F4.below (n0 := w.heap.size) (Nat.le_refl _) (fun i v g h => by simp [lookI] at h) (bl_tr b2' b3).size)
  clear B3 b3 F4 D2 b2'
  go_wp2_with (first | (go_at_call 10; refine (num_any _ _).mono ?_; rintro e w' ⟨rfl, rfl⟩))
  have O4 : (writeS (newD 3) 1 (fullT 99)).Ok 1 := writeS_ok (newD_ok 3 (by omega)) (by simp [newD]) (fullT_length 99)
  refine (sync_any w.heap.size _ us4 _ 1 w4 D4 O4 (by omega)).mono ?_
  rw [syncD_live rfl rfl, chD_nil]
  rintro e w5 ⟨rfl, us5, D5, F5⟩
  have b5 := b4.trans (F5.below (n0 := w.heap.size) (Nat.le_refl _) (fun i v g h1 h2 => by have := (D4.base h1 h2).1; omega) b4.size)
  clear D4 F5 O4 b4
  rcases Nat.eq_zero_or_pos fs.length with hf0 | hf0
  · rw [hf0]
    go_wp2_with (first | (go_at_call 10; refine (num_any _ _).mono ?_; rintro e w' ⟨rfl, rfl⟩))
    go_ret
    exact ⟨rfl, b5⟩
  · have hne : fs ≠ [] := List.length_pos_iff.1 hf0
    replace hne := Lib.hid hne
    have hf1 : ((fs.length : Int) == 0) = false := by rw [beq_eq_false_iff_ne]; omega
    go_wp2_with (first | (go_at_call 10; refine (num_any _ _).mono ?_; rintro e w' ⟨rfl, rfl⟩))
    go_loopw [7] (fun u wr => ∃ (i : Nat) (us : List (Int × Value)), i ≤ fs.length ∧ u = .int .i64 i ∧ DkAt wr w.heap.size (1 + i) us (chD (fs.take i)) ∧ Below w.heap.size w wr) (fun u _ => fs.length - (intOf u).toNat)
    case atStart => exact ⟨0, us5, by omega, rfl, by simpa using D5, b5⟩
    case round =>
      obtain ⟨i, us, hi, rfl, D6, b6⟩ := hrel
      clear D5 b5
      by_cases hlt : i < fs.length
      · obtain ⟨b, o, rfl, hbl, c0⟩ := (hl.below b6) i hlt
        have hst := chD_step (fs.take i) fs[i]
        rw [← List.take_succ_eq_append_getElem hlt] at hst
        have hst := Lib.hid hst
        have O6 := chD_ok (fs.take i)
        have hN6 : (fs.take i).length < 549755813888 := by rw [List.length_take]; omega
        have him : 1 + i < maxLen := by simp only [maxLen]; omega
        generalize fs[i] = x at c0 hst
        go_wp2_with (first | (go_at_call 14; refine (full_any x _).mono ?_; rintro e wA ⟨rfl, BA, bA⟩) | (go_at_call 13; refine (write_live D6 O6 hN6 him rfl rfl bA (Nat.le_refl _) BA (fullT_length x) 1 (by simp [chD]) 256).mono ?_; rintro e wB ⟨rfl, usB, DB, FB⟩) | (go_at_call 10; refine (num_any _ _).mono ?_; rintro e w' ⟨rfl, rfl⟩))
        go_roundw
        case rel =>
          rw [hst.out] at DB
          exact ⟨i + 1, usB, by omega, by go_num, DB, (bl_tr b6 bA).trans (FB.below (n0 := w.heap.size) (Nat.le_refl _) (fun i v g h1 h2 => by have := (D6.base h1 h2).1; omega) (bl_tr b6 bA).size)⟩
        case measure => simp [intOf]; omega
      · obtain rfl : i = fs.length := by omega
        have htk : fs.take fs.length = fs := List.take_length
        rw [htk] at D6
        have b7 : Below wr.heap.size wr (wr.alloc (.cells #[.int .i64 z] 3)) := bl_alloc (Below.refl _ _) _
        have D7 := D6.below b7
        have B7 : Blk (wr.alloc (.cells #[.int .i64 z] 3)) wr.heap.size [.int .i64 z] := Blk.new' _ _ rfl
        have hcr := crash_any w.heap.size (1 + fs.length) us (chD fs) [z] (some ⟨wr.heap.size, 0, none⟩) 1 fs.length (wr.alloc (.cells #[.int .i64 z] 3)) D7 (chD_ok fs) (by omega) (by omega) (fun i hi => by
          obtain rfl : i = 0 := by simp at hi; omega
          exact ⟨_, 0, rfl, B7.lt, .inr (by have := D6.lt; omega), fun j v hv e => by have := (D6.base hv e).2; omega, B7.get rfl, hz⟩) (by simp)
        obtain ⟨O8, ht8⟩ := crashD_ok (chD_ok fs) D6.sorted [z]
        go_wp2_with (first | (go_at_call 15; refine hcr.mono ?_; rintro e w8 ⟨rfl, D8, F8⟩))
        have b8 := (bl_tr b6 b7).trans (F8.below (n0 := w.heap.size) (Nat.le_refl _) (fun i v g h1 h2 => by have := (D7.base h1 h2).1; omega) (bl_tr b6 b7).size)
        clear hcr D6 D7 B7 b7 b6 F8
        have hrd := read_any w.heap.size _ [] _ 1 fs.length _ D8 O8 (by omega) (by omega)
        by_cases hz0 : z = 0
        · subst hz0
          unfold readT at hrd
          rw [chD_crash0 hne.out] at hrd
          refine hrd.mono ?_
          clear hrd
          rintro e w9 ⟨v9, rfl, H9, b9⟩
          obtain ⟨g9, c9, rfl, hg9, B9⟩ := BufAt.full (t := fullT 99) H9 (fullT_length 99)
          have l9 := B9.lt
          have hca : ∀ w', Below w9.heap.size w9 w' → (convert 30 9 (.slice (some ⟨g9, 0, none⟩) 256 c9)).run Try.prog w' = .ok (.string ⟨(fullT 99).toArray⟩) w' := fun w' hb => conv_blk (B9.below hb l9) (fullT_length _)
          generalize hs0 : (⟨(fullT 99).toArray⟩ : ByteArray) = s0 at hca
          replace hs0 := Lib.hid hs0
          have h9 := bl_drew (Below.refl w9.heap.size w9)
          go_wp2_with fail
          refine wpAnyH.region rfl (fun w' => Below w9.heap.size w9 w') ?_
          refine wpAnyH.takeT (i := 0) (t := 66) (v := .int .i64 0) rfl rfl (by decide +kernel) (by decide +kernel) (by decide +kernel) (fun _ _ _ h => h.elim) (.inl ⟨rfl, fun w' hS => ?_⟩) h9 ?_
          · go_simp
          try simp only [List.setIfInBounds_toArray, List.set_cons_zero, List.set_cons_succ]
          refine wpAnyH.one (i := 1) (by decide +kernel) rfl rfl ?_
          refine wp_goCall1 10 (enters_of Try.func10 (by kernel_rfl) rfl) (.tmp 66) #[25] rfl 67 rfl ?_
          refine (num_any _ _).mono ?_
          rintro e w' ⟨rfl, rfl⟩
          refine ⟨_, rfl, h9, ?_⟩
          try simp only [List.setIfInBounds_toArray, List.set_cons_zero, List.set_cons_succ]
          refine wpAnyH.takeT (i := 2) (t := 68) (v := .bool true) rfl rfl (by decide +kernel) (by decide +kernel) (by decide +kernel) (fun _ _ _ h => h.elim) (.inl ⟨rfl, fun w' hS => ?_⟩) h9 ?_
          · go_simp
          try simp only [List.setIfInBounds_toArray, List.set_cons_zero, List.set_cons_succ]
          refine wpAnyH.takeT (i := 3) (t := 69) (v := .bool true) rfl rfl (by decide +kernel) (by decide +kernel) (by decide +kernel) (fun _ _ _ h => h.elim) (.inl ⟨rfl, fun w' hS => ?_⟩) h9 ?_
          · go_simp
          try simp only [List.setIfInBounds_toArray, List.set_cons_zero, List.set_cons_succ]
          refine wpAnyH.takeT (i := 4) (t := 70) (v := .slice (some ⟨g9, 0, none⟩) 256 c9) rfl rfl (by decide +kernel) (by decide +kernel) (by decide +kernel) (fun _ _ _ h => h.elim) (.inl ⟨rfl, fun w' hS => ?_⟩) h9 ?_
          · go_simp
          try simp only [List.setIfInBounds_toArray, List.set_cons_zero, List.set_cons_succ]
          refine wpAnyH.takeT (i := 5) (t := 71) (v := .string s0) rfl rfl (by decide +kernel) (by decide +kernel) (by decide +kernel) (fun _ _ _ h => h.elim) (.inl ⟨rfl, fun w' hS => ?_⟩) h9 ?_
          · have c0 := hca _ hS
            go_simp
          try simp only [List.setIfInBounds_toArray, List.set_cons_zero, List.set_cons_succ]
          refine wpAnyH.one (i := 6) (by decide +kernel) rfl rfl ?_
          refine wp_goCall1 14 (enters_of Try.func14 (by kernel_rfl) rfl) (.const (.int .u8 99)) #[5] rfl 72 rfl ?_
          refine (full_any 99 _).mono ?_
          rintro e wA ⟨rfl, BA, bA⟩
          have sA := bl_tr h9 bA
          have hcA : ∀ w', Below wA.heap.size wA w' → (convert 30 9 (.slice (some ⟨w9.heap.size, 0, none⟩) 256 256)).run Try.prog w' = .ok (.string s0) w' := fun w' hb => conv_blk' hs0.out (BA.below hb BA.lt) (fullT_length _)
          refine ⟨_, rfl, sA, wpAnyH.strong (S' := fun w' => Below wA.heap.size wA w') (fun w' h => bl_tr sA h) _ _ _ _ ?_⟩
          try simp only [List.setIfInBounds_toArray, List.set_cons_zero, List.set_cons_succ]
          refine wpAnyH.takeT (i := 7) (t := 73) (v := .string s0) rfl rfl (by decide +kernel) (by decide +kernel) (by decide +kernel) (fun _ _ _ h => h.elim) (.inl ⟨rfl, fun w' hS => ?_⟩) (Below.refl _ _) ?_
          · have c0 := hcA _ hS
            go_simp
          try simp only [List.setIfInBounds_toArray, List.set_cons_zero, List.set_cons_succ]
          refine wpAnyH.takeT (i := 8) (t := 74) (v := .bool true) rfl rfl (by decide +kernel) (by decide +kernel) (by decide +kernel) (fun _ _ _ h => h.elim) (.inl ⟨rfl, fun w' hS => ?_⟩) (Below.refl _ _) ?_
          · go_simp
          try simp only [List.setIfInBounds_toArray, List.set_cons_zero, List.set_cons_succ]
          refine wpAnyH.takeT (i := 9) (t := 75) (v := .bool true) rfl rfl (by decide +kernel) (by decide +kernel) (by decide +kernel) (fun _ _ _ h => h.elim) (.inl ⟨rfl, fun w' hS => ?_⟩) (Below.refl _ _) ?_
          · go_simp
          try simp only [List.setIfInBounds_toArray, List.set_cons_zero, List.set_cons_succ]
          refine wpAnyH.takeT (i := 10) (t := 4) (v := .bool true) rfl rfl (by decide +kernel) (by decide +kernel) (by decide +kernel) (fun _ _ _ h => h.elim) (.inl ⟨rfl, fun w' hS => ?_⟩) (Below.refl _ _) ?_
          · go_simp
          try simp only [List.setIfInBounds_toArray, List.set_cons_zero, List.set_cons_succ]
          refine wpAnyH_done (by decide +kernel) ?_ _
          refine NoPanic.normal ?_
          go_wp2_with fail
          go_ret
          exact ⟨rfl, bl_tr (bl_tr b8 b9) sA⟩
        · have hz01 : (z == 0) = false := by simpa using hz0
          by_cases hzc : 0 < z ∧ z ≤ fs.length
          · obtain ⟨m, rfl⟩ : ∃ m : Nat, z = (m : Int) + 1 := ⟨(z - 1).toNat, by omega⟩
            have hm : m < fs.length := by omega
            unfold readT at hrd
            rw [chD_crash1 hne.out m hm] at hrd
            obtain ⟨b, o, rfl, hbl, c0⟩ := (hl.below b8) m hm
            generalize fs[m] = x at hrd c0
            have hw1 : IntKind.i64.wrap (m : Int) = m := by rw [IntKind.wrap_i64]; omega
            have hdd : decide ((m : Int) + 1 ≤ (fs.length : Int)) = true := by simpa using hzc.2
            have hml2 : (m : Int) < (fs.length : Int) := by omega
            have hz02 : ((m : Int) + 1 == 0) = false := hz01
            refine hrd.mono ?_
            clear hrd hzc hz0 hz01
            rintro e w9 ⟨v9, rfl, H9, b9⟩
            obtain ⟨g9, c9, rfl, hg9, B9⟩ := BufAt.full (t := fullT x) H9 (fullT_length x)
            have c9' : w9.cell? ⟨b, o + m, none⟩ = some (.int .u8 (x.toNat : Int)) := (b9.cell (p := ⟨b, o + m, none⟩) hbl).trans c0
            have hb9 : b < w9.heap.size := Nat.lt_of_lt_of_le hbl b9.size
            have l9 := B9.lt
            have hca : ∀ w', Below w9.heap.size w9 w' → (convert 30 9 (.slice (some ⟨g9, 0, none⟩) 256 c9)).run Try.prog w' = .ok (.string ⟨(fullT x).toArray⟩) w' := fun w' hb => conv_blk (B9.below hb l9) (fullT_length _)
            generalize hs0 : (⟨(fullT x).toArray⟩ : ByteArray) = s0 at hca
            replace hs0 := Lib.hid hs0
            have h9 := bl_drew (Below.refl w9.heap.size w9)
            go_wp2_with fail
            refine wpAnyH.region rfl (fun w' => Below w9.heap.size w9 w') ?_
            refine wpAnyH.takeT (i := 0) (t := 85) (v := .int .i64 0) rfl rfl (by decide +kernel) (by decide +kernel) (by decide +kernel) (fun _ _ _ h => h.elim) (.inl ⟨rfl, fun w' hS => ?_⟩) h9 ?_
            · go_simp
            try simp only [List.setIfInBounds_toArray, List.set_cons_zero, List.set_cons_succ]
            refine wpAnyH.one (i := 1) (by decide +kernel) rfl rfl ?_
            refine wp_goCall1 10 (enters_of Try.func10 (by kernel_rfl) rfl) (.tmp 85) #[25] rfl 86 rfl ?_
            refine (num_any _ _).mono ?_
            rintro e w' ⟨rfl, rfl⟩
            refine ⟨_, rfl, h9, ?_⟩
            try simp only [List.setIfInBounds_toArray, List.set_cons_zero, List.set_cons_succ]
            refine wpAnyH.takeT (i := 2) (t := 87) (v := .bool true) rfl rfl (by decide +kernel) (by decide +kernel) (by decide +kernel) (fun _ _ _ h => h.elim) (.inl ⟨rfl, fun w' hS => ?_⟩) h9 ?_
            · go_simp
            try simp only [List.setIfInBounds_toArray, List.set_cons_zero, List.set_cons_succ]
            refine wpAnyH.takeT (i := 3) (t := 88) (v := .bool true) rfl rfl (by decide +kernel) (by decide +kernel) (by decide +kernel) (fun _ _ _ h => h.elim) (.inl ⟨rfl, fun w' hS => ?_⟩) h9 ?_
            · go_simp
            try simp only [List.setIfInBounds_toArray, List.set_cons_zero, List.set_cons_succ]
            refine wpAnyH.takeT (i := 4) (t := 89) (v := .slice (some ⟨g9, 0, none⟩) 256 c9) rfl rfl (by decide +kernel) (by decide +kernel) (by decide +kernel) (fun _ _ _ h => h.elim) (.inl ⟨rfl, fun w' hS => ?_⟩) h9 ?_
            · go_simp
            try simp only [List.setIfInBounds_toArray, List.set_cons_zero, List.set_cons_succ]
            refine wpAnyH.takeT (i := 5) (t := 90) (v := .string s0) rfl rfl (by decide +kernel) (by decide +kernel) (by decide +kernel) (fun _ _ _ h => h.elim) (.inl ⟨rfl, fun w' hS => ?_⟩) h9 ?_
            · have c0 := hca _ hS
              go_simp
            try simp only [List.setIfInBounds_toArray, List.set_cons_zero, List.set_cons_succ]
            refine wpAnyH.takeT (i := 6) (t := 91) (v := .slice (some ⟨b, o, none⟩) fs.length c) rfl rfl (by decide +kernel) (by decide +kernel) (by decide +kernel) (fun _ _ _ h => h.elim) (.inl ⟨rfl, fun w' hS => ?_⟩) h9 ?_
            · go_simp
            try simp only [List.setIfInBounds_toArray, List.set_cons_zero, List.set_cons_succ]
            refine wpAnyH.takeT (i := 7) (t := 92) (v := .int .i64 ((m : Int) + 1)) rfl rfl (by decide +kernel) (by decide +kernel) (by decide +kernel) (fun _ _ _ h => h.elim) (.inl ⟨rfl, fun w' hS => ?_⟩) h9 ?_
            · go_simp
            try simp only [List.setIfInBounds_toArray, List.set_cons_zero, List.set_cons_succ]
            refine wpAnyH.takeT (i := 8) (t := 93) (v := .int .i64 (m : Int)) rfl rfl (by decide +kernel) (by decide +kernel) (by decide +kernel) (fun _ _ _ h => h.elim) (.inl ⟨rfl, fun w' hS => ?_⟩) h9 ?_
            · go_simp
            try simp only [List.setIfInBounds_toArray, List.set_cons_zero, List.set_cons_succ]
            refine wpAnyH.takeT (i := 9) (t := 94) (v := .pointer (some ⟨b, o + m, none⟩)) rfl rfl (by decide +kernel) (by decide +kernel) (by decide +kernel) (fun _ _ _ h => h.elim) (.inl ⟨rfl, fun w' hS => ?_⟩) h9 ?_
            · go_simp
            try simp only [List.setIfInBounds_toArray, List.set_cons_zero, List.set_cons_succ]
            refine wpAnyH.takeT (i := 10) (t := 95) (v := .int .u8 (x.toNat : Int)) rfl rfl (by decide +kernel) (by decide +kernel) (by decide +kernel) (fun _ _ _ h => h.elim) (.inl ⟨rfl, fun w' hS => ?_⟩) h9 ?_
            · have c0 := (hS.cell (p := ⟨b, o + m, none⟩) hb9).trans c9'
              go_simp
            try simp only [List.setIfInBounds_toArray, List.set_cons_zero, List.set_cons_succ]
            refine wpAnyH.one (i := 11) (by decide +kernel) rfl rfl ?_
            refine wp_goCall1 14 (enters_of Try.func14 (by kernel_rfl) rfl) (.tmp 95) #[5] rfl 96 rfl ?_
            refine (full_any x _).mono ?_
            rintro e wA ⟨rfl, BA, bA⟩
            have sA := bl_tr h9 bA
            have hcA : ∀ w', Below wA.heap.size wA w' → (convert 30 9 (.slice (some ⟨w9.heap.size, 0, none⟩) 256 256)).run Try.prog w' = .ok (.string s0) w' := fun w' hb => conv_blk' hs0.out (BA.below hb BA.lt) (fullT_length _)
            refine ⟨_, rfl, sA, wpAnyH.strong (S' := fun w' => Below wA.heap.size wA w') (fun w' h => bl_tr sA h) _ _ _ _ ?_⟩
            try simp only [List.setIfInBounds_toArray, List.set_cons_zero, List.set_cons_succ]
            refine wpAnyH.takeT (i := 12) (t := 97) (v := .string s0) rfl rfl (by decide +kernel) (by decide +kernel) (by decide +kernel) (fun _ _ _ h => h.elim) (.inl ⟨rfl, fun w' hS => ?_⟩) (Below.refl _ _) ?_
            · have c0 := hcA _ hS
              go_simp
            try simp only [List.setIfInBounds_toArray, List.set_cons_zero, List.set_cons_succ]
            refine wpAnyH.takeT (i := 13) (t := 98) (v := .bool true) rfl rfl (by decide +kernel) (by decide +kernel) (by decide +kernel) (fun _ _ _ h => h.elim) (.inl ⟨rfl, fun w' hS => ?_⟩) (Below.refl _ _) ?_
            · go_simp
            try simp only [List.setIfInBounds_toArray, List.set_cons_zero, List.set_cons_succ]
            refine wpAnyH.takeT (i := 14) (t := 99) (v := .bool true) rfl rfl (by decide +kernel) (by decide +kernel) (by decide +kernel) (fun _ _ _ h => h.elim) (.inl ⟨rfl, fun w' hS => ?_⟩) (Below.refl _ _) ?_
            · go_simp
            try simp only [List.setIfInBounds_toArray, List.set_cons_zero, List.set_cons_succ]
            refine wpAnyH.takeT (i := 15) (t := 4) (v := .bool true) rfl rfl (by decide +kernel) (by decide +kernel) (by decide +kernel) (fun _ _ _ h => h.elim) (.inl ⟨rfl, fun w' hS => ?_⟩) (Below.refl _ _) ?_
            · go_simp
            try simp only [List.setIfInBounds_toArray, List.set_cons_zero, List.set_cons_succ]
            refine wpAnyH_done (by decide +kernel) ?_ _
            refine NoPanic.normal ?_
            go_wp2_with fail
            go_ret
            exact ⟨rfl, bl_tr (bl_tr b8 b9) sA⟩
          · unfold readT at hrd
            rw [chD_crash2 hne.out z hz0 hzc] at hrd
            have hcase : (0 < z ∧ decide (z ≤ (fs.length : Int)) = false) ∨ decide (0 < z) = false := by
              by_cases h0 : 0 < z
              · exact .inl ⟨h0, by simp; omega⟩
              · exact .inr (by simpa using h0)
            clear hzc hz0
            refine hrd.mono ?_
            clear hrd
            rintro e w9 ⟨v9, rfl, H9, b9⟩
            rcases H9 with ⟨_, rfl⟩ | ⟨h0, _⟩
            · rcases hcase with ⟨hca, hcb⟩ | hca
              · go_wp2_with (first | (go_at_call 10; refine (num_any _ _).mono ?_; rintro e w' ⟨rfl, rfl⟩))
                go_ret
                exact ⟨rfl, bl_tr b8 b9⟩
              · go_wp2_with (first | (go_at_call 10; refine (num_any _ _).mono ?_; rintro e w' ⟨rfl, rfl⟩))
                go_ret
                exact ⟨rfl, bl_tr b8 b9⟩
            · exact absurd rfl h0
end Go.Proofs.Yteaenhmiomoocaa
