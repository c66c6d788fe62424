/- The document's Range (9). -/
import Derived.Test.YtbjjhnlifgbpmaaRi
namespace Go.Proofs.Ytbjjhnlifgbpmaa
open Go.RowKit Go.Shelf
attribute [local go_sem] Oper.semAt_some

theorem info49 : (Try.prog.info? 49).map (fun i => (i.zero, i.size, i.bytes)) = some (some (.agg #[.string ⟨#[]⟩, .slice none 0 0]), 2, 40) := by kernel_rfl

/-- What is held of the document's rows. -/
structure RhAt (w : World) (B : Nat) (A : Option Addr) (c : Nat) (os : List Ou) : Prop where
  row : w.ownsRow B 49 2 (.slice A os.length c) os.length (os.flatMap ouL)
  part : ∀ o ∈ os, w.ownsRow B 3 1 o.r.v o.r.l.length (o.r.l.flatMap encI)
  bs : B ≤ w.heap.size
theorem RhAt.sh {w : World} {B : Nat} {A : Option Addr} {c : Nat} {os : List Ou} (h : RhAt w B A c os) : ShAt w A os :=
  ⟨LAt.of_own ouL_len h.row rfl, fun o ho => LAt.of_own encI_len (h.part o ho) rfl⟩
theorem RhAt.below {w w' : World} {B : Nat} {A : Option Addr} {c : Nat} {os : List Ou} (h : RhAt w B A c os) (hb : Below w.heap.size w w') : RhAt w' B A c os :=
  ⟨ownsRow_below h.row hb, fun o ho => ownsRow_below (h.part o ho) hb, Nat.le_trans h.bs hb.size⟩

set_option maxRecDepth 100000 in
set_option maxHeartbeats 4000000 in
theorem rrange_any (A : Option Addr) (c : Nat) (ml : List ByteArray) (parts : Nat) (w : World) (hm : LAt w A 1 encS ml) (hl : ml.length * 16 ≤ 140737488351232) (S : List ByteArray) (hS : sortS ml = S) (hk : ∀ s ∈ S, s.size ≤ 140737488351232) (hN : okN S (parts : Int) = true) :
    Calls Try.prog 9 #[.slice A ml.length c, .int .i64 parts] w fun e w' => ∃ A' c' os, e = .returned (.tuple #[.slice A' S.length c', .int .i64 0]) ∧ ShAt w' A' os ∧ os.map Ou.m = S ∧ (∀ j, j < S.length → (os.getD j default).r.l = rangeL parts S.length j) ∧ Below w.heap.size w w' := by
  obtain ⟨i0, hi0, hz0, hz1, hz2⟩ := info_parts info49
  obtain ⟨n, hn⟩ : ∃ n, S.length = n := ⟨_, rfl⟩
  have hri := right_any A c ml (parts : Int) w hm hl S hS hk
  rw [hN] at hri
  have hSl : S.length = ml.length := by rw [← hS]; exact sortS_len ml
  have hso : ∀ w', Below w.heap.size w w' → Calls Try.prog 22 #[.slice A ml.length c] w' fun e w'' => ∃ A' c', e = .returned (.slice A' n c') ∧ LAt w'' A' 1 encS S ∧ Below w'.heap.size w' w'' := fun w' hb =>
    (sorted_any A c ml w' (hm.below hb) hl).mono (by rintro e w'' ⟨A', c', h1, h2, h3⟩; exact ⟨A', c', by rw [h1, ← hn, hSl], by rw [← hS]; exact h2, h3⟩)
  have hN' := hN
  simp only [okN, Bool.and_eq_true, decide_eq_true_eq] at hN'
  have hp32 : parts ≤ 32 := by omega
  have hn1000 : n ≤ 1000 := by omega
  clear hN'
  clear hN hk hS
  replace hri := Lib.hid hri
  replace hso := Lib.hid hso
  replace hSl := Lib.hid hSl
  go_enter Try.func9, Try.ntmps9
  go_wp2_with fail
  refine hri.out.mono ?_
  rintro e w0 ⟨rfl, hb0⟩
  go_wp2_with fail
  refine (hso.out w0 hb0).mono ?_
  rintro e w1 ⟨Al, cl, rfl, hnames, hb1'⟩
  go_wp2_with fail
  clear hri hso
  have hb1 := bl_tr hb0 hb1'
  clear hb0 hb1'
  have hs1 := hb1.size
  go_loopw [7, 8, 9] (fun v8 v9 u wr => ∃ (i : Nat) (A8 : Option Addr) (c8 : Nat) (os : List Ou), i ≤ n ∧ u = .int .i64 i ∧ v8 = .slice A8 i c8 ∧ v9 = .int .i64 (startR parts n i : Nat) ∧ os.length = i ∧ os.map Ou.m = S.take i ∧ (∀ j, j < i → (os.getD j default).r.l = rangeL parts n j) ∧ RhAt wr w1.heap.size A8 c8 os ∧ Below w1.heap.size w1 wr) (fun _ _ u _ => n - (intOf u).toNat)
  case atStart => exact ⟨0, none, 0, [], Nat.zero_le _, rfl, rfl, by simp [startR], rfl, rfl, fun j h => by omega, ⟨World.ownsRow_nil _ _ _ _, by simp, Nat.le_refl _⟩, Below.refl _ _⟩
  case round =>
    obtain ⟨i, A8, c8, os, hi, rfl, rfl, rfl, hol, hom, hos, hR, hb⟩ := hrel
    by_cases hlt : i < n
    · obtain ⟨g, o, rfl, hg, hc⟩ := (hnames.below hb) i (by omega)
      have qk := hc 0 _ rfl
      simp only [Nat.mul_one, Nat.add_zero] at qk
      have hs2 := hb.size
      have hm1 : S.take (i + 1) = S.take i ++ [S[i]] := List.take_succ_eq_append_getElem (by omega)
      replace hm1 := Lib.hid hm1
      generalize S[i] = s at *
      have hnI : (i : Int) < (n : Int) := by omega
      have hn0 : (n : Int) ≠ 0 := by omega
      have hz1' : ((n : Int) == 0) = false := by rw [beq_eq_false_iff_ne]; omega
      have hstl : startR parts n i ≤ 32 := by
        have h1 := startR_mono parts n i (n - i)
        rw [show i + (n - i) = n from by omega, startR_end (by omega)] at h1
        omega
      obtain ⟨L, hL⟩ : ∃ L, lenR parts n i = L := ⟨_, rfl⟩
      obtain ⟨st, hstv⟩ : ∃ st, startR parts n i = st := ⟨_, rfl⟩
      rw [hstv] at hstl
      have hA := Lib.hid (fun h => len_yes (parts := parts) (n := n) (i := i) hp32 h)
      have hB := Lib.hid (fun h => len_no (parts := parts) (n := n) (i := i) hp32 h)
      rw [hL] at hA hB
      have hst := startR_succ parts n i
      rw [hL] at hst
      have hrg := rangeL_eq (parts := parts) (n := n) (i := i)
      rw [hL] at hrg
      have hL33 : L ≤ 33 := by rw [← hL]; exact lenR_le hp32
      rw [hstv] at hst hrg ⊢
      clear hc hL hstv
      replace hst := Lib.hid hst
      replace hrg := Lib.hid hrg
      obtain ⟨wr0, hwr0⟩ : ∃ wr0, wr = wr0 := ⟨_, rfl⟩
      rw [hwr0] at hb hR hs2 qk hg ⊢
      clear hwr0 wr
      go_wp2_with fail
      all_goals
        first | rw [hA.out ‹_›] | rw [hB.out ‹_›]
        clear hA hB
        obtain ⟨j0, hj0, hjz, hj1, hj2⟩ := info_parts infoI
        replace hm := Lib.hid hm
        replace hnames := Lib.hid hnames
        replace hos := Lib.hid hos
        replace hom := Lib.hid hom
        go_loopw [12] (fun u wi => ∃ (k : Nat) (Ax : Option Addr) (cx : Nat), k ≤ L ∧ u = .int .i64 k ∧ Blk wi wr0.heap.size [.string s, .slice Ax k cx] ∧ wi.ownsRow (wr0.heap.size + 1) 3 1 (.slice Ax k cx) k (((List.range' st k).map Int.ofNat).flatMap encI) ∧ Below wr0.heap.size wr0 wi) (fun u _ => L - (intOf u).toNat)
        case atStart => exact ⟨0, none, 0, Nat.zero_le _, rfl, Blk.new' _ _ rfl, World.ownsRow_nil _ _ _ _, bl_alloc (Below.refl _ _) _⟩
        case round =>
          obtain ⟨k, Ax, cx, hkL, rfl, hX, hXr, hXb⟩ := hrel
          have qX := hX.cell
          have hsX := hX.lt
          by_cases hkl : k < L
          · have hklI : (k : Int) < (L : Int) := by omega
            have hk0 : (0 : Int) ≤ (k : Int) := by omega
            have hneX : some wr0.heap.size ≠ (Value.slice Ax k cx).ownBlock := fun e => by have := ownsRow_base hXr e.symm; omega
            have hcc := Lib.hid (show ((List.range' st (k + 1)).map Int.ofNat).flatMap encI = ((List.range' st k).map Int.ofNat).flatMap encI ++ encI ((st + k : Nat) : Int) by rw [List.range'_1_concat, List.map_append, List.flatMap_append]; simp)
            go_wp2_with (refine wpList_append_srcT rfl _ _ 37 rfl (wr0.heap.size + 1) 3 j0 _ 1 8 Try.underlying37 hj0 hjz hj1 hj2 rfl (by omega) (.slice Ax k cx) k _ rfl (hXr.alloc _) (some ⟨wr.heap.size, 0, none⟩) 1 1 (encI ((st + k : Nat) : Int)) rfl (src_new wr (encI ((st + k : Nat) : Int)) 3 1 1 rfl) (encI_one _) (by simp only [maxLen]; omega) (by omega) (by simp; omega) ?_; (intro A2 c2 w2 hown2 hg2; have hB2 := (hX.alloc _).grown hg2 hneX; have q2 := hB2.cell; have u2 := hB2.unf; have b2 := bl_gr' hXb hXr hg2))
            go_roundw
            case rel =>
              refine ⟨k + 1, A2, c2, by omega, by go_num, ?_, ?_, ?_⟩
              · exact hB2.set_same 1 _
              · rw [hcc.out]
                refine (FrX.set (S := fun b => b = wr0.heap.size) (FrX.refl _ _) _ _ (.inl rfl) _).own hown2 fun g hg e => ?_
                have := ownsRow_base hown2 hg; omega
              · exact bl_set'' b2 (Nat.le_refl _) _
            case measure => simp [intOf]; omega
          · obtain rfl : k = L := by omega
            have hR8 := hR.below hXb
            have a0 := qX 0
            have a1 := qX 1
            have ho1 : ∀ u ∈ [Value.string s, .slice Ax k cx], u.oneCell' = true := by intro u hu; simp only [List.mem_cons, List.not_mem_nil, or_false] at hu; rcases hu with rfl | rfl <;> rfl
            clear qX
            simp only [List.getElem?_cons_zero, List.getElem?_cons_succ] at a0 a1
            have hol' := hol
            subst hol'
            go_wp2_with (refine wpList_append_srcT rfl _ _ 27 rfl w1.heap.size 49 i0 _ 2 40 Try.underlying27 hi0 hz0 hz1 hz2 rfl (by omega) (.slice A8 os.length c8) os.length _ rfl (hR8.row.alloc _) (some ⟨wr.heap.size, 0, none⟩) 1 1 [.string s, .slice Ax k cx] rfl (src_new wr [.string s, .slice Ax k cx] 49 1 2 rfl) ho1 (by simp only [maxLen]; omega) (by omega) (by simp; exact Nat.le_succ_of_le hR8.bs) ?_; (intro A9 c9 w9 hown9 hg9))
            refine ⟨⟨os.length + 1, A9, c9, os ++ [⟨s, ⟨Ax, cx, (List.range' st k).map Int.ofNat⟩⟩], by omega, by go_num, rfl, by rw [hst.out]; simp, by simp, ?_, ?_, ?_, ?_⟩, by simp [intOf]; omega⟩
            · rw [List.map_append, hm1.out, hom.out]; rfl
            · intro j hj
              by_cases e : j = os.length
              · subst e
                rw [List.getD_eq_getElem?_getD, List.getElem?_append_right (Nat.le_refl _)]
                simp only [Nat.sub_self, List.getElem?_cons_zero, Option.getD_some]
                exact hrg.out.symm
              · rw [List.getD_eq_getElem?_getD, List.getElem?_append_left (by omega), ← List.getD_eq_getElem?_getD]
                exact hos.out j (by omega)
            · refine ⟨?_, ?_, ?_⟩
              · simp only [List.flatMap_append, List.length_append, List.length_cons, List.length_nil]
                simpa [ouL, Rw3.v] using hown9
              · intro x hx
                rcases List.mem_append.1 hx with h | h
                · exact ownsRow_type ((hR8.part x h).alloc _) (hR8.row.alloc _) (by decide) hg9
                · rw [List.mem_singleton] at h
                  subst h
                  have h3 := ownsRow_type ((ownsRow_le hXr (show w1.heap.size ≤ wr0.heap.size + 1 by omega)).alloc _) (hR8.row.alloc _) (by decide) hg9
                  simpa [Rw3.v] using h3
              · exact Nat.le_trans hR8.bs (Nat.le_trans (by simp) hg9.size)
            · exact bl_own (bl_alloc (bl_tr hb hXb) _) (hR8.row.alloc _) (Nat.le_refl _) hg9
    · obtain rfl : i = n := by omega
      go_wp2_with fail
      go_ret2
      refine ⟨A8, c8, os, by rw [hn]; rfl, hR.sh, by rw [hom, ← hn, List.take_length], by rw [hn]; exact hos, hb1.trans (hb.mono hs1)⟩
set_option maxRecDepth 100000 in
set_option maxHeartbeats 4000000 in
theorem rrange_bad (A : Option Addr) (c : Nat) (ml : List ByteArray) (parts : Int) (w : World) (hm : LAt w A 1 encS ml) (hl : ml.length * 16 ≤ 140737488351232) (S : List ByteArray) (hS : sortS ml = S) (hk : ∀ s ∈ S, s.size ≤ 140737488351232) (hN : okN S parts = false) :
    Calls Try.prog 9 #[.slice A ml.length c, .int .i64 parts] w fun e w' => e = .returned (.tuple #[.slice none 0 0, .int .i64 1]) ∧ Below w.heap.size w w' := by
  have hri := right_any A c ml parts w hm hl S hS hk
  rw [hN] at hri
  replace hri := Lib.hid hri
  go_enter Try.func9, Try.ntmps9
  go_wp2_with (go_at_call 21; refine hri.out.mono ?_; rintro e w0 ⟨rfl, hb0⟩)
  go_ret2
  exact ⟨rfl, hb0⟩
end Go.Proofs.Ytbjjhnlifgbpmaa
