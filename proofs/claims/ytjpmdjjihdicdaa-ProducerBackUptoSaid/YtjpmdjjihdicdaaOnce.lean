/- The walk of ProducerOnce. -/
import Derived.Test.YtjpmdjjihdicdaaOnceLaw
import Derived.Test.YtjpmdjjihdicdaaKnows
import Derived.Test.YtjpmdjjihdicdaaPair
namespace Go.Proofs.Ytjpmdjjihdicdaa
open Go.RowKit Go.Shelf

/-- An operation on a table, as data. -/
structure OpD where
  note : Bool
  k : Int
  p : Int
  ep : Int
  s : Int
  t : Bool
  rs : List Rec
  off : Int
deriving Inhabited

def OpD.fits (x : OpD) : Prop := okI x.k ∧ okI x.p ∧ okI x.ep ∧ okI x.s ∧ okI x.off

/-- From address A on w holds the operations l. -/
def OpsAt (w : World) (A : Option Addr) (l : List OpD) : Prop :=
  l.length ≤ 1759218604441 ∧ ∀ i (h : i < l.length), ∃ b o A' c', A = some ⟨b, o, none⟩ ∧ b < w.heap.size ∧ RecsAt w A' l[i].rs ∧ l[i].fits ∧
    w.cell? ⟨b, o + i * 8, none⟩ = some (.bool l[i].note) ∧ w.cell? ⟨b, o + i * 8 + 1, none⟩ = some (.int .i64 l[i].k) ∧ w.cell? ⟨b, o + i * 8 + 1 + 1, none⟩ = some (.int .i64 l[i].p) ∧
    w.cell? ⟨b, o + i * 8 + 1 + 2, none⟩ = some (.int .i64 l[i].ep) ∧ w.cell? ⟨b, o + i * 8 + 1 + 3, none⟩ = some (.int .i64 l[i].s) ∧ w.cell? ⟨b, o + i * 8 + 1 + 4, none⟩ = some (.bool l[i].t) ∧
    w.cell? ⟨b, o + i * 8 + 1 + 5, none⟩ = some (.slice A' l[i].rs.length c') ∧ w.cell? ⟨b, o + i * 8 + 7, none⟩ = some (.int .i64 l[i].off)
theorem OpsAt.below {w w' : World} {A : Option Addr} {l : List OpD} (h : OpsAt w A l) (hb : Below w.heap.size w w') : OpsAt w' A l := by
  refine ⟨h.1, fun i hi => ?_⟩
  obtain ⟨b, o, A', c', hA, hlt, hr, hf, c0, c1, c2, c3, c4, c5, c6, c7⟩ := h.2 i hi
  have e : ∀ j, w'.cell? ⟨b, j, none⟩ = w.cell? ⟨b, j, none⟩ := fun j => hb.cell (p := ⟨b, j, none⟩) hlt
  exact ⟨b, o, A', c', hA, Nat.lt_of_lt_of_le hlt hb.size, hr.below hb, hf, by rw [e]; exact c0, by rw [e]; exact c1, by rw [e]; exact c2, by rw [e]; exact c3, by rw [e]; exact c4, by rw [e]; exact c5, by rw [e]; exact c6, by rw [e]; exact c7⟩

def encI (n : Int) : Value := .int .i64 n

set_option maxRecDepth 100000 in
set_option maxHeartbeats 2000000 in
theorem once_any (A : Option Addr) (c : Nat) (l : List OpD) (w : World) (hl : OpsAt w A l) :
    Calls Try.prog 3 #[.slice A l.length c] w fun e w' => e = .returned (.bool true) ∧ Below w.heap.size w w' := by
  have hmm := @run_makeMap Try.prog
  obtain ⟨hT, hM⟩ := table_new w
  go_enter Try.func3, Try.ntmps3
  go_wp2_with (go_at_call 9; refine (new_any _).mono ?_; rintro e w' ⟨rfl, rfl⟩)
  have hb0 : Below w.heap.size w ((w.alloc (.map #[] 0)).alloc (.cells #[.map (some w.heap.size)] 65)) := bl_alloc (bl_alloc (Below.refl _ _) _) _
  refine (knows_any _).mono ?_
  rintro e w1 ⟨rfl, hb1⟩
  replace hT := hT.below hb1 hT.lt
  replace hM := hM.below hb1 hM.lt
  replace hb0 := bl_tr hb0 hb1
  have hz1 : w.heap.size + 1 < w1.heap.size := hT.lt
  clear hb1
  go_wp2_with fail
  have hN0 : FM Try.prog 39 klP okP ((w1.alloc (.map #[] 0)).alloc (.map #[] 0)) w1.heap.size 0 encI 0 (fun _ => 0) := (FM.made w1 Try.prog 39 klP okP encI 0).alloc _
  have hP0 : FM Try.prog 3 klI okI ((w1.alloc (.map #[] 0)).alloc (.map #[] 0)) (w1.heap.size + 1) 0 encI 0 (fun _ => 0) := by simpa using FM.made (w1.alloc (.map #[] 0)) Try.prog 3 klI okI encI 0
  go_loopw [6, 7] (fun v u wr => ∃ (i : Nat) (o : Int) (m : List (Int × St)) (tp : Int → Int) (nx : Int × Int → Int), i ≤ l.length ∧ v = .int .i64 o ∧ u = .int .i64 i ∧ 0 ≤ o ∧ o ≤ 64 * i ∧
      Blk wr (w.heap.size + 1) [.map (some w.heap.size)] ∧ IM Try.prog 3 wr w.heap.size i stV m ∧ FM Try.prog 39 klP okP wr w1.heap.size i encI 0 nx ∧ FM Try.prog 3 klI okI wr (w1.heap.size + 1) i encI 0 tp ∧ Onc m tp nx i ∧ Below w.heap.size w wr)
    (fun _ u _ => l.length - (intOf u).toNat)
  case atStart => exact ⟨0, 0, [], fun _ => 0, fun _ => 0, Nat.zero_le _, rfl, rfl, by omega, by omega, (hT.alloc _).alloc _, (hM.alloc _).alloc _, hN0, hP0, Onc.start, bl_alloc (bl_alloc hb0 _) _⟩
  case round =>
    obtain ⟨i, o, m, tp, nx, hi, rfl, rfl, ho1, ho2, hTr, hMr, hNr, hPr, HO, hBr⟩ := hrel
    replace HO := Lib.hid HO
    clear hN0 hP0 hT hM hb0
    have hll := hl.1
    by_cases hlt : i < l.length
    · obtain ⟨b, oo, A', c', rfl, hbl, hR, hF, c0, c1, c2, c3, c4, c5, c6, c7⟩ := (hl.below hBr).2 i hlt
      generalize hx : l[i] = x at *
      obtain ⟨xn, xk, xp, xe, xs, xt, xr, xo⟩ := x
      dsimp only at hR c0 c1 c2 c3 c4 c5 c6 c7
      obtain ⟨f1, f2, f3, f4, f5⟩ := hF
      dsimp only at f1 f2 f3 f4 f5
      clear hx
      go_wp2_with fail
      refine (copied_any xk xp xe xs xt xr A' c' _ hR).mono ?_
      rintro e w2 ⟨A2, c2', rfl, hR2, hb2⟩
      replace hTr := hTr.below hb2 hTr.lt
      replace hMr := hMr.below hb2 hMr.lt
      replace hNr := hNr.below hb2 hNr.lt
      replace hPr := hPr.below hb2 hPr.lt
      replace hBr := bl_tr hBr hb2
      have hz2 : w1.heap.size + 1 < w2.heap.size := hPr.lt
      clear hb2 c0 c1 c2 c3 c4 c5 c6 c7 hR hbl
      go_wp2_with fail
      have hBx : Blk (w2.alloc (.cells #[.int .i64 xk, .int .i64 xp, .int .i64 xe, .int .i64 xs, .bool xt, .slice A2 xr.length c2'] 30)) w2.heap.size [.int .i64 xk, .int .i64 xp, .int .i64 xe, .int .i64 xs, .bool xt, .slice A2 xr.length c2'] := Blk.new' _ _ rfl
      have hds : Hid (∀ st, lookI m xp = some st → st.ds.length ≤ 4611686018427387904 ∧ 0 ≤ st.next ∧ st.next ≤ 2147483648) := by
        have := hl.1
        intro st h
        obtain ⟨_, _, _, _, _, h6, h7, h8⟩ := HO.out.some xp st (HO.out.neg xp st h) h
        exact ⟨by omega, h6, h7⟩
      refine (decide_any (w.heap.size + 1) w.heap.size i m xk xp xe xs xt A2 c2' xr _ (hTr.alloc _) (hMr.alloc _) (hR2.below (bl_alloc (Below.refl _ _) _)) f4 (fun st h => (hds.out st h).1)).mono ?_
      obtain ⟨D, hD⟩ : ∃ D, decideF (lookI m xp) xk xp xe xs xt xr = D := ⟨_, rfl⟩
      have HD := Lib.hid hD
      rw [hD]
      clear hD
      obtain ⟨r, dup, e0⟩ := D
      rintro e w3 ⟨rfl, hb3⟩
      replace hBx := hBx.below hb3 hBx.lt
      replace hTr := (hTr.alloc _).below hb3 (hTr.alloc _).lt
      replace hMr := (hMr.alloc _).below hb3 (hMr.alloc _).lt
      replace hNr := (hNr.alloc _).below hb3 (hNr.alloc _).lt
      replace hPr := (hPr.alloc _).below hb3 (hPr.alloc _).lt
      replace hR2 := (hR2.below (bl_alloc (Below.refl _ _) _)).below hb3
      replace hBr := bl_tr (bl_alloc hBr _) hb3
      clear hb3
      have q0 := hBx.cell
      have hcase : (e0 ≠ 0 ∨ dup = true ∨ xp < 0) ∨ (e0 = 0 ∧ dup = false ∧ 0 ≤ xp) := by
        cases dup <;> simp <;> omega
      rcases hcase with hbad | ⟨rfl, rfl, hp⟩
      · have hskip : (e0 = 0 → dup = false → xp < 0) := by
          intro a1 a2; simp [a1, a2] at hbad; exact hbad
        clear hbad
        cases dup
        · by_cases he : e0 = 0
          · subst he
            have hp := hskip rfl rfl
            go_wp2_with (go_at_call 13; refine (num_any _ _).mono ?_; rintro e w' ⟨rfl, rfl⟩)
            go_roundw
            case rel => exact ⟨i + 1, o, _, _, _, by omega, rfl, by go_num, by omega, by omega, hTr, hMr.mono (by omega), hNr.mono (by omega), hPr.mono (by omega), HO.out.mono (by omega), hBr⟩
            case measure => simp [intOf]; omega
          · have he1 : (e0 == 0) = false := by simpa using he
            have he2 : (e0 != 0) = true := by simpa using he
            clear he hskip
            go_wp2_with (go_at_call 13; refine (num_any _ _).mono ?_; rintro e w' ⟨rfl, rfl⟩)
            go_roundw
            case rel => exact ⟨i + 1, o, _, _, _, by omega, rfl, by go_num, by omega, by omega, hTr, hMr.mono (by omega), hNr.mono (by omega), hPr.mono (by omega), HO.out.mono (by omega), hBr⟩
            case measure => simp [intOf]; omega
        · clear hskip
          have he : (e0 == 0) = true ∨ (e0 == 0) = false := by cases (e0 == 0) <;> simp
          rcases he with he | he
          all_goals
            have he2 : (e0 != 0) = !(e0 == 0) := rfl
            rw [he] at he2
            simp only [Bool.not_true, Bool.not_false] at he2
          · go_wp2_with (go_at_call 13; refine (num_any _ _).mono ?_; rintro e w' ⟨rfl, rfl⟩)
            go_roundw
            case rel => exact ⟨i + 1, o, _, _, _, by omega, rfl, by go_num, by omega, by omega, hTr, hMr.mono (by omega), hNr.mono (by omega), hPr.mono (by omega), HO.out.mono (by omega), hBr⟩
            case measure => simp [intOf]; omega
          · go_wp2_with (go_at_call 13; refine (num_any _ _).mono ?_; rintro e w' ⟨rfl, rfl⟩)
            go_roundw
            case rel => exact ⟨i + 1, o, _, _, _, by omega, rfl, by go_num, by omega, by omega, hTr, hMr.mono (by omega), hNr.mono (by omega), hPr.mono (by omega), HO.out.mono (by omega), hBr⟩
            case measure => simp [intOf]; omega
      · obtain ⟨hge, hck, hsq, HO2⟩ := HO.out.ok o hp (by rw [HD.out]) (by rw [HD.out])
        replace HO2 := Lib.hid HO2
        replace hsq := Lib.hid hsq
        have hck := Lib.hid (checkE_ok hck)
        have HF := Lib.hid (show noteF m xk xp xe xs xt xr o = (0, putI m xp (noteSt (lookI m xp) xk xe xs xr.length o)) from by
          unfold noteF
          rw [HD.out, if_neg (by omega), if_neg (by simp; omega)])
        go_wp2_with (first | (go_at_call 13; refine (num_any _ _).mono ?_; rintro e w' ⟨rfl, rfl⟩) | (refine wpList_lookup_fm rfl _ _ 27 rfl (told_int Try.underlying3) Try.underlying27 (z := (0 : Int)) (enc := encI) (fun _ => rfl) (w1.heap.size + 1) i rfl hPr xp f2 rfl ?_; dsimp only [encI]))
        refine (note_any (w.heap.size + 1) w.heap.size i m xk xp xe xs xt A2 c2' xr o _ hTr hMr hR2 f4 (by simp only [maxLen]; omega) hds.out).mono ?_
        rw [HF.out]
        rintro e w4 ⟨rfl, hM4, hg4⟩
        have hT4 := hTr.grown hg4 (by simp)
        have hB4 := hBx.grown hg4 (by simp; omega)
        have hN4 := hNr.grown hg4 (by simp; omega)
        have hP4 := hPr.grown hg4 (by simp; omega)
        have hBr4 := bl_gr hBr hg4 (Nat.le_refl _)
        clear hTr hMr hBx hNr hPr hBr hR2 hg4 q0
        have q0 := hB4.cell
        have hl0 := hB4.lt
        have hkk : xk = 1 ∨ xk ≠ 1 := by omega
        rcases hkk with rfl | hk
        · go_wp2_with (first | (go_at_call 13; refine (num_any _ _).mono ?_; rintro e w' ⟨rfl, rfl⟩) | (refine wpList_mapUpdate_fm rfl _ _ _ 27 rfl (told_int Try.underlying3) Try.underlying27 (enc := encI) (z := (0 : Int)) (w1.heap.size + 1) i rfl hP4 (by simp only [maxLen]; omega) xp f2 rfl xe rfl ?_; intro w5 hP5 hg5; replace hT4 := hT4.grown hg5 (by simp; omega); replace hB4 := hB4.grown hg5 (by simp; omega); replace hN4 := hN4.grown hg5 (by simp); replace hM4 := hM4.grown hg5 (by simp; omega); replace hBr4 := bl_gr hBr4 hg5 (by omega); clear hP4 hg5 q0; have q0 := hB4.cell; replace hl0 := hB4.lt))
          have HO3 : Onc _ _ _ _ := HO2.out
          simp only [if_true] at HO3
          replace HO3 := Lib.hid HO3
          have hq := hsq.out trivial
          obtain ⟨d1, d2, d3, d4, d5⟩ := hck.out
          obtain ⟨d5, d6, d7⟩ := d5 trivial
          clear hsq hck HO2 HO HD HF hds
          subst hq
          replace hB4 := hB4.alloc (.cells #[.int .i64 xp, .int .i64 xe] 39)
          replace hN4 := hN4.alloc (.cells #[.int .i64 xp, .int .i64 xe] 39)
          replace hM4 := hM4.alloc (.cells #[.int .i64 xp, .int .i64 xe] 39)
          replace hP5 := hP5.alloc (.cells #[.int .i64 xp, .int .i64 xe] 39)
          replace hT4 := hT4.alloc (.cells #[.int .i64 xp, .int .i64 xe] 39)
          replace hBr4 := bl_alloc hBr4 (.cells #[.int .i64 xp, .int .i64 xe] 39)
          have hBk : Blk (w5.alloc (.cells #[.int .i64 xp, .int .i64 xe] 39)) w5.heap.size [.int .i64 xp, .int .i64 xe] := Blk.new' _ _ rfl
          have hzW : w5.heap.size < (w5.alloc (.cells #[.int .i64 xp, .int .i64 xe] 39)).heap.size := hBk.lt
          generalize w5.alloc (.cells #[.int .i64 xp, .int .i64 xe] 39) = W at hB4 hN4 hM4 hP5 hT4 hBr4 hBk hzW ⊢
          have hlk : (Instr.lookup 26 (.map (some w1.heap.size)) (.agg #[.int .i64 xp, .int .i64 xe]) false).run Try.prog W.drew = .ok (.int .i64 (nx (xp, xe))) W.drew :=
            hN4.drew.look told_pair Try.underlying26 (z := (0 : Int)) (enc := encI) (fun _ => rfl) (x := (xp, xe)) ⟨f2, f3⟩
          have t3 := hB4.drew.get (j := 3) rfl
          have k0 := hBk.drew.get (j := 0) rfl
          have k1 := hBk.drew.get (j := 1) rfl
          clear q0
          go_still (by kernel_rfl)
          obtain ⟨W2, hW2⟩ : ∃ W2, ({ heap := W.heap, tape := W.tape, drawn := W.drawn + 1, os := W.os, output := W.output } : World) = W2 := ⟨_, rfl⟩
          rw [hW2]
          have hW3 : W.drew = W2 := hW2
          replace hB4 := hW3 ▸ hB4.drew
          replace hN4 := hW3 ▸ hN4.drew
          replace hM4 := hW3 ▸ hM4.drew
          replace hP5 := hW3 ▸ hP5.drew
          replace hT4 := hW3 ▸ hT4.drew
          replace hBr4 := hW3 ▸ bl_drew hBr4
          replace hBk := hW3 ▸ hBk.drew
          have hz5 : w5.heap.size < W2.heap.size := hBk.lt
          clear hlk t3 k0 k1 hW2 hW3 hzW
          go_wp2_with fail
          have hlk : (Instr.lookup 26 (.map (some w1.heap.size)) (.agg #[.int .i64 xp, .int .i64 xe]) false).run Try.prog W2.drew = .ok (.int .i64 (nx (xp, xe))) W2.drew :=
            hN4.drew.look told_pair Try.underlying26 (z := (0 : Int)) (enc := encI) (fun _ => rfl) (x := (xp, xe)) ⟨f2, f3⟩
          have t5 := hB4.drew.get (j := 5) rfl
          have k0 := hBk.drew.get (j := 0) rfl
          have k1 := hBk.drew.get (j := 1) rfl
          go_still_tail 9, (by kernel_rfl)
          change wpList _ _ _ _ _ (W2.drew)
          (refine wpList_mapUpdate_fm rfl _ _ _ 26 rfl told_pair Try.underlying26 (enc := encI) (z := (0 : Int)) w1.heap.size i rfl hN4.drew (by simp only [maxLen]; omega) (xp, xe) ⟨f2, f3⟩ rfl (nx (xp, xe) + xr.length) ?hv ?nx; case' nx => intro w6 hN6 hg6)
          case hv => simp [encI, Act.eval]; simp [IntKind.wrap, IntKind.bits, IntKind.signed]; omega
          have hB6 := hB4.drew.grown hg6 (by simp; omega)
          have hT6 := hT4.drew.grown hg6 (by simp; omega)
          have hM6 := hM4.drew.grown hg6 (by simp; omega)
          have hP6 := hP5.drew.grown hg6 (by simp)
          have hBr6 := bl_gr (bl_drew hBr4) hg6 (by omega)
          have q0 := hB6.cell
          clear hlk t5 k0 k1 hB4 hN4 hM4 hP5 hT4 hBr4 hBk
          go_wp2_with fail
          go_roundw
          case rel => exact ⟨i + 1, o + xr.length, _, _, _, by omega, by go_num, by go_num, by omega, by omega, hT6, hM6, hN6, hP6, HO3.out, hBr6⟩
          case measure => simp [intOf]; omega
        · go_wp2_with (first | (go_at_call 13; refine (num_any _ _).mono ?_; rintro e w' ⟨rfl, rfl⟩) | (refine wpList_mapUpdate_fm rfl _ _ _ 27 rfl (told_int Try.underlying3) Try.underlying27 (enc := encI) (z := (0 : Int)) (w1.heap.size + 1) i rfl hP4 (by simp only [maxLen]; omega) xp f2 rfl xe rfl ?_; intro w5 hP5 hg5; replace hT4 := hT4.grown hg5 (by simp; omega); replace hB4 := hB4.grown hg5 (by simp; omega); replace hN4 := hN4.grown hg5 (by simp); replace hM4 := hM4.grown hg5 (by simp; omega); replace hBr4 := bl_gr hBr4 hg5 (by omega); clear hP4 hg5 q0; have q0 := hB4.cell; replace hl0 := hB4.lt))
          have HO3 : Onc _ _ _ _ := HO2.out
          rw [if_neg hk] at HO3
          go_roundw
          case rel => exact ⟨i + 1, o, _, _, _, by omega, rfl, by go_num, by omega, by omega, hT4, hM4, hN4.mono (by omega), hP5, HO3, hBr4⟩
          case measure => simp [intOf]; omega
    · go_wp2
      go_ret
      exact ⟨rfl, hBr⟩
end Go.Proofs.Ytjpmdjjihdicdaa
