/- The document's Sticky (15). -/
import Derived.Test.YtbjjhnlifgbpmaaDa
import Derived.Test.YtbjjhnlifgbpmaaDb
import Derived.Test.YtbjjhnlifgbpmaaSk
import Derived.Test.YtbjjhnlifgbpmaaLa
namespace Go.Proofs.Ytbjjhnlifgbpmaa
open Go.RowKit Go.Shelf
attribute [local go_sem] Oper.semAt_some

theorem infoBl : (Try.prog.info? 4).map (fun i => (i.zero, i.size, i.bytes)) = some (some (.bool false), 1, 1) := by kernel_rfl
theorem info37 : (Try.prog.info? 37).map (fun i => (i.zero, i.size, i.bytes)) = some (some (.slice none 0 0), 1, 24) := by kernel_rfl
theorem size49 : (Try.prog.info? 49).map (·.size) = some 2 := by kernel_rfl
theorem tkL_all (parts : Nat) : tkL parts (wholeL parts) = List.replicate parts (.bool false) := by
  apply List.ext_getElem
  · simp [tkL]
  · intro j h1 h2
    have hj : j < parts := by simpa [tkL] using h1
    have : (j : Int) ∈ wholeL parts := mem_wholeL.2 ⟨by omega, by omega⟩
    simp [tkL, this]
theorem made_bools (parts : Nat) : (madeCells #[.bool false] parts).toList = List.replicate parts (.bool false) := by
  have h := made_flat (α := Unit) (enc := fun _ => [Value.bool false]) (k := 1) (fun _ => rfl) (by omega) () #[.bool false] rfl parts
  rw [Nat.mul_one] at h
  rw [h]
  clear h
  induction parts with
  | zero => rfl
  | succ n ih => rw [List.replicate_succ, List.flatMap_cons, ih]; rfl
theorem own0_snoc (i : Nat) : List.replicate (i + 1) (-1 : Int) = List.replicate i (-1) ++ [-1] := by rw [List.replicate_succ']

set_option maxRecDepth 100000 in
set_option maxHeartbeats 16000000 in
theorem rsticky_ok (A0 Am : Option Addr) (c0 cm : Nat) (old : List Ou) (ml : List ByteArray) (parts : Nat) (w : World) (ho : ShAt w A0 old) (hol : old.length ≤ 3518437208783) (hok : ∀ i (h : i < old.length), old[i].r.l.length * 8 ≤ 140737488351232)
    (hm : LAt w Am 1 encS ml) (hml : ml.length * 16 ≤ 140737488351232) (S : List ByteArray) (hS : sortS ml = S) (hk : ∀ s ∈ S, s.size ≤ 140737488351232) (hN : okN S (parts : Int) = true) (hne : S ≠ []) :
    Calls Try.prog 15 #[.slice A0 old.length c0, .slice Am ml.length cm, .int .i64 parts] w fun e w' => ∃ A' c' os, e = .returned (.tuple #[.slice A' S.length c', .int .i64 0]) ∧ ShAt w' A' os ∧ os.map Ou.m = S ∧
      (∀ j, j < S.length → (os.getD j default).r.l = ofL (own4 parts S.length (fpsOf (fmL old (bk old.length)) S)) j) ∧ Below w.heap.size w w' := by
  obtain ⟨i0, hi0, hz0, hz1, hz2⟩ := info_parts info49
  obtain ⟨j0, hj0, hjz, hj1, hj2⟩ := info_parts infoI
  obtain ⟨k0, hk0, hkz, hk1, hk2⟩ := info_parts info37
  obtain ⟨n, hn⟩ : ∃ n, S.length = n := ⟨_, rfl⟩
  have hn0 : 0 < n := by rw [← hn]; exact List.length_pos_iff.2 hne
  have hri := right_any Am cm ml (parts : Int) w hm hml S hS hk
  rw [hN] at hri
  have hSl : S.length = ml.length := by rw [← hS]; exact sortS_len ml
  have hso : ∀ w', Below w.heap.size w w' → Calls Try.prog 22 #[.slice Am ml.length cm] w' fun e w'' => ∃ A' c', e = .returned (.slice A' n c') ∧ LAt w'' A' 1 encS S ∧ Below w'.heap.size w' w'' := fun w' hb =>
    (sorted_any Am cm ml w' (hm.below hb) hml).mono (by rintro e w'' ⟨A', c', h1, h2, h3⟩; exact ⟨A', c', by rw [h1, ← hn, hSl], by rw [← hS]; exact h2, h3⟩)
  have hp32 : parts ≤ 32 := by obtain ⟨q, e, h, _⟩ := ok_parts hN; omega
  have hn1000 : S.length ≤ 1000 := by obtain ⟨q, e, _, h⟩ := ok_parts hN; exact h
  rw [hn] at hn1000
  have hmk : ∀ w : World, (Instr.makeSlice 71 (.int .i64 (parts : Int)) (.int .i64 (parts : Int))).run Try.prog w = .ok (.slice (some ⟨w.heap.size, 0, none⟩) parts parts) (w.alloc (.cells (madeCells #[.bool false] (parts * 1)) 4)) := fun w => by
    obtain ⟨i0, hi0, hz0, hz1, hz2⟩ := info_parts infoBl
    have h := run_make (P := Try.prog) w 71 4 i0 _ Try.underlying71 hi0 hz0 .i64 .i64 (parts : Int) (parts : Int) (by omega) (by omega) (by rw [hz2]; omega) (by omega)
    rw [hz1] at h
    simpa only [Int.toNat_natCast, Value.cells] using h
  have hz1' : ((n : Int) == 0) = false := by rw [beq_eq_false_iff_ne]; omega
  have hnz : (n : Int) ≠ 0 := by omega
  have hqq := Lib.hid (quo_in2 (n := n) hp32)
  have hrr := Lib.hid (show ((parts : Int) % (n : Int)) = ((parts % n : Nat) : Int) from (Int.natCast_emod _ _).symm)
  obtain ⟨bs, hbs⟩ : ∃ bs, parts / n = bs := ⟨_, rfl⟩
  obtain ⟨rs, hrs⟩ : ∃ rs, parts % n = rs := ⟨_, rfl⟩
  rw [hbs] at hqq
  rw [hrs] at hrr
  have hbs32 : bs ≤ 32 := by rw [← hbs]; exact Nat.le_trans (Nat.div_le_self _ _) hp32
  have hrs32 : rs ≤ 32 := by rw [← hrs]; exact Nat.le_trans (Nat.mod_le _ _) hp32
  replace hri := Lib.hid hri
  replace hso := Lib.hid hso
  replace hSl := Lib.hid hSl
  replace hbs := Lib.hid hbs
  replace hrs := Lib.hid hrs
  replace ho := Lib.hid ho
  replace hok := Lib.hid hok
  replace hS := Lib.hid hS
  replace hk := Lib.hid hk
  replace hN := Lib.hid hN
  replace hm := Lib.hid hm
  have hfps : (fpsOf (fmL old (bk old.length)) S).length = n := by simp [fpsOf, hn]
  have hfg : ∀ i (h : i < S.length) (h' : i < (fpsOf (fmL old (bk old.length)) S).length), (fpsOf (fmL old (bk old.length)) S)[i]'h' = (hadOf (fmL old (bk old.length)) S[i]).l := fun i h _ => by simp [fpsOf]
  rw [hn]
  obtain ⟨fs, hfs⟩ : ∃ fs, fpsOf (fmL old (bk old.length)) S = fs := ⟨_, rfl⟩
  rw [hfs] at hfps hfg ⊢
  replace hfs := Lib.hid hfs
  replace hfg := Lib.hid hfg
  replace hfps := Lib.hid hfps
  go_enter Try.func15, Try.ntmps15
  go_wp2_with fail
  refine hri.out.mono ?_
  rintro e w0 ⟨rfl, hb0⟩
  go_wp2_with fail
  refine (hso.out w0 hb0).mono ?_
  rintro e w1 ⟨Al, cl, rfl, hnames, hb1⟩
  replace hb1 := bl_tr hb0 hb1
  clear hri hso hb0
  go_wp2_with fail
  rw [hqq.out, hrr.out]
  have hD0 : Blk ((w1.alloc (.cells #[.slice none 0 0, .slice none 0 0] 70)).alloc (.cells (madeCells #[.bool false] parts) 4)) w1.heap.size [.slice none 0 0, .slice none 0 0] := (Blk.new _ _ _).alloc _
  have hT0 : Blk ((w1.alloc (.cells #[.slice none 0 0, .slice none 0 0] 70)).alloc (.cells (madeCells #[.bool false] parts) 4)) (w1.heap.size + 1) (tkL parts (wholeL parts)) := blk_eq (Blk.new' _ _ (by simp)) (by rw [tkL_all]; exact made_bools parts)
  have hb2 := bl_alloc (bl_alloc (Below.refl _ w1) (.cells #[.slice none 0 0, .slice none 0 0] 70)) (.cells (madeCells #[.bool false] parts) 4)
  have hs2 : ((w1.alloc (.cells #[.slice none 0 0, .slice none 0 0] 70)).alloc (.cells (madeCells #[.bool false] parts) 4)).heap.size = w1.heap.size + 1 + 1 := by simp
  generalize ((w1.alloc (.cells #[.slice none 0 0, .slice none 0 0] 70)).alloc (.cells (madeCells #[.bool false] parts) 4)) = w2 at *
  clear hmk hqq hrr
  replace hs2 := Lib.hid hs2
  go_loopw [14] (fun u wr => ∃ (i : Nat) (AO : Option Addr) (cO : Nat), i ≤ parts ∧ u = .int .i64 i ∧ Blk wr w1.heap.size [.slice none 0 0, .slice AO i cO] ∧ wr.ownsRow (w1.heap.size + 1 + 1) 3 1 (.slice AO i cO) i ((List.replicate i (-1)).flatMap encI) ∧ Blk wr (w1.heap.size + 1) (tkL parts (wholeL parts)) ∧ Below w1.heap.size w1 wr ∧ w1.heap.size + 1 + 1 ≤ wr.heap.size) (fun u _ => parts - (intOf u).toNat)
  case atStart => exact ⟨0, none, 0, Nat.zero_le _, rfl, hD0, World.ownsRow_nil _ _ _ _, hT0, hb2, by rw [hs2.out]; exact Nat.le_refl _⟩
  case round =>
    clear hD0 hT0 hb2 hs2
    obtain ⟨i, AO, cO, hi, rfl, hD, hrow, hT, hb2, hs2⟩ := hrel
    have hneD : some w1.heap.size ≠ (Value.slice AO i cO).ownBlock := fun e => by have := ownsRow_base hrow e.symm; omega
    have hneT : some (w1.heap.size + 1) ≠ (Value.slice AO i cO).ownBlock := fun e => by have := ownsRow_base hrow e.symm; omega
    by_cases hlt : i < parts
    · have q0 := hD.get (j := 0) rfl
      have q1 := hD.get (j := 1) rfl
      have hi0 : (0 : Int) ≤ (i : Int) := by omega
      have hiI : (i : Int) < (parts : Int) := by omega
      have hsn := Lib.hid (own0_snoc i)
      go_wp2_with (refine wpList_append_srcT rfl _ _ 37 rfl (w1.heap.size + 1 + 1) 3 j0 _ 1 8 Try.underlying37 hj0 hjz hj1 hj2 rfl (by omega) (.slice AO i cO) i _ rfl (hrow.alloc _) (some ⟨wr.heap.size, 0, none⟩) 1 1 (encI (-1)) rfl (src_new wr (encI (-1)) 3 1 1 rfl) (encI_one _) (by simp only [maxLen]; omega) (by omega) (by simp; omega) ?_; (intro A2 c2 w3 hown3 hg3; have hD3 := (hD.alloc (.cells #[.int .i64 (-1)] 3)).grown hg3 hneD; have hT3 := (hT.alloc (.cells #[.int .i64 (-1)] 3)).grown hg3 hneT; have q3 := hD3.get (j := 1) rfl; have u3 := hD3.unf 1; have b3 : Below w1.heap.size w1 w3 := (bl_alloc hb2 (.cells #[.int .i64 (-1)] 3)).grown hg3 (bl_alloc hb2 (.cells #[.int .i64 (-1)] 3)).size (fun g e => by have := ownsRow_base hrow e; omega)))
      refine ⟨⟨i + 1, A2, c2, by omega, by go_num, hD3.set_same 1 _, ?_, hT3.set_ne (by simp) _, bl_set'' b3 (Nat.le_refl _) _, ?_⟩, by simp [intOf]; omega⟩
      · refine (FrX.set (S := fun b => b = w1.heap.size) (FrX.refl _ _) _ _ (.inl rfl) _).own ?_ fun g hg e => ?_
        · rw [hsn.out, List.flatMap_append]; simpa using hown3
        · have := ownsRow_base hown3 hg; omega
      · have := hg3.size; simp at this ⊢; omega
    · obtain rfl : parts = i := by omega
      clear hlt
      obtain ⟨D, hDe⟩ : ∃ D, w1.heap.size = D := ⟨_, rfl⟩
      have hOb : ∀ g, AO.map (·.block) = some g → g < wr.heap.size := fun g hg => ownsRow_lt hrow (by cases AO with | none => cases hg | some a => simpa [Value.ownBlock] using hg)
      obtain ⟨hads, hhads⟩ : ∃ hads, hadsL (wholeL parts) fs = hads := ⟨_, rfl⟩
      have hsz1 := hb1.size
      have hDA0 : DeA wr D wr.heap.size AO cO (own0 parts) parts (leftL (wholeL parts) (fs.take 0)) none 0 [] := by
        subst hDe
        exact ⟨⟨by simpa [own0] using hD, by simpa [own0] using hrow, by omega, hs2⟩, by simpa [leftL] using hT, World.ownsRow_nil _ _ _ _, by simp, hs2, hOb, Nat.le_refl _⟩
      have hDge : w.heap.size ≤ D := by omega
      rw [hDe] at hb2 ⊢
      obtain ⟨W3, hW3⟩ : ∃ W3, wr = W3 := ⟨_, rfl⟩
      rw [hW3] at hDA0 hb2 ⊢
      clear hD hrow hT hOb hneD hneT hs2 hW3 wr
      have hbel : ∀ W, Below D w1 W → Below w.heap.size w W := fun W h => hb1.trans (h.mono hDge)
      have hnm : ∀ W, Below D w1 W → LAt W Al 1 encS S := fun W h => hnames.low h (by rw [← hDe]; exact hnames.bel)
      obtain ⟨N2, hN2⟩ : ∃ N2, W3.heap.size = N2 := ⟨_, rfl⟩
      rw [hN2] at hDA0
      have hhl : ∀ i, i < n → hads.getD i [] = (leftL (wholeL parts) (fs.take i)).filter fun p => (fs.getD i []).contains p := fun i hi => by
        have hi' : i < fs.length := by rw [hfps.out]; exact hi
        rw [← hhads, hads_get fs _ i hi', getD_get _ _ hi']
      have hts : ∀ i, i < n → hadsL (wholeL parts) (fs.take (i + 1)) = hadsL (wholeL parts) (fs.take i) ++ [hads.getD i []] ∧ leftL (wholeL parts) (fs.take (i + 1)) = (leftL (wholeL parts) (fs.take i)).filter fun p => !(fs.getD i []).contains p := fun i hi => by
        have hi' : i < fs.length := by rw [hfps.out]; exact hi
        rw [← hhads, getD_get _ _ hi']
        exact hads_take_succ fs _ i hi'
      have hleft : ∀ i, (leftL (wholeL parts) (fs.take i)).Pairwise (· < ·) ∧ (∀ x ∈ leftL (wholeL parts) (fs.take i), 0 ≤ x ∧ x < (parts : Int)) ∧ (leftL (wholeL parts) (fs.take i)).length ≤ 32 := fun i => by
        have hsub := leftL_sub (fs.take i) (wholeL parts)
        exact ⟨(wholeL_rising parts).sublist hsub, fun x hx => mem_wholeL.1 (hsub.mem hx), Nat.le_trans hsub.length_le (by simp [wholeL]; omega)⟩
      have hhin : ∀ i, ∀ p ∈ hads.getD i [], 0 ≤ p ∧ p < (parts : Int) := fun i p hp => hads_in (fs := fs) (by rw [hhads]; exact hp)
      have hold := Lib.hid (fun i (hi : i < n) => show (hadOf (fmL old (bk old.length)) (S.getD i default)).l = fs.getD i [] from by
        have hi' : i < fs.length := by rw [hfps.out]; exact hi
        rw [getD_get _ _ hi', getD_get _ _ (by omega), hfg.out i (by omega) hi'])
      replace hhl := Lib.hid hhl
      replace hts := Lib.hid hts
      replace hleft := Lib.hid hleft
      replace hhin := Lib.hid hhin
      replace hbel := Lib.hid hbel
      replace hnm := Lib.hid hnm
      replace hhads := Lib.hid hhads
      replace hDe := Lib.hid hDe
      replace hN2 := Lib.hid hN2
      replace hnames := Lib.hid hnames
      go_wp2_with fail
      go_loopw [16, 17] (fun v u wr => ∃ (Aa : Option Addr) (ca : Nat) (rows : List Rw3) (own : List Int), rows.length ≤ n ∧ u = .int .i64 rows.length ∧ v = .slice Aa rows.length ca ∧ rows.map (·.l) = hadsL (wholeL parts) (fs.take rows.length) ∧ own = keepTo bs hads (own0 parts) rows.length ∧ DeA wr D N2 AO cO own parts (leftL (wholeL parts) (fs.take rows.length)) Aa ca rows ∧ Below D w1 wr) (fun _ u _ => n - (intOf u).toNat)
      case atStart => exact ⟨none, 0, [], own0 parts, Nat.zero_le _, rfl, rfl, by simp [hadsL], rfl, hDA0, hb2⟩
      case round =>
        clear hDA0 hb2
        obtain ⟨Aa, ca, rows, own, hi, rfl, rfl, hrl, hown, hDA, hbr⟩ := hrel
        by_cases hlt : rows.length < n
        · obtain ⟨g, o, rfl, hg, hc⟩ := (hnm.out wr hbr) rows.length (by omega)
          have q0 := hc 0 _ rfl
          simp only [Nat.mul_one, Nat.add_zero] at q0
          have hfi := hold.out rows.length hlt
          rw [getD_get _ _ (by omega)] at hfi
          generalize S[rows.length] = s at *
          obtain ⟨hl1, hl2, hl3⟩ := hleft.out rows.length
          have hhd := had_any w wr A0 c0 old s parts (D + 1) _ ho.out (hbel.out wr hbr) (by omega) hol hok.out hp32 hDA.t hl1 hl2 hl3 _ hfi
          have hh1 := hhl.out rows.length hlt
          have hh2 := hts.out rows.length hlt
          rw [← hh1, ← hh2.2] at hhd
          have hlin := hhin.out rows.length
          have hkeep : keepTo bs hads (own0 parts) (rows.length + 1) = setsF own rows.length ((hads.getD rows.length []).take bs) := by rw [hown]; rfl
          have hl32 : (hads.getD rows.length []).length ≤ 32 := by rw [hh1]; exact Nat.le_trans (List.length_filter_le _ _) hl3
          have hownl : own.length = parts := by rw [hown, keepTo_len]; simp [own0]
          generalize hads.getD rows.length [] = l at *
          have hn0I : (0 : Int) ≤ (rows.length : Int) := by omega
          have hnI : (rows.length : Int) < (n : Int) := by omega
          replace hhd := Lib.hid hhd
          replace hh2 := Lib.hid hh2
          replace hh1 := Lib.hid hh1
          replace hkeep := Lib.hid hkeep
          replace hown := Lib.hid hown
          replace hlin := Lib.hid hlin
          replace hrl := Lib.hid hrl
          clear hl1 hl2 hl3 hc
          go_wp2_with fail
          refine hhd.out.mono ?_
          rintro e w4 ⟨Ax, cx, rfl, hrow4, hT4, hf4⟩
          clear hhd
          have hDA4 := hDA.had hT4 hf4
          have hbr4 : Below D w1 w4 := hf4.below hbr (by rintro b rfl; omega) (by have := hDA.sz; have := hDA.lt; omega)
          have hrow4' := ownsRow_below (ownsRow_le hrow4 hDA.sz) (Below.refl _ _)
          have hs4 := hDA4.sz
          clear hDA hf4 hT4 hrow4
          go_wp2_with (refine wpList_append_srcT rfl _ _ 56 rfl N2 37 k0 _ 1 24 Try.underlying56 hk0 hkz hk1 hk2 rfl (by omega) (.slice Aa rows.length ca) rows.length _ rfl (hDA4.a.alloc _) (some ⟨w4.heap.size, 0, none⟩) 1 1 (rwL ⟨Ax, cx, l⟩) rfl (src_new w4 (rwL ⟨Ax, cx, l⟩) 37 1 1 rfl) (by intro u hu; simp only [rwL, Rw3.v, List.mem_cons, List.not_mem_nil, or_false] at hu; subst hu; rfl) (by simp only [maxLen]; omega) (by omega) (by simp; omega) ?_; (intro A5 c5 w5 hown5 hg5))
          have hDA5 := hDA4.more (x := ⟨Ax, cx, l⟩) hrow4' hg5 hown5
          have hbr5 : Below D w1 w5 := (hbr4.alloc (by have := hDA4.lt; omega) _).grown hg5 (by simp; have := hDA4.lt; omega) (fun g e => by have := ownsRow_base hDA4.a e; have := hDA4.lt; omega)
          have hxin : (⟨Ax, cx, l⟩ : Rw3) ∈ rows ++ [⟨Ax, cx, l⟩] := by simp
          obtain ⟨rw5, hrw5⟩ : ∃ rw5, rows ++ [(⟨Ax, cx, l⟩ : Rw3)] = rw5 := ⟨_, rfl⟩
          rw [hrw5] at hDA5 hxin
          replace hrw5 := Lib.hid hrw5
          clear hDA4 hbr4 hrow4' hown5 hg5 hs4
          go_loopw [19] (fun u wi => ∃ (k : Nat) (own' : List Int), k ≤ l.length ∧ k ≤ bs ∧ u = .int .i64 k ∧ own' = setsF own rows.length (l.take k) ∧ DeA wi D N2 AO cO own' parts (leftL (wholeL parts) (fs.take (rows.length + 1))) A5 c5 rw5 ∧ Below D w1 wi) (fun u _ => l.length - (intOf u).toNat)
          case atStart => exact ⟨0, own, Nat.zero_le _, Nat.zero_le _, rfl, by simp [setsF], hDA5, hbr5⟩
          case round =>
            clear hDA5 hbr5
            obtain ⟨k, own', hkl, hkb, rfl, hown', hDA, hbr⟩ := hrel
            have hown'l : own'.length = parts := by rw [hown', setsF_len]; exact hownl
            have hk0' : (0 : Int) ≤ (k : Int) := by omega
            by_cases hk1 : k < l.length
            · by_cases hk2 : k < bs
              · have hd1 : decide ((k : Int) < (l.length : Int)) = true := by simp; omega
                have hd2 : decide ((k : Int) < (bs : Int)) = true := by simp; omega
                have hkI : (k : Int) < (l.length : Int) := by omega
                have hlat := LAt.of_own encI_len (hDA.r _ hxin) rfl
                obtain ⟨gx, ox, e, hgx, hcx⟩ := hlat k hk1
                have qx := hcx 0 _ rfl
                simp only [Nat.mul_one, Nat.add_zero] at qx
                simp only at e
                obtain ⟨hp0, hp1⟩ := hlin.out l[k] (List.getElem_mem hk1)
                have hsn : setsF own rows.length (l.take (k + 1)) = own'.set l[k].toNat (rows.length : Int) := by
                  rw [List.take_succ_eq_append_getElem hk1, setsF_snoc, ← hown']
                have hpe : l[k] = ((l[k].toNat : Nat) : Int) := by omega
                generalize l[k].toNat = pn at *
                rw [hpe] at qx
                have hpn : pn < parts := by omega
                obtain ⟨gO, hAO, hgO⟩ := hDA.o.some (by omega)
                subst hAO
                subst e
                have qD := hDA.o.box.get (j := 1) rfl
                rw [hown'l] at qD
                have qO := hDA.o.cell (j := pn) (by omega)
                have uO := hDA.o.row.frozenAt pn
                have hput := (hDA.put (p := pn) rfl (rows.length : Int)).drew
                have hgD : D ≤ gO := by omega
                have hpI : (pn : Int) < (parts : Int) := by omega
                have hp0I : (0 : Int) ≤ (pn : Int) := by omega
                generalize own'[pn] = vO at qO
                replace hsn := Lib.hid hsn
                replace hput := Lib.hid hput
                replace hown' := Lib.hid hown'
                replace hpe := Lib.hid hpe
                clear hcx hlat
                go_wp2_with fail
                go_region
                go_wp2_with fail
                exact ⟨⟨k + 1, _, by omega, by omega, by go_num, hsn.out.symm, hput.out, (bl_set'' hbr hgD _).drew⟩, by simp [intOf]; omega⟩
              · have hd1 : decide ((k : Int) < (l.length : Int)) = true := by simp; omega
                have hd2 : decide ((k : Int) < (bs : Int)) = false := by simp; omega
                have hkk : l.take k = l.take bs := by rw [show k = bs from by omega]
                have hrl5 : rw5.length = rows.length + 1 := by rw [← hrw5.out]; simp
                have hmap5 : rw5.map (·.l) = hadsL (wholeL parts) (fs.take (rows.length + 1)) := by rw [← hrw5.out, List.map_append, hrl.out, hh2.out.1]; rfl
                have hfinl : own' = keepTo bs hads (own0 parts) (rows.length + 1) := by rw [hown', hkk, hkeep.out]
                replace hkk := Lib.hid hkk
                replace hown' := Lib.hid hown'
                replace hfinl := Lib.hid hfinl
                replace hmap5 := Lib.hid hmap5
                replace hrl5 := Lib.hid hrl5
                go_wp2_with fail
                refine ⟨⟨A5, c5, rw5, own', by rw [hrl5.out]; omega, by rw [hrl5.out]; go_num, by rw [hrl5.out], by rw [hrl5.out]; exact hmap5.out, by rw [hrl5.out]; exact hfinl.out, by rw [hrl5.out]; exact hDA, hbr⟩, by simp [intOf]; omega⟩
            · have hd1 : decide ((k : Int) < (l.length : Int)) = false := by simp; omega
              have hkk : l.take k = l.take bs := by rw [List.take_of_length_le (by omega), List.take_of_length_le (by omega)]
              have hrl5 : rw5.length = rows.length + 1 := by rw [← hrw5.out]; simp
              have hmap5 : rw5.map (·.l) = hadsL (wholeL parts) (fs.take (rows.length + 1)) := by rw [← hrw5.out, List.map_append, hrl.out, hh2.out.1]; rfl
              have hfinl : own' = keepTo bs hads (own0 parts) (rows.length + 1) := by rw [hown', hkk, hkeep.out]
              replace hkk := Lib.hid hkk
              replace hown' := Lib.hid hown'
              replace hfinl := Lib.hid hfinl
              replace hmap5 := Lib.hid hmap5
              replace hrl5 := Lib.hid hrl5
              go_wp2_with fail
              refine ⟨⟨A5, c5, rw5, own', by rw [hrl5.out]; omega, by rw [hrl5.out]; go_num, by rw [hrl5.out], by rw [hrl5.out]; exact hmap5.out, by rw [hrl5.out]; exact hfinl.out, by rw [hrl5.out]; exact hDA, hbr⟩, by simp [intOf]; omega⟩
        · have hrn : rows.length = n := by omega
          rw [hrn] at hrl hown hDA ⊢
          rw [List.take_of_length_le (by rw [hfps.out]; exact Nat.le_refl _)] at hrl hDA
          rw [hhads.out] at hrl
          have hown1 : own = own1 parts n fs := by rw [hown, own1, hhads.out, hbs.out]
          replace hown := Lib.hid hown
          replace hown1 := Lib.hid hown1
          clear hlt hi
          have hgi : ∀ i (h : i < rows.length), hads.getD i [] = rows[i].l := fun i h => by
            rw [← hrl, List.getD_eq_getElem?_getD, List.getElem?_map, List.getElem?_eq_getElem h]; rfl
          have hownl : own.length = parts := by rw [hown.out, keepTo_len]; simp [own0]
          replace hgi := Lib.hid hgi
          replace hrl := Lib.hid hrl
          replace hrn := Lib.hid hrn
          go_wp2_with fail
          go_loopw [15, 20] (fun v u wi => ∃ (i : Nat) (own' : List Int), i ≤ n ∧ u = .int .i64 i ∧ v = .int .i64 ((moreTo bs rs hads own i).1 : Nat) ∧ own' = (moreTo bs rs hads own i).2 ∧ DeA wi D N2 AO cO own' parts (leftL (wholeL parts) fs) Aa ca rows ∧ Below D w1 wi) (fun _ u _ => n - (intOf u).toNat)
          case atStart => exact ⟨0, own, Nat.zero_le _, rfl, rfl, rfl, hDA, hbr⟩
          case round =>
            clear hDA hbr
            obtain ⟨i, own', hi, rfl, rfl, hown', hDA, hbr⟩ := hrel
            have hown'l : own'.length = parts := by rw [hown', moreTo_len]; exact hownl
            have hi0' : (0 : Int) ≤ (i : Int) := by omega
            by_cases hlt : i < n
            · have hir : i < rows.length := by rw [hrn.out]; exact hlt
              have hiI : (i : Int) < (n : Int) := by omega
              have hgl := hgi.out i hir
              have hlat := LAt.of_own rwL_len hDA.a rfl
              obtain ⟨ga, oa, rfl, hga, hca⟩ := hlat i hir
              have qa := hca 0 _ rfl
              simp only [Nat.mul_one, Nat.add_zero] at qa
              have hlatx := LAt.of_own encI_len (hDA.r rows[i] (List.getElem_mem _)) rfl
              have hmo : moreTo bs rs hads own (i + 1) = if bs < (hads.getD i []).length ∧ (moreTo bs rs hads own i).1 < rs then ((moreTo bs rs hads own i).1 + 1, (moreTo bs rs hads own i).2.set ((hads.getD i []).getD bs 0).toNat (i : Int)) else moreTo bs rs hads own i := rfl
              rw [← hown'] at hmo
              have hlin := hhin.out i
              rw [hgl] at hmo hlin
              generalize rows[i] = rx at *
              obtain ⟨Ax, cx, l⟩ := rx
              simp only [Rw3.v] at qa hlatx hmo hlin hgl
              obtain ⟨mm, hmm⟩ : ∃ mm, (moreTo bs rs hads own i).1 = mm := ⟨_, rfl⟩
              rw [hmm] at hmo ⊢
              have hpair : moreTo bs rs hads own i = (mm, own') := by rw [← hmm, hown']
              rw [hpair] at hmo
              replace hmm := Lib.hid hmm
              replace hpair := Lib.hid hpair
              replace hgl := Lib.hid hgl
              clear hca hlat
              by_cases hk1 : bs < l.length
              · have hd1 : decide ((bs : Int) < (l.length : Int)) = true := by simp; omega
                by_cases hk2 : mm < rs
                · have hd2 : decide ((mm : Int) < (rs : Int)) = true := by simp; omega
                  rw [if_pos ⟨hk1, hk2⟩, getD_get _ _ hk1] at hmo
                  obtain ⟨gx, ox, rfl, hgx, hcx⟩ := hlatx bs hk1
                  have qx := hcx 0 _ rfl
                  simp only [Nat.mul_one, Nat.add_zero] at qx
                  obtain ⟨hp0, hp1⟩ := hlin l[bs] (List.getElem_mem hk1)
                  have hpe : l[bs] = ((l[bs].toNat : Nat) : Int) := by omega
                  generalize l[bs].toNat = pn at *
                  rw [hpe] at qx
                  have hpn : pn < parts := by omega
                  obtain ⟨gO, hAO, hgO⟩ := hDA.o.some (by omega)
                  subst hAO
                  have qD := hDA.o.box.get (j := 1) rfl
                  rw [hown'l] at qD
                  have qO := hDA.o.cell (j := pn) (by omega)
                  have uO := hDA.o.row.frozenAt pn
                  have hput := (hDA.put (p := pn) rfl (i : Int)).drew
                  have hgD : D ≤ gO := by omega
                  have hpI : (pn : Int) < (parts : Int) := by omega
                  have hp0I : (0 : Int) ≤ (pn : Int) := by omega
                  have hbI : (bs : Int) < (l.length : Int) := by omega
                  have hb0 : (0 : Int) ≤ (bs : Int) := by omega
                  generalize own'[pn] = vO at qO
                  replace hput := Lib.hid hput
                  replace hown' := Lib.hid hown'
                  replace hpe := Lib.hid hpe
                  replace hmo := Lib.hid hmo
                  clear hcx hlatx hlin
                  go_wp2_with fail
                  go_region
                  go_wp2_with fail
                  refine ⟨⟨i + 1, _, by omega, by go_num, by rw [hmo.out]; go_num, by rw [hmo.out], hput.out, (bl_set'' hbr hgD _).drew⟩, by simp [intOf]; omega⟩
                · have hd2 : decide ((mm : Int) < (rs : Int)) = false := by simp; omega
                  rw [if_neg (fun h => hk2 h.2)] at hmo
                  replace hmo := Lib.hid hmo
                  replace hown' := Lib.hid hown'
                  clear hlatx hlin
                  go_wp2_with fail
                  refine ⟨⟨i + 1, own', by omega, by go_num, by rw [hmo.out], by rw [hmo.out], hDA, hbr⟩, by simp [intOf]; omega⟩
              · have hd1 : decide ((bs : Int) < (l.length : Int)) = false := by simp; omega
                rw [if_neg (fun h => hk1 h.1)] at hmo
                replace hmo := Lib.hid hmo
                replace hown' := Lib.hid hown'
                clear hlatx hlin
                go_wp2_with fail
                refine ⟨⟨i + 1, own', by omega, by go_num, by rw [hmo.out], by rw [hmo.out], hDA, hbr⟩, by simp [intOf]; omega⟩
            · obtain rfl : n = i := by omega
              have hown2 : own' = own2 parts n fs := by rw [hown', own2, hhads.out, hbs.out, hrs.out, hown1.out]
              replace hown' := Lib.hid hown'
              replace hown2 := Lib.hid hown2
              clear hlt hi
              go_wp2_with fail
              go_loopw [21] (fun u wi => ∃ (i : Nat) (ow : List Int), i ≤ n ∧ u = .int .i64 i ∧ ow = fillTo bs own' i ∧ DeA wi D N2 AO cO ow parts (leftL (wholeL parts) fs) Aa ca rows ∧ Below D w1 wi) (fun u _ => n - (intOf u).toNat)
              case atStart => exact ⟨0, own', Nat.zero_le _, rfl, rfl, hDA, hbr⟩
              case round =>
                clear hDA hbr
                obtain ⟨i, ow, hi, rfl, how, hDA, hbr⟩ := hrel
                have howl : ow.length = parts := by rw [how, fillTo_len]; exact hown'l
                have hi0' : (0 : Int) ≤ (i : Int) := by omega
                have hft : fillTo bs own' (i + 1) = fill (bs + 1) ow i bs := by rw [how]; rfl
                replace how := Lib.hid how
                replace hft := Lib.hid hft
                by_cases hlt : i < n
                · have hiI : (i : Int) < (n : Int) := by omega
                  go_wp2_with fail
                  go_loopg [144] (bs + 1) (fun gk _ wi => ∃ ov : List Int, fill gk ov i bs = fill (bs + 1) ow i bs ∧ bs + 1 ≤ cnt ov i + gk ∧ ov.length = parts ∧ DeA wi D N2 AO cO ov parts (leftL (wholeL parts) fs) Aa ca rows ∧ Below D w1 wi)
                  case atStart => exact ⟨ow, rfl, by omega, howl, hDA, hbr⟩
                  case round =>
                    clear hDA hbr
                    obtain ⟨ov, hfl, hck, hovl, hDA, hbr⟩ := hrel
                    have hcn := count_any hDA.o (by omega) i
                    have hgv := give_any hDA.o (by omega) i
                    have hc32 : cnt ov i ≤ 32 := Nat.le_trans (List.countP_le_length ..) (by omega)
                    by_cases hcb : cnt ov i < bs
                    · have hd : decide ((cnt ov i : Int) < (bs : Int)) = true := by simp; omega
                      obtain ⟨m, hm⟩ : ∃ m, m + 1 = gk := ⟨gk - 1, by omega⟩
                      rw [← hm, fill, if_pos hcb] at hfl
                      rcases give_cases ov i with ⟨_, hgn⟩ | ⟨o2, hgs, _, hol2, hcnt, _⟩
                      · rw [hgn] at hgv hfl
                        simp only at hfl
                        have hfin : ov = fillTo bs own' (i + 1) := by rw [hft.out, ← hfl]
                        generalize cnt ov i = cc at *
                        replace hcn := Lib.hid hcn
                        replace hgv := Lib.hid hgv
                        replace hfin := Lib.hid hfin
                        replace hfl := Lib.hid hfl
                        go_wp2_with (first | (go_at_call 38; refine hcn.out.mono ?_; rintro e w' ⟨rfl, rfl⟩) | (go_at_call 39; refine hgv.out.mono ?_; rintro e w9 ⟨rfl, ho9, hf9, hs9⟩))
                        have hDA9 := hDA.owns ho9 hf9
                        have hb9 : Below D w1 w9 := hf9.below hbr (fun b e => by have := hDA.obge e; omega) (by have := hDA.sz; have := hDA.lt; omega)
                        exact ⟨⟨i + 1, ov, by omega, by go_num, hfin.out, hDA9, hb9⟩, by simp [intOf]; omega⟩
                      · rw [hgs] at hgv hfl
                        simp only at hfl
                        have hc2 := hcnt i
                        rw [if_pos rfl] at hc2
                        generalize cnt ov i = cc at *
                        replace hcn := Lib.hid hcn
                        replace hgv := Lib.hid hgv
                        replace hfl := Lib.hid hfl
                        replace hcnt := Lib.hid hcnt
                        go_wp2_with (first | (go_at_call 38; refine hcn.out.mono ?_; rintro e w' ⟨rfl, rfl⟩) | (go_at_call 39; refine hgv.out.mono ?_; rintro e w9 ⟨rfl, ho9, hf9, hs9⟩))
                        have hDA9 := hDA.owns ho9 hf9
                        have hb9 : Below D w1 w9 := hf9.below hbr (fun b e => by have := hDA.obge e; omega) (by have := hDA.sz; have := hDA.lt; omega)
                        go_roundg (gk - 1)
                        case measure => omega
                        case rel => exact ⟨o2, by rw [show gk - 1 = m from by omega]; exact hfl.out, by omega, by omega, hDA9, hb9⟩
                    · have hd : decide ((cnt ov i : Int) < (bs : Int)) = false := by simp; omega
                      have hfin : ov = fillTo bs own' (i + 1) := by
                        rw [hft.out, ← hfl]
                        cases gk with
                        | zero => rfl
                        | succ m => rw [fill, if_neg hcb]
                      generalize cnt ov i = cc at *
                      replace hcn := Lib.hid hcn
                      replace hfin := Lib.hid hfin
                      replace hfl := Lib.hid hfl
                      clear hgv
                      go_wp2_with (go_at_call 38; refine hcn.out.mono ?_; rintro e w' ⟨rfl, rfl⟩)
                      exact ⟨⟨i + 1, ov, by omega, by go_num, hfin.out, hDA, hbr⟩, by simp [intOf]; omega⟩
                · obtain rfl : n = i := by omega
                  have hown3 : ow = own3 parts n fs := by rw [how.out, hown2.out, own3, hbs.out]
                  replace hown3 := Lib.hid hown3
                  clear hlt hi how hft
                  go_wp2_with fail
                  go_loopw [22] (fun u wi => ∃ (i : Nat) (ov : List Int), i ≤ n ∧ u = .int .i64 i ∧ ov = topTo bs ow i ∧ DeA wi D N2 AO cO ov parts (leftL (wholeL parts) fs) Aa ca rows ∧ Below D w1 wi) (fun u _ => n - (intOf u).toNat)
                  case atStart => exact ⟨0, ow, Nat.zero_le _, rfl, rfl, hDA, hbr⟩
                  case round =>
                    clear hDA hbr
                    obtain ⟨i, ov, hi, rfl, hov, hDA, hbr⟩ := hrel
                    have hovl : ov.length = parts := by rw [hov, topTo_len]; exact howl
                    have hi0' : (0 : Int) ≤ (i : Int) := by omega
                    have htt : topTo bs ow (i + 1) = if cnt ov i = bs then (give ov i).getD ov else ov := by rw [hov]; rfl
                    replace hov := Lib.hid hov
                    by_cases hlt : i < n
                    · have hiI : (i : Int) < (n : Int) := by omega
                      have hcn := count_any hDA.o (by omega) i
                      have hgv := give_any hDA.o (by omega) i
                      have hc32 : cnt ov i ≤ 32 := Nat.le_trans (List.countP_le_length ..) (by omega)
                      by_cases hcb : cnt ov i = bs
                      · have hd : ((cnt ov i : Int) == (bs : Int)) = true := by rw [beq_iff_eq]; omega
                        rw [if_pos hcb] at htt
                        replace htt := Lib.hid htt
                        generalize cnt ov i = cc at *
                        replace hcb := Lib.hid hcb
                        replace hcn := Lib.hid hcn
                        replace hgv := Lib.hid hgv
                        go_wp2_with (first | (go_at_call 38; refine hcn.out.mono ?_; rintro e w' ⟨rfl, rfl⟩) | (go_at_call 39; refine hgv.out.mono ?_; rintro e w9 ⟨rfl, ho9, hf9, hs9⟩))
                        have hDA9 := hDA.owns ho9 hf9
                        have hb9 : Below D w1 w9 := hf9.below hbr (fun b e => by have := hDA.obge e; omega) (by have := hDA.sz; have := hDA.lt; omega)
                        exact ⟨⟨i + 1, _, by omega, by go_num, htt.out.symm, hDA9, hb9⟩, by simp [intOf]; omega⟩
                      · have hd : ((cnt ov i : Int) == (bs : Int)) = false := by rw [beq_eq_false_iff_ne]; omega
                        rw [if_neg hcb] at htt
                        replace htt := Lib.hid htt
                        generalize cnt ov i = cc at *
                        replace hcb := Lib.hid hcb
                        replace hcn := Lib.hid hcn
                        clear hgv
                        go_wp2_with (go_at_call 38; refine hcn.out.mono ?_; rintro e w' ⟨rfl, rfl⟩)
                        exact ⟨⟨i + 1, ov, by omega, by go_num, htt.out.symm, hDA, hbr⟩, by simp [intOf]; omega⟩
                    · obtain rfl : n = i := by omega
                      have hown4 : ov = own4 parts n fs := by rw [hov.out, hown3.out, own4, hbs.out]
                      clear hlt hi htt
                      replace hown4 := Lib.hid hown4
                      obtain ⟨W8, hW8⟩ : ∃ W8, wr = W8 := ⟨_, rfl⟩
                      rw [hW8] at hDA hbr ⊢
                      clear hW8 wr
                      have hD8 := hDA.o.box
                      have hO8 := hDA.o.row
                      have hob := hDA.ob
                      have hsz8 := hDA.sz
                      have hlt8 := hDA.lt
                      rw [hovl] at hD8 hO8
                      have hobO : ∀ g, (Value.slice AO parts cO).ownBlock = some g → g < W8.heap.size := fun g hg => ownsRow_lt hO8 hg
                      clear hDA hob
                      go_wp2_with fail
                      go_loopw [23] (fun u wi => ∃ (AL : Option Addr) (cL : Nat) (os : List Ou), os.length ≤ n ∧ u = .int .i64 os.length ∧ Blk wi D [.slice AL os.length cL, .slice AO parts cO] ∧ wi.ownsRow (D + 1 + 1) 3 1 (.slice AO parts cO) parts (ov.flatMap encI) ∧ RhAt wi W8.heap.size AL cL os ∧ os.map Ou.m = S.take os.length ∧ (∀ j, j < os.length → (os.getD j default).r.l = ofL ov j) ∧ Below D w1 wi) (fun u _ => n - (intOf u).toNat)
                      case atStart => exact ⟨none, 0, [], Nat.zero_le _, rfl, hD8, hO8, ⟨World.ownsRow_nil _ _ _ _, by simp, Nat.le_refl _⟩, by simp, fun j h => by simp at h, hbr⟩
                      case round =>
                        clear hD8 hO8 hbr
                        obtain ⟨AL, cL, os, hi, rfl, hD8, hO8, hR, hom, hoj, hbr⟩ := hrel
                        by_cases hlt : os.length < n
                        · obtain ⟨g, o, rfl, hg, hc⟩ := (hnm.out wr hbr) os.length (by omega)
                          have qk := hc 0 _ rfl
                          simp only [Nat.mul_one, Nat.add_zero] at qk
                          have hm1 : S.take (os.length + 1) = S.take os.length ++ [S[os.length]] := List.take_succ_eq_append_getElem (by omega)
                          generalize S[os.length] = s at *
                          have hi0' : (0 : Int) ≤ (os.length : Int) := by omega
                          have hiI : (os.length : Int) < (n : Int) := by omega
                          obtain ⟨wr0, hwr0⟩ : ∃ wr0, wr = wr0 := ⟨_, rfl⟩
                          rw [hwr0] at hD8 hO8 hR hbr qk hg ⊢
                          clear hwr0 wr hc
                          have hW8 := hR.bs
                          replace hom := Lib.hid hom
                          replace hoj := Lib.hid hoj
                          replace hm1 := Lib.hid hm1
                          go_wp2_with fail
                          go_loopw [25] (fun u wi => ∃ (p : Nat) (Ax : Option Addr) (cx : Nat), p ≤ parts ∧ u = .int .i64 p ∧ Blk wi wr0.heap.size [.string s, .slice Ax (ofTo ov os.length p).length cx] ∧ wi.ownsRow (wr0.heap.size + 1) 3 1 (.slice Ax (ofTo ov os.length p).length cx) (ofTo ov os.length p).length ((ofTo ov os.length p).flatMap encI) ∧ Below wr0.heap.size wr0 wi) (fun u _ => parts - (intOf u).toNat)
                          case atStart => exact ⟨0, none, 0, Nat.zero_le _, rfl, Blk.new' _ _ rfl, World.ownsRow_nil _ _ _ _, bl_alloc (Below.refl _ _) _⟩
                          case round =>
                            obtain ⟨p, Ax, cx, hp, rfl, hX, hXr, hXb⟩ := hrel
                            have hxl := ofTo_len ov os.length p
                            by_cases hpl : p < parts
                            · have hp0 : (0 : Int) ≤ (p : Int) := by omega
                              have hpI : (p : Int) < (parts : Int) := by omega
                              have hON : OwnAt wr0 (D + 1 + 1) D (.slice AL os.length cL) AO cO ov := ⟨by rw [hovl]; exact hD8, by rw [hovl]; exact hO8, by omega, by omega⟩
                              obtain ⟨gO, hAO, hgO⟩ := hON.some (by omega)
                              subst hAO
                              have hDlt := hD8.lt
                              have hOlt := hobO gO rfl
                              have qD := (hXb.cell (p := ⟨D, 1, none⟩) hDlt).trans (hD8.get (j := 1) rfl)
                              have qO := (hXb.cell (p := ⟨gO, p, none⟩) (show gO < wr0.heap.size by omega)).trans (hON.cell (j := p) (by omega))
                              have hgd : ov.getD p (-1) = ov[p] := getD_get _ _ (by omega)
                              have hyes := ofTo_yes (own := ov) (i := os.length) (p := p)
                              have hno := ofTo_no (own := ov) (i := os.length) (p := p)
                              rw [hgd] at hyes hno
                              generalize ov[p] = vO at *
                              have qX := hX.cell
                              have hsX := hX.lt
                              generalize ofTo ov os.length p = lx at *
                              have hneX : some wr0.heap.size ≠ (Value.slice Ax lx.length cx).ownBlock := fun e => by have := ownsRow_base hXr e.symm; omega
                              by_cases hv : vO = (os.length : Int)
                              · have hcc := hyes hv
                                have hvd : (vO == (os.length : Int)) = true := by simp [hv]
                                replace hv := Lib.hid hv
                                replace hcc := Lib.hid hcc
                                clear hyes hno hON
                                go_wp2_with (refine wpList_append_srcT rfl _ _ 37 rfl (wr0.heap.size + 1) 3 j0 _ 1 8 Try.underlying37 hj0 hjz hj1 hj2 rfl (by omega) (.slice Ax lx.length cx) lx.length _ rfl (hXr.alloc _) (some ⟨wr.heap.size, 0, none⟩) 1 1 (encI (p : Int)) rfl (src_new wr (encI (p : Int)) 3 1 1 rfl) (encI_one _) (by simp only [maxLen]; omega) (by omega) (by simp; omega) ?_; (intro A2 c2 w2 hown2 hg2; have hB2 := (hX.alloc _).grown hg2 hneX; have q2 := hB2.cell; have u2 := hB2.unf; have b2 := bl_gr' hXb hXr hg2))
                                refine ⟨⟨p + 1, A2, c2, by omega, by go_num, ?_, ?_, ?_⟩, by simp [intOf]; omega⟩
                                · rw [hcc.out, List.length_append]; exact hB2.set_same 1 _
                                · rw [hcc.out, List.length_append]
                                  refine (FrX.set (S := fun b => b = wr0.heap.size) (FrX.refl _ _) _ _ (.inl rfl) _).own ?_ fun g hg e => ?_
                                  · rw [List.flatMap_append]; simpa using hown2
                                  · have := ownsRow_base hown2 hg; omega
                                · exact bl_set'' b2 (Nat.le_refl _) _
                              · have hcc := hno hv
                                have hvd : (vO == (os.length : Int)) = false := by simp [hv]
                                replace hv := Lib.hid hv
                                replace hcc := Lib.hid hcc
                                clear hyes hno hON
                                go_wp2_with fail
                                refine ⟨⟨p + 1, Ax, cx, by omega, by go_num, ?_, ?_, hXb⟩, by simp [intOf]; omega⟩
                                · rw [hcc.out]; exact hX
                                · rw [hcc.out]; exact hXr
                            · obtain rfl : parts = p := by omega
                              rw [show ofTo ov os.length parts = ofL ov os.length from by rw [← hovl]; exact ofTo_all ov os.length] at hX hXr hxl
                              go_wp2_with fail
                              refine anyBut.region rfl 10 (fun w' => w'.cell? ⟨D, 0, none⟩ = some (.slice AL os.length cL) ∧ w'.rangeAt wr0.heap.size 0 [.string s, .slice Ax (ofL ov os.length).length cx]) ?_
                              obtain ⟨Y, hY⟩ : ∃ Y, wr.drew = Y := ⟨_, rfl⟩
                              have hBY : Blk Y wr0.heap.size [.string s, .slice Ax (ofL ov os.length).length cx] := hY ▸ hX.drew
                              have hXY : Y.ownsRow (wr0.heap.size + 1) 3 1 (.slice Ax (ofL ov os.length).length cx) (ofL ov os.length).length ((ofL ov os.length).flatMap encI) := hY ▸ hXr.drew
                              have hbY : Below wr0.heap.size wr0 Y := hY ▸ hXb.drew
                              have hDY := hD8.below hbY hD8.lt
                              have hOY := ownsRow_below hO8 hbY
                              have hRY := hR.below hbY
                              have hDl := hDY.lt
                              have hXl := hBY.lt
                              have hDlt := hD8.lt
                              have hALlt : ∀ g, (Value.slice AL os.length cL).ownBlock = some g → W8.heap.size ≤ g ∧ g < wr0.heap.size := fun g e => ⟨ownsRow_base hR.row e, ownsRow_lt hR.row e⟩
                              have hS0 : Y.cell? ⟨D, 0, none⟩ = some (.slice AL os.length cL) ∧ Y.rangeAt wr0.heap.size 0 [.string s, .slice Ax (ofL ov os.length).length cx] := ⟨hDY.get rfl, hBY.range⟩
                              rw [hY]
                              clear hY
                              try simp only [List.setIfInBounds_toArray, List.set_cons_zero, List.set_cons_succ]
                              refine anyBut.takeW (i := 0) (t := 188) (v := (.pointer (some ⟨D, 0, none⟩))) (by kernel_rfl) rfl rfl (by decide +kernel) (by decide +kernel) (by decide +kernel) (fun _ _ _ h => h.elim) (.inl ⟨rfl, fun w' hS => ?_⟩) hS0 ?_
                              · go_simp
                              try simp only [List.setIfInBounds_toArray, List.set_cons_zero, List.set_cons_succ]
                              refine anyBut.takeW (i := 1) (t := 189) (v := (.pointer (some ⟨D, 0, none⟩))) (by kernel_rfl) rfl rfl (by decide +kernel) (by decide +kernel) (by decide +kernel) (fun _ _ _ h => h.elim) (.inl ⟨rfl, fun w' hS => ?_⟩) hS0 ?_
                              · go_simp
                              try simp only [List.setIfInBounds_toArray, List.set_cons_zero, List.set_cons_succ]
                              refine anyBut.takeW (i := 2) (t := 190) (v := (.pointer (some ⟨D, 0, none⟩))) (by kernel_rfl) rfl rfl (by decide +kernel) (by decide +kernel) (by decide +kernel) (fun _ _ _ h => h.elim) (.inl ⟨rfl, fun w' hS => ?_⟩) hS0 ?_
                              · go_simp
                              try simp only [List.setIfInBounds_toArray, List.set_cons_zero, List.set_cons_succ]
                              refine anyBut.takeW (i := 3) (t := 191) (v := (.pointer (some ⟨D, 0, none⟩))) (by kernel_rfl) rfl rfl (by decide +kernel) (by decide +kernel) (by decide +kernel) (fun _ _ _ h => h.elim) (.inl ⟨rfl, fun w' hS => ?_⟩) hS0 ?_
                              · go_simp
                              try simp only [List.setIfInBounds_toArray, List.set_cons_zero, List.set_cons_succ]
                              refine anyBut.takeW (i := 4) (t := 192) (v := (.slice AL os.length cL)) (by kernel_rfl) rfl rfl (by decide +kernel) (by decide +kernel) (by decide +kernel) (fun _ _ _ h => h.elim) (.inl ⟨rfl, fun w' hS => ?_⟩) hS0 ?_
                              · have z := hS.1
                                go_simp
                              try simp only [List.setIfInBounds_toArray, List.set_cons_zero, List.set_cons_succ]
                              refine anyBut.takeW (i := 5) (t := 193) (v := (.agg [.string s, .slice Ax (ofL ov os.length).length cx].toArray)) (by kernel_rfl) rfl rfl (by decide +kernel) (by decide +kernel) (by decide +kernel) (fun _ _ _ h => h.elim) (yieldsIf_load_mid rfl 49 (.tmp 24) rfl wr0.heap.size 0 rfl [.string s, .slice Ax (ofL ov os.length).length cx] _ (fun w' hS => hS.2) Try.underlying49 rfl size49) hS0 ?_
                              try simp only [List.setIfInBounds_toArray, List.set_cons_zero, List.set_cons_succ]
                              refine anyBut.one (i := 6) (by decide +kernel) rfl rfl ?_
                              refine wp_oneS (.tmp 193) rfl (.string s) (.slice Ax (ofL ov os.length).length cx) rfl 194 rfl ?_
                              have hBa := hBY.alloc (.cells #[.string s, .slice Ax (ofL ov os.length).length cx] 49)
                              have hDa := hDY.alloc (.cells #[.string s, .slice Ax (ofL ov os.length).length cx] 49)
                              refine ⟨.inr ⟨hDa.get rfl, hBa.range⟩, ?_⟩
                              try simp only [List.setIfInBounds_toArray, List.set_cons_zero, List.set_cons_succ]
                              refine anyBut.one (i := 7) (by decide +kernel) rfl rfl ?_
                              refine wp_appS (.tmp 192) (.tmp 194) rfl W8.heap.size AL os.length cL (os.flatMap ouL) rfl (hRY.row.alloc _) (some ⟨Y.heap.size, 0, none⟩) [.string s, .slice Ax (ofL ov os.length).length cx] rfl (src_new Y [.string s, .slice Ax (ofL ov os.length).length cx] 49 1 2 rfl) (by intro u hu; simp only [List.mem_cons, List.not_mem_nil, or_false] at hu; rcases hu with rfl | rfl <;> rfl) (by omega) (by simp; omega) 195 rfl ?_
                              intro A9 c9 w9 hown9 hg9
                              have hB9 := hBa.grown hg9 (fun e => by have := hALlt _ e.symm; omega)
                              have hD9 := hDa.grown hg9 (fun e => by have := hALlt _ e.symm; omega)
                              have hS9 : w9.cell? ⟨D, 0, none⟩ = some (.slice AL os.length cL) ∧ w9.rangeAt wr0.heap.size 0 [.string s, .slice Ax (ofL ov os.length).length cx] := ⟨hD9.get rfl, hB9.range⟩
                              refine ⟨.inr hS9, ?_⟩
                              try simp only [List.setIfInBounds_toArray, List.set_cons_zero, List.set_cons_succ]
                              refine anyBut.oneT (i := 8) (t := 196) (v := (.pointer (some ⟨D, 0, none⟩))) (by decide +kernel) rfl rfl (.inl ⟨rfl, fun w' hS => ?_⟩) hS9 ?_
                              · go_simp
                              try simp only [List.setIfInBounds_toArray, List.set_cons_zero, List.set_cons_succ]
                              refine anyBut.oneT (i := 9) (t := 197) (v := (.pointer (some ⟨D, 0, none⟩))) (by decide +kernel) rfl rfl (.inl ⟨rfl, fun w' hS => ?_⟩) hS9 ?_
                              · go_simp
                              try simp only [List.setIfInBounds_toArray, List.set_cons_zero, List.set_cons_succ]
                              refine anyBut.one (i := 10) (by decide +kernel) rfl rfl ?_
                              refine wp_store_one 27 (.tmp 197) (.tmp 195) rfl (b := D) (k := 0) rfl rfl rfl rfl (by kernel_rfl) ?_ ?_ ?_
                              · rw [hS9.1]; rfl
                              · exact hD9.unf _
                              refine ⟨.inl rfl, anyBut.done (by decide +kernel) ?_ _⟩
                              refine NoPanic.normal ?_
                              have hO9 := ownsRow_type (hOY.alloc (.cells #[.string s, .slice Ax (ofL ov os.length).length cx] 49)) (hRY.row.alloc _) (by decide) hg9
                              have hx9 := ownsRow_type ((ownsRow_le hXY (show W8.heap.size ≤ wr0.heap.size + 1 by omega)).alloc (.cells #[.string s, .slice Ax (ofL ov os.length).length cx] 49)) (hRY.row.alloc _) (by decide) hg9
                              have hfr : FrX (fun b => b = D) w9 (w9.setCell ⟨D, 0, none⟩ (.slice A9 (os.length + 1) c9)) := FrX.set (S := fun b => b = D) (FrX.refl _ _) _ _ (.inl rfl) _
                              have hs9 := hg9.size
                              have hsY := hbY.size
                              have hb9 : Below D w1 w9 := Below.grown (Below.alloc (hbr.trans (hbY.mono (by omega))) (by omega) _) hg9 (by simp; omega) (fun g e => by have := hALlt g e; omega)
                              go_wp2_with fail
                              refine ⟨⟨A9, c9, os ++ [⟨s, ⟨Ax, cx, ofL ov os.length⟩⟩], by simp; omega, by simp, ?_, ?_, ⟨?_, ?_, ?_⟩, ?_, ?_, ?_⟩, by simp [intOf]; omega⟩
                              · have := hD9.set_same 0 (.slice A9 (os.length + 1) c9); simpa using this
                              · exact hfr.own hO9 (fun g hg e => by have := ownsRow_base hO9 hg; omega)
                              · refine hfr.own ?_ (fun g hg e => by have := ownsRow_base hown9 (by simpa [Value.ownBlock] using hg); omega)
                                simp only [List.flatMap_append, List.length_append, List.length_cons, List.length_nil]
                                simpa [ouL, Rw3.v] using hown9
                              · intro x hx
                                rcases List.mem_append.1 hx with h | h
                                · have hp := ownsRow_type ((hRY.part x h).alloc (.cells #[.string s, .slice Ax (ofL ov os.length).length cx] 49)) (hRY.row.alloc _) (by decide) hg9
                                  exact hfr.own hp (fun g hg e => by have := ownsRow_base hp hg; omega)
                                · rw [List.mem_singleton] at h
                                  subst h
                                  have := hfr.own hx9 (fun g hg e => by have := ownsRow_base hx9 hg; omega)
                                  simpa [Rw3.v] using this
                              · simp at hs9 ⊢; omega
                              · rw [List.map_append, hom.out, List.length_append, List.length_cons, List.length_nil, hm1.out]; rfl
                              · intro j hj
                                by_cases e : j = os.length
                                · subst e
                                  rw [List.getD_eq_getElem?_getD, List.getElem?_append_right (Nat.le_refl _)]
                                  simp
                                · rw [List.getD_eq_getElem?_getD, List.getElem?_append_left (by simp at hj; omega), ← List.getD_eq_getElem?_getD]
                                  exact hoj.out j (by simp at hj; omega)
                              · exact bl_set'' hb9 (Nat.le_refl _) _
                        · have hon : os.length = n := by omega
                          rw [hon] at hD8 hom hoj ⊢
                          replace hon := Lib.hid hon
                          have qD := hD8.get (j := 0) rfl
                          go_wp2_with fail
                          go_ret2
                          refine ⟨AL, cL, os, rfl, hR.sh, by rw [hom, ← hn, List.take_length], fun j hj => ?_, hbel.out _ hbr⟩
                          rw [← hown4.out]
                          exact hoj j hj
end Go.Proofs.Ytbjjhnlifgbpmaa
