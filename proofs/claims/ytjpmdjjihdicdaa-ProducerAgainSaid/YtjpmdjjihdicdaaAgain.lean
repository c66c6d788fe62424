/- The walk of ProducerAgain. -/
import Derived.Test.YtjpmdjjihdicdaaAgainLaw
import Derived.Test.YtjpmdjjihdicdaaEnts
namespace Go.Proofs.Ytjpmdjjihdicdaa
open Go.RowKit Go.Shelf

/-- From address A on w holds the numbers l. -/
def IntsAt (w : World) (A : Option Addr) (l : List Int) : Prop :=
  l.length ≤ 17592186044416 ∧ ∀ i (h : i < l.length), ∃ b o, A = some ⟨b, o, none⟩ ∧ b < w.heap.size ∧ w.cell? ⟨b, o + i, none⟩ = some (.int .i64 l[i]) ∧ okI l[i]
theorem IntsAt.below {w w' : World} {A : Option Addr} {l : List Int} (h : IntsAt w A l) (hb : Below w.heap.size w w') : IntsAt w' A l := by
  refine ⟨h.1, fun i hi => ?_⟩
  obtain ⟨b, o, hA, hlt, hc, hk⟩ := h.2 i hi
  exact ⟨b, o, hA, Nat.lt_of_lt_of_le hlt hb.size, (hb.cell (p := ⟨b, o + i, none⟩) hlt).trans hc, hk⟩

set_option maxRecDepth 100000 in
set_option maxHeartbeats 1000000 in
theorem records_own (n : Nat) (w : World) (hn : n ≤ 1000) :
    Calls Try.prog 16 #[.int .i64 n] w fun e w' => ∃ A c, e = .returned (.slice A n c) ∧ w'.ownsRow w.heap.size 84 3 (.slice A n c) n (recCells (List.replicate n kRec)) ∧ Below w.heap.size w w' := by
  obtain ⟨i0, hi0, hz0, hz1, hz2⟩ := info_parts info84
  go_enter Try.func16, Try.ntmps16
  go_wp2
  go_loopw [3, 4] (fun v i wr => ∃ (k : Nat) (A : Option Addr) (c : Nat), k ≤ n ∧ v = .slice A k c ∧ i = .int .i64 k ∧ wr.ownsRow w.heap.size 84 3 (.slice A k c) k (recCells (List.replicate k kRec)) ∧ Below w.heap.size w wr)
    (fun _ i _ => n - (intOf i).toNat)
  case atStart => exact ⟨0, none, 0, Nat.zero_le _, rfl, rfl, World.ownsRow_nil _ _ _ _, Below.refl _ _⟩
  case round =>
    obtain ⟨k, A, c, hk, rfl, rfl, hown, hB⟩ := hrel
    by_cases hlt : k < n
    · have HS := Lib.hid (show recCells (List.replicate (k + 1) kRec) = recCells (List.replicate k kRec) ++ recV kRec from by rw [List.replicate_succ', recCells_snoc])
      go_wp2_with (at_builtin; refine wpList_append_srcT rfl _ _ 28 rfl w.heap.size 84 i0 _ 3 40 Try.underlying28 hi0 hz0 hz1 hz2 rfl (by omega) (.slice A k c) k _ rfl (hown.alloc _) (some ⟨wr.heap.size, 0, none⟩) 1 1 (recV kRec) rfl (src_new wr (recV kRec) 84 1 3 rfl) ?h1 ?h63 ?hby ?hbase ?nx; case' nx => intro A1 c1 w1 hown1 hg1)
      case h1 => intro u hu; simp [recV] at hu; rcases hu with rfl | rfl | rfl <;> rfl
      case h63 => simp only [maxLen]; omega
      case hby => omega
      case hbase => have := hB.size; simp; omega
      go_roundw
      case rel =>
        refine ⟨k + 1, A1, c1, by omega, rfl, by go_num, by rw [HS.out]; exact hown1, ?_⟩
        refine hB.trans (((Below.refl _ _).alloc hB.size _).grown hg1 (by have := hB.size; simp; omega) ?_)
        intro g hg
        exact ownsRow_base hown hg
      case measure => simp [intOf]; omega
    · obtain rfl : k = n := by omega
      go_wp2
      go_ret
      exact ⟨A, c, rfl, hown, hB⟩

theorem recs_of_own {w : World} {base n : Nat} {A : Option Addr} {c : Nat} (hn : n ≤ 1000) (hown : w.ownsRow base 84 3 (.slice A n c) n (recCells (List.replicate n kRec))) : RecsAt w A (List.replicate n kRec) := by
  obtain ⟨A2, c2, e2, htl⟩ := ownsRow_tells hown
  cases e2
  refine RecsAt.of_row (by simp; omega) (fun i hi => by simp [kRec, ByteArray.size]) (fun hn => ?_)
  obtain ⟨g, hA, hb, hlt, hcell⟩ := htl (by simpa using hn)
  exact ⟨g, hA, hlt, hcell⟩

/-- A noted batch's cells. -/
def ntL (d : Dn) (v : Value) : List Value := [.int .i64 1, .int .i64 3, .int .i64 2, .int .i64 d.seq, .bool false, v, .int .i64 d.off]
def ntCells : List Dn → List Value → List Value
  | x :: l, v :: vs => ntL x v ++ ntCells l vs
  | _, _ => []
theorem ntCells_snoc : ∀ (l : List Dn) (vs : List Value), l.length = vs.length → ∀ x v, ntCells (l ++ [x]) (vs ++ [v]) = ntCells l vs ++ ntL x v
  | [], [], _, x, v => by simp [ntCells]
  | a :: l, b :: vs, h, x, v => by simp [ntCells, ntCells_snoc l vs (by simpa using h)]
theorem ntCells_get : ∀ (l : List Dn) (vs : List Value), l.length = vs.length → ∀ K (h : K < l.length) u, vs[K]? = some u → ∀ j x, (ntL l[K] u)[j]? = some x → (ntCells l vs)[K * 7 + j]? = some x
  | a :: l, b :: vs, hl, 0, h, u, hu, j, x, hx => by
    simp at hu; subst hu
    have hj : j < 7 := by have := (List.getElem?_eq_some_iff.1 hx).1; simpa [ntL] using this
    simp only [ntCells, Nat.zero_mul, Nat.zero_add]
    rw [List.getElem?_append_left (by simp [ntL]; omega)]
    exact hx
  | a :: l, b :: vs, hl, K + 1, h, u, hu, j, x, hx => by
    have := ntCells_get l vs (by simpa using hl) K (by simpa using h) u (by simpa using hu) j x hx
    simp only [ntCells]
    rw [List.getElem?_append_right (by simp [ntL]; omega), ← this]
    congr 1
    simp [ntL]; omega

theorem info51 : (Try.prog.info? 51).map (fun i => (i.zero, i.size, i.bytes)) = some (some (.agg #[.int .i64 0, .int .i64 0, .int .i64 0, .int .i64 0, .bool false, .slice none 0 0, .int .i64 0]), 7, 72) := by kernel_rfl

theorem IM.alloc_map {α : Type} {P : Program} {K : TypeId} {w : World} {b n : Nat} {enc : α → Value} {m : List (Int × α)} (h : IM P K w b n enc m) (o : Obj) : ∃ om : Obj, (w.alloc o).heap[b]? = some om ∧ om.isCells = false := by
  obtain ⟨es, clock, hb, _⟩ := h.alloc o
  exact ⟨_, hb, rfl⟩

/-- What the rounds keep. -/
def AgRel (w W : World) (i : Nat) (v : Value) (ds : List Dn) (nx : Int) : Prop :=
  ds.length = i ∧ Chain ds nx ∧ Blk W (w.heap.size + 1) [.map (some w.heap.size)] ∧ IM Try.prog 3 W w.heap.size i stV (mOf ds nx) ∧ Below w.heap.size w W ∧
  ∃ vs : List Value, vs.length = i ∧ W.ownsRow (w.heap.size + 2) 51 7 v i (ntCells ds vs) ∧
    ∀ j (h : j < ds.length) u, vs[j]? = some u → ∃ A c, u = .slice A ds[j].len.toNat c ∧ W.ownsRow (w.heap.size + 2) 84 3 u ds[j].len.toNat (recCells (List.replicate ds[j].len.toNat kRec))

theorem sz_nat (z : Int) : ∃ n : Nat, 1 ≤ n ∧ n ≤ 8 ∧ wrap64 (1 + (wrap64 (z.tmod 8 + 8)).tmod 8) = n := by
  have h1 := Int.tmod_lt_of_pos z (show (0 : Int) < 8 by decide)
  have h2 : -8 < z.tmod 8 := Int.lt_tmod_of_pos z (by decide)
  have e1 : wrap64 (z.tmod 8 + 8) = z.tmod 8 + 8 := by unfold wrap64; omega
  rw [e1]
  generalize z.tmod 8 = y at *
  have h3 := Int.tmod_lt_of_pos (y + 8) (show (0 : Int) < 8 by decide)
  have h4 := Int.tmod_nonneg 8 (show 0 ≤ y + 8 by omega)
  generalize (y + 8).tmod 8 = x at *
  exact ⟨(1 + x).toNat, by omega, by omega, by unfold wrap64; omega⟩

theorem k_nat (k : Int) (i : Nat) (hk : -9223372036854775808 ≤ k ∧ k ≤ 9223372036854775807) (h1 : 1 ≤ i) (h2 : i ≤ 100) : ∃ K : Nat, K < i ∧ (wrap64 (k.tmod i + i)).tmod i = K := by
  have h3 := Int.tmod_lt_of_pos k (show (0 : Int) < i by omega)
  have h4 : -(i : Int) < k.tmod i := Int.lt_tmod_of_pos k (by omega)
  have e1 : wrap64 (k.tmod i + i) = k.tmod i + i := by unfold wrap64; omega
  rw [e1]
  generalize k.tmod i = y at *
  have h5 := Int.tmod_lt_of_pos (y + i) (show (0 : Int) < i by omega)
  have h6 := Int.tmod_nonneg (i : Int) (show 0 ≤ y + i by omega)
  generalize (y + (i : Int)).tmod i = x at *
  exact ⟨x.toNat, by omega, by omega⟩

/-- One entry, in slices of the call's own: its cells. -/
theorem ents_one {w : World} {base : Nat} {v : Value} {x : Ent} (h : EntsOwn w base v [x]) : ∃ g c A c', v = .slice (some ⟨g, 0, none⟩) 1 c ∧ base ≤ g ∧ g < w.heap.size ∧
    w.cell? ⟨g, 2, none⟩ = some (.int .i64 x.nx) ∧ w.cell? ⟨g, 3, none⟩ = some (.slice A x.last.length c') := by
  obtain ⟨vs, hl, hrow, hin⟩ := h
  obtain ⟨u, rfl⟩ : ∃ u, vs = [u] := by
    match vs, hl with
    | [u], _ => exact ⟨u, rfl⟩
  obtain ⟨A, c, rfl, h1⟩ := ownsRow_tells hrow
  obtain ⟨g, rfl, hb, hlt, hc⟩ := h1 (by simp)
  obtain ⟨A', c', e, _⟩ := ownsRow_tells (hin 0 (by simp) u rfl)
  simp only [List.getElem_cons_zero] at e
  subst e
  exact ⟨g, c, A', c', rfl, hb, hlt, hc 2 _ rfl, hc 3 _ rfl⟩

set_option maxRecDepth 100000 in
set_option maxHeartbeats 2000000 in
theorem again_any (A : Option Addr) (c : Nat) (l : List Int) (k : Int) (w : World) (hl : IntsAt w A l) (hk : okI k) :
    Calls Try.prog 5 #[.slice A l.length c, .int .i64 k] w fun e w' => e = .returned (.bool true) ∧ Below w.heap.size w w' := by
  obtain ⟨hT, hM⟩ := table_new w
  have hll := hl.1
  obtain ⟨i0, hi0, hz0, hz1, hz2⟩ := info_parts info51
  go_enter Try.func5, Try.ntmps5
  go_wp2_with (go_at_call 9; refine (new_any _).mono ?_; rintro e w' ⟨rfl, rfl⟩)
  have hb0 : Below w.heap.size w ((w.alloc (.map #[] 0)).alloc (.cells #[.map (some w.heap.size)] 65)) := bl_alloc (bl_alloc (Below.refl _ _) _) _
  refine (knows_any _).mono ?_
  rintro e w1 ⟨rfl, hb1⟩
  replace hT := hT.below hb1 hT.lt
  replace hM := hM.below hb1 hM.lt
  replace hb0 := bl_tr hb0 hb1
  have hzw : w.heap.size + 1 < w1.heap.size := hT.lt
  clear hb1
  go_wp2_with fail
  go_loopw [6, 7, 8] (fun v s u wr => ∃ (i : Nat) (ds : List Dn) (nx : Int), i ≤ l.length ∧ i ≤ 100 ∧ u = .int .i64 i ∧ s = .int .i64 nx ∧ AgRel w wr i v ds nx)
    (fun _ _ u _ => l.length - (intOf u).toNat)
  case atStart => exact ⟨0, [], 0, Nat.zero_le _, by omega, rfl, rfl, rfl, Chain.nil, hT, hM, hb0, [], rfl, World.ownsRow_nil _ _ _ _, fun j h => by simp at h⟩
  case round =>
    obtain ⟨i, ds, nx, hi, hi2, rfl, rfl, hdl, HC, hTr, hMr, hBr, vs, hvl, hrow, hvs⟩ := hrel
    replace HC := Lib.hid HC
    replace hvs := Lib.hid hvs
    clear hT hM hb0
    by_cases hlt : i < l.length ∧ i < 100
    · obtain ⟨hlt, hlt2⟩ := hlt
      obtain ⟨b, o, rfl, hbl, hcl, hok⟩ := (hl.below hBr).2 i hlt
      generalize hz : l[i] = z at hcl hok
      clear hz
      unfold okI at hok
      go_wp2_with fail
      have hzr : w.heap.size + 2 ≤ wr.heap.size := hTr.lt
      obtain ⟨n, hn1, hn8, hn⟩ := sz_nat z
      simp only [hn]
      clear hn hcl
      refine (records_own n _ (by omega)).mono ?_
      rintro e w2 ⟨A2, c2, rfl, hrw, hb2⟩
      replace hTr := hTr.below hb2 hTr.lt
      replace hMr := hMr.below hb2 hMr.lt
      replace hrow := ownsRow_below hrow hb2
      have hvs2 := Lib.hid (fun j (h : j < ds.length) u (hu : vs[j]? = some u) => (hvs.out j h u hu).imp fun A h => h.imp fun c h => And.intro h.1 (ownsRow_below h.2 hb2))
      replace hrw := ownsRow_le hrw hzr
      replace hBr := bl_tr hBr hb2
      have hR := recs_of_own (by omega) hrw
      clear hb2 hbl hvs
      have hnx0 := HC.out.nx0
      have hnx8 : nx ≤ 800 := by have := HC.out.nx8; omega
      go_wp2_with fail
      have hBx : Blk (w2.alloc (.cells #[.int .i64 1, .int .i64 3, .int .i64 2, .int .i64 nx, .bool false, .slice A2 n c2] 30)) w2.heap.size [.int .i64 1, .int .i64 3, .int .i64 2, .int .i64 nx, .bool false, .slice A2 n c2] := Blk.new' _ _ rfl
      have HN := note_new HC.out (by omega) hn1 hn8
      have hdl2 : ds.length ≤ 100 := by omega
      have hnote := note_any (w.heap.size + 1) w.heap.size i (mOf ds nx) 1 3 2 nx false A2 c2 (List.replicate n kRec) (1000 + nx) (w2.alloc (.cells #[.int .i64 1, .int .i64 3, .int .i64 2, .int .i64 nx, .bool false, .slice A2 n c2] 30)) (hTr.alloc _) (hMr.alloc _) (hR.below (bl_alloc (Below.refl _ _) _)) (by omega) (by simp only [maxLen]; omega) (fun st h => by rw [lookI_mOf] at h; split at h <;> cases h; dsimp only; omega)
      simp only [List.length_replicate] at hnote
      refine hnote.mono ?_
      clear hnote
      rw [HN]
      rintro e w3 ⟨rfl, hM3, hg3⟩
      clear HN
      obtain ⟨om, hom1, hom2⟩ := hMr.alloc_map (.cells #[.int .i64 1, .int .i64 3, .int .i64 2, .int .i64 nx, .bool false, .slice A2 n c2] 30)
      have hro := fun r (e : some w.heap.size = some r) => show ∃ o : Obj, (w2.alloc (.cells #[.int .i64 1, .int .i64 3, .int .i64 2, .int .i64 nx, .bool false, .slice A2 n c2] 30)).heap[r]? = some o ∧ o.isCells = false from by cases e; exact ⟨om, hom1, hom2⟩
      have hB3 := hBx.grown hg3 (by have := hTr.lt; simp; omega)
      have hT3 := (hTr.alloc _).grown hg3 (by simp)
      have hrow3 := ownsRow_other (hrow.alloc _) hg3 hro
      have hrw3 := ownsRow_other (hrw.alloc _) hg3 hro
      have hvs3 := Lib.hid (fun j (h : j < ds.length) u (hu : vs[j]? = some u) => (hvs2.out j h u hu).imp fun A h => h.imp fun c h => And.intro h.1 (ownsRow_other (h.2.alloc _) hg3 hro))
      replace hBr := bl_gr (bl_alloc hBr _) hg3 (Nat.le_refl _)
      have hl3 := hB3.lt
      clear hTr hMr hBx hrow hrw hvs2 hg3 hR om hom1 hom2 hro
      have q3 := hB3.cell
      obtain ⟨A6, c6, e6, _⟩ := ownsRow_tells hrow3
      subst e6
      go_wp2_with (first | (go_at_call 13; refine (num_any _ _).mono ?_; rintro e w' ⟨rfl, rfl⟩) | (at_builtin; refine wpList_append_srcT rfl _ _ 48 rfl (w.heap.size + 2) 51 i0 _ 7 72 Try.underlying48 hi0 hz0 hz1 hz2 rfl (by omega) (.slice A6 i c6) i _ rfl (hrow3.alloc _) (some ⟨w3.heap.size, 0, none⟩) 1 1 (ntL ⟨nx, n, 1000 + nx⟩ (.slice A2 n c2)) rfl (src_new w3 (ntL ⟨nx, n, 1000 + nx⟩ (.slice A2 n c2)) 51 1 7 rfl) ?hone ?h63 ?hby ?hbase ?nxt; case' nxt => intro A7 c7 w4 hrow4 hg4))
      case hone => intro u hu; simp [ntL] at hu; rcases hu with rfl | rfl | rfl | rfl | rfl | rfl | rfl <;> rfl
      case h63 => simp only [maxLen]; omega
      case hby => omega
      case hbase => have := hT3.lt; simp; omega
      go_roundw
      case rel =>
        refine ⟨i + 1, _, _, by omega, by omega, by go_num, by go_num, ?_, HC.out.snoc hn1 hn8, ?_, ?_, ?_, vs ++ [.slice A2 n c2], by simp [hvl], ?_, ?_⟩
        · simp [hdl]
        · exact (hT3.alloc _).grown hg4 (by intro e; have := ownsRow_base hrow3 e.symm; omega)
        · exact (hM3.alloc _).grown hg4 (by intro e; have := ownsRow_base hrow3 e.symm; omega)
        · exact (bl_alloc hBr _).grown hg4 (by have := hT3.lt; simp; omega) (fun g e => by have := ownsRow_base hrow3 e; omega)
        · rw [ntCells_snoc _ _ (by omega)]; exact hrow4
        · intro j hj u hu
          by_cases hjk : j < i
          · rw [List.getElem?_append_left (by omega)] at hu
            simp only [List.getElem_append_left (show j < ds.length by omega)]
            obtain ⟨a, b, h1, h2⟩ := hvs3.out j (by omega) u hu
            exact ⟨a, b, h1, ownsRow_type (h2.alloc _) (hrow3.alloc _) (by decide) hg4⟩
          · obtain rfl : j = i := by simp at hj; omega
            rw [List.getElem?_append_right (by omega)] at hu
            simp [hvl] at hu
            subst hu
            simp only [List.getElem_append_right (show ds.length ≤ j by omega), hdl, Nat.sub_self, List.getElem_cons_zero, Int.toNat_natCast]
            exact ⟨A2, c2, rfl, ownsRow_type (hrw3.alloc _) (hrow3.alloc _) (by decide) hg4⟩
      case measure => simp [intOf]; omega
    · obtain ⟨A6, c6, e6, _⟩ := ownsRow_tells hrow
      subst e6
      unfold okI at hk
      have hzr : w.heap.size + 2 ≤ wr.heap.size := hTr.lt
      have hz : i = 0 ∨ 1 ≤ i := by omega
      rcases hz with rfl | hz
      · have hle : l.length = 0 := by omega
        go_wp2
        go_ret
        exact ⟨rfl, hBr⟩
      · have hcase : i < l.length ∧ i = 100 ∨ i = l.length := by omega
        have hi0 : ((i : Int) == 0) = false := by rw [beq_eq_false_iff_ne]; omega
        obtain ⟨K, hK, hKe⟩ := k_nat k i hk hz hi2
        have hmm : mOf ds nx = [(3, ⟨2, nx, ds⟩)] := by unfold mOf; rw [if_neg (by omega)]
        replace hmm := Lib.hid hmm
        have hKd : K < ds.length := by omega
        obtain ⟨u, hu⟩ : ∃ u, vs[K]? = some u := ⟨vs[K], by simp [show K < vs.length by omega]⟩
        obtain ⟨Ak, ck, rfl, hrk⟩ := hvs.out K hKd u hu
        obtain ⟨d1, d2, d3, d4, d5⟩ := HC.out.each K hKd
        obtain ⟨n, hn⟩ : ∃ n : Nat, ds[K].len = n := ⟨ds[K].len.toNat, by omega⟩
        have HD := Lib.hid (dec_old HC.out (by omega) K hKd n hn)
        have HN := Lib.hid (note_old HC.out (by omega) K hKd n hn)
        have hnx0 := HC.out.nx0
        obtain ⟨A7, c7, e7, htl⟩ := ownsRow_tells hrow
        cases e7
        obtain ⟨g6, rfl, hg6, hgl6, hcell⟩ := htl (by omega)
        have hcK : ∀ j x, (ntL ds[K] (.slice Ak ds[K].len.toNat ck))[j]? = some x → wr.cell? ⟨g6, K * 7 + j, none⟩ = some x := fun j x hx => hcell _ _ (ntCells_get ds vs (by omega) K hKd _ hu j x hx)
        have hn' : ds[K].len.toNat = n := by omega
        rw [hn'] at hrk hcK
        generalize ds[K] = dk at d3 HD HN hcK hrk hn hn' d1 d2 d4 d5
        obtain ⟨s, ln, of⟩ := dk
        dsimp only at d1 d2 d3 d4 d5 HD HN hcK hn hn'
        subst hn
        have k0 : wr.cell? ⟨g6, K * 7, none⟩ = some (.int .i64 1) := hcK 0 _ rfl
        have k1 := hcK 1 _ rfl
        have k2 := hcK 2 _ rfl
        have k3 := hcK 3 _ rfl
        have k4 := hcK 4 _ rfl
        have k5 := hcK 5 _ rfl
        have k6 := hcK 6 _ rfl
        have hn8 : n ≤ 8 := by omega
        have hs8 : s ≤ 800 := by have := HC.out.nx8; omega
        clear hcK hcell htl hu hvs hvl hrow d1 d2 d3 d5 hn'
        rcases hcase with ⟨hcase, hc2⟩ | hcase
        all_goals
          have hnl : Hid (¬ (i < l.length ∧ i < 100)) := hlt
          clear hlt
          (first | subst hc2 | subst hcase)
          go_wp2_with fail
          (try simp only [show ((100 : Nat) : Int) = 100 from rfl] at hKe)
          (try simp only [hKe])
          clear hKe
          refine (entries_any (w.heap.size + 1) w.heap.size _ (mOf ds nx) _ hTr hMr (by omega) ?_ ?_).mono ?_
          · rw [hmm.out]; intro x hx; simp at hx; subst hx; simp [okI]
          · rw [hmm.out]; intro x hx; simp at hx; subst hx; dsimp only; omega
          rintro e w2 ⟨v2, rfl, hE2, hb2⟩
          rw [hmm.out] at hE2
          obtain ⟨ga, ca, Aa, ca', rfl, hga1, hga2, ea2, ea3⟩ := ents_one hE2
          dsimp only [entOf] at ea2 ea3
          replace hTr := hTr.below hb2 hTr.lt
          replace hMr := hMr.below hb2 hMr.lt
          replace hrk := ownsRow_below hrk hb2
          replace hBr := bl_tr hBr hb2
          have hcc : ∀ j, w2.cell? ⟨g6, j, none⟩ = wr.cell? ⟨g6, j, none⟩ := fun j => hb2.cell (p := ⟨g6, j, none⟩) hgl6
          rw [← hcc] at k0 k1 k2 k3 k4 k5 k6
          replace hgl6 : g6 < w2.heap.size := Nat.lt_of_lt_of_le hgl6 hb2.size
          clear hcc hb2 hE2
          go_wp2_with fail
          have hR := recs_of_own (by omega) hrk
          have hdec := decide_any (w.heap.size + 1) w.heap.size _ (mOf ds nx) 1 3 2 s false Ak ck (List.replicate n kRec) w2 hTr hMr hR (by omega) (fun st h => by rw [lookI_mOf] at h; split at h <;> cases h; dsimp only; omega)
          simp only [List.length_replicate] at hdec
          refine hdec.mono ?_
          clear hdec
          rw [HD.out]
          have hw : Hid (ds.length ≤ K + 5) ∨ Hid (¬ ds.length ≤ K + 5) := (Decidable.em _).imp Lib.hid Lib.hid
          rcases hw with hw | hw
          all_goals
            have hw' := hw.out
            simp only [hw', if_true, if_false]
            rintro e w3 ⟨rfl, hb3⟩
            replace hTr := hTr.below hb3 hTr.lt
            replace hMr := hMr.below hb3 hMr.lt
            replace hrk := ownsRow_below hrk hb3
            replace hBr := bl_tr hBr hb3
            have hcc : ∀ b j, b < w2.heap.size → w3.cell? ⟨b, j, none⟩ = w2.cell? ⟨b, j, none⟩ := fun b j h => hb3.cell (p := ⟨b, j, none⟩) h
            rw [← hcc _ _ hgl6] at k0 k1 k2 k3 k4 k5 k6
            rw [← hcc _ _ hga2] at ea2 ea3
            replace hgl6 : g6 < w3.heap.size := Nat.lt_of_lt_of_le hgl6 hb3.size
            replace hga2 : ga < w3.heap.size := Nat.lt_of_lt_of_le hga2 hb3.size
            clear hcc hb3 hw' hR
            go_wp2_with fail
            have hR := recs_of_own (by omega) hrk
            have hnote := note_any (w.heap.size + 1) w.heap.size _ (mOf ds nx) 1 3 2 s false Ak ck (List.replicate n kRec) 5 w3 hTr hMr hR (by omega) (by simp only [maxLen]; omega) (fun st h => by rw [lookI_mOf] at h; split at h <;> cases h; have := HC.out.nx8; dsimp only; omega)
            simp only [List.length_replicate] at hnote
            refine hnote.mono ?_
            clear hnote
            rw [HN.out]
            have hw' := hw.out
            simp only [hw', if_true, if_false]
            rintro e w4 ⟨rfl, hM4, hg4⟩
            replace hTr := hTr.grown hg4 (by simp)
            replace hBr := bl_gr hBr hg4 (Nat.le_refl _)
            have hcc : ∀ b j, b < w3.heap.size → some b ≠ some w.heap.size → w4.cell? ⟨b, j, none⟩ = w3.cell? ⟨b, j, none⟩ := fun b j h hne => World.cell?_of_block (w := w3) (a := ⟨b, j, none⟩) (hg4.block b h hne)
            rw [← hcc _ _ hgl6 (by simp; omega)] at k6
            rw [← hcc _ _ hga2 (by simp; omega)] at ea2 ea3
            replace hgl6 : g6 < w4.heap.size := Nat.lt_of_lt_of_le hgl6 hg4.size
            replace hga2 : ga < w4.heap.size := Nat.lt_of_lt_of_le hga2 hg4.size
            clear hcc hw' hR hrk hMr hg4 k0 k1 k2 k3 k4 k5
            go_wp2_with fail
            refine (entries_any (w.heap.size + 1) w.heap.size _ (mOf ds nx) _ hTr hM4 (by omega) ?_ ?_).mono ?_
            · rw [hmm.out]; intro x hx; simp at hx; subst hx; simp [okI]
            · rw [hmm.out]; intro x hx; simp at hx; subst hx; dsimp only; omega
            rintro e w5 ⟨v5, rfl, hE5, hb5⟩
            rw [hmm.out] at hE5
            obtain ⟨gb, cb, Ab, cb', rfl, hgb1, hgb2, eb2, eb3⟩ := ents_one hE5
            dsimp only [entOf] at eb2 eb3
            replace hBr := bl_tr hBr hb5
            have hcc : ∀ b j, b < w4.heap.size → w5.cell? ⟨b, j, none⟩ = w4.cell? ⟨b, j, none⟩ := fun b j h => hb5.cell (p := ⟨b, j, none⟩) h
            rw [← hcc _ _ hgl6] at k6
            rw [← hcc _ _ hga2] at ea2 ea3
            clear hcc hb5 hE5 hM4 hTr
            go_wp2_with fail
            have hwi := hw.out
            rw [hdl] at hwi
            go_quiet (fail)
            go_wp2_with (go_at_call 13; refine (num_any _ _).mono ?_; rintro e w' ⟨rfl, rfl⟩)
            go_ret
            exact ⟨rfl, bl_drewN hBr _⟩
end Go.Proofs.Ytjpmdjjihdicdaa
