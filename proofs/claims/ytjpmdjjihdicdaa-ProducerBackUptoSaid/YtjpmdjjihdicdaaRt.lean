/- The program's right (32): may an entry be? It says what the document's says. -/
import Derived.Test.YtjpmdjjihdicdaaRg
namespace Go.Proofs.Ytjpmdjjihdicdaa
open Go.RowKit Go.Shelf
attribute [local go_sem] Oper.semAt_some

theorem badE_eq (x : Ent) : (!badE x) = (decide (0 ≤ x.p) && decide (x.p ≤ 281474976710655) && (decide (0 ≤ x.ep) && decide (x.ep ≤ 2147483647)) && (decide (0 ≤ x.nx) && decide (x.nx ≤ 2147483648)) && decide ((x.last.length : Int) ≤ 5)) := by
  unfold badE
  rw [Bool.eq_iff_iff]
  simp
  omega
theorem badD_eq (nx : Int) (d : Dn) : (!badD nx d) = ((decide (1 ≤ d.len) && decide (d.len ≤ 64)) && (decide (0 ≤ d.off) && decide (d.off ≤ 281474976710656)) && decide (0 ≤ d.seq) && (d.seq == nx - d.len)) := by
  unfold badD
  rw [Bool.eq_iff_iff]
  simp
  omega

/-- What a round makes of 'may it be' and of the next number. -/
def gst (xl : List Dn) (s : Bool × Int) (i : Nat) : Bool × Int := (s.1 && !badD s.2 (xl.getD i dn0), (xl.getD i dn0).seq)
theorem gst_all (xl : List Dn) : ∀ k, k ≤ xl.length → ∀ s : Bool × Int, ((bk k).foldl (gst xl) s).1 = (s.1 && rightD s.2 (xl.take k).reverse)
  | 0, _, s => by simp [bk, rightD]
  | k + 1, hk, s => by
    have h1 : bk (k + 1) = k :: bk k := by simp [bk, List.range_succ]
    have hg : xl.getD k dn0 = xl[k] := by rw [List.getD_eq_getElem?_getD, List.getElem?_eq_getElem (by omega)]; rfl
    rw [h1, List.foldl_cons, gst_all xl k (by omega), rightD_step (by omega)]
    simp only [gst, hg, Bool.and_assoc]

/-- What the rounds keep. -/
def GRel (w : World) (x : Ent) (A : Option Addr) (c b5 : Nat) (pre : List Nat) (W : World) : Prop :=
  ∃ (ok : Bool) (nx : Int), Hid (pre.foldl (gst x.last) (!badE x, x.nx) = (ok, nx)) ∧ okI nx ∧ (ok = true → 0 ≤ nx) ∧ Blk W w.heap.size [.int .i64 x.p, .int .i64 x.ep, .int .i64 x.nx, .slice A x.last.length c] ∧ Blk W (w.heap.size + 1) [.func (.func 51) #[] #[]] ∧
    Blk W (w.heap.size + 1 + 1) [.bool ok] ∧ Blk W b5 [.int .i64 nx] ∧ Below w.heap.size w W ∧ b5 + 2 ≤ W.heap.size
theorem GRel.step {w W W' : World} {x : Ent} {A : Option Addr} {c b5 B : Nat} {pre : List Nat} {row : Option Nat} (h : GRel w x A c b5 pre W) (h5 : w.heap.size + 1 + 1 < b5) (hB : b5 + 2 ≤ B) (hg : W.grownBy W' row)
    (hr : ∀ r, row = some r → B ≤ r ∧ ∃ o : Obj, W.heap[r]? = some o ∧ o.isCells = false) : GRel w x A c b5 pre W' := by
  have hne : ∀ b, b < B → some b ≠ row := fun b hb e => by have := (hr b e.symm).1; omega
  obtain ⟨ok, nx, h1, h2, h2', h3, h4, h5', h6, h7, h8⟩ := h
  exact ⟨ok, nx, h1, h2, h2', h3.grown hg (hne _ (by omega)), h4.grown hg (hne _ (by omega)), h5'.grown hg (hne _ (by omega)), h6.grown hg (hne _ (by omega)), h7.grown hg h7.size (fun k e => by have := (hr k e).1; omega), Nat.le_trans h8 hg.size⟩
theorem GRel.alloc {w W : World} {x : Ent} {A : Option Addr} {c b5 : Nat} {pre : List Nat} (h : GRel w x A c b5 pre W) (o : Obj) : GRel w x A c b5 pre (W.alloc o) := by
  obtain ⟨ok, nx, h1, h2, h2', h3, h4, h5', h6, h7, h8⟩ := h
  exact ⟨ok, nx, h1, h2, h2', h3.alloc _, h4.alloc _, h5'.alloc _, h6.alloc _, bl_alloc h7 _, by simp; omega⟩

set_option maxRecDepth 100000 in
set_option maxHeartbeats 2000000 in
theorem right_any (x : Ent) (A : Option Addr) (c : Nat) (w : World) (hd : DnsAt w A x.last) (hx : okI x.p ∧ okI x.ep ∧ okI x.nx) (hl : x.last.length ≤ 140737488351232) (hdf : ∀ d ∈ x.last, okI d.seq ∧ okI d.len ∧ okI d.off) :
    Calls Try.prog 32 #[.agg #[.int .i64 x.p, .int .i64 x.ep, .int .i64 x.nx, .slice A x.last.length c]] w fun e w' => e = .returned (.bool (rightE x)) ∧ Below w.heap.size w w' := by
  obtain ⟨xp, xe, xn, xl⟩ := x
  dsimp only at hx hl hdf hd ⊢
  obtain ⟨f1, f2, f3⟩ := hx
  refine (callsIn_wide (n := 8)).1 ?_
  refine callsIn_of_wp_marks Try.func32 rfl trivial ?_ rfl
  refine wpIn_wide.2 ?_
  simp only [Try.ntmps32, List.size_toArray, List.length_cons, List.length_nil, Nat.reduceAdd, Nat.reduceSub, Array.replicate_succ, Array.replicate_zero, List.push_toArray, List.append_toArray, List.nil_append, List.cons_append]
  go_upto_region 2 with fail
  have hX0 : Blk ((w.alloc (.cells #[.int .i64 xp, .int .i64 xe, .int .i64 xn, .slice A xl.length c] 56)).alloc (.cells #[.func (.func 51) #[] #[]] 105)) w.heap.size [.int .i64 xp, .int .i64 xe, .int .i64 xn, .slice A xl.length c] := (Blk.new' _ _ rfl).alloc _
  have hF0 : Blk ((w.alloc (.cells #[.int .i64 xp, .int .i64 xe, .int .i64 xn, .slice A xl.length c] 56)).alloc (.cells #[.func (.func 51) #[] #[]] 105)) (w.heap.size + 1) [.func (.func 51) #[] #[]] := Blk.new' _ _ (by simp)
  have hb0 : Below w.heap.size w ((w.alloc (.cells #[.int .i64 xp, .int .i64 xe, .int .i64 xn, .slice A xl.length c] 56)).alloc (.cells #[.func (.func 51) #[] #[]] 105)) := bl_alloc (bl_alloc (Below.refl _ _) _) _
  have hz0 : ((w.alloc (.cells #[.int .i64 xp, .int .i64 xe, .int .i64 xn, .slice A xl.length c] 56)).alloc (.cells #[.func (.func 51) #[] #[]] 105)).heap.size = w.heap.size + 1 + 1 := by simp
  generalize ((w.alloc (.cells #[.int .i64 xp, .int .i64 xe, .int .i64 xn, .slice A xl.length c] 56)).alloc (.cells #[.func (.func 51) #[] #[]] 105)) = W0 at *
  have q0 := hX0.cell
  have q1 := hF0.cell
  have HB := Lib.hid (badE_eq ⟨xp, xe, xn, xl⟩)
  go_cut [4] from 8 to 29 (fun s4 wx => s4 = .pointer (some ⟨w.heap.size + 1 + 1, 0, none⟩) ∧ Blk wx w.heap.size [.int .i64 xp, .int .i64 xe, .int .i64 xn, .slice A xl.length c] ∧ Blk wx (w.heap.size + 1) [.func (.func 51) #[] #[]] ∧ Blk wx (w.heap.size + 1 + 1) [.bool (!badE ⟨xp, xe, xn, xl⟩)] ∧ Below w.heap.size w wx)
  case first =>
    go_wp2_with (go_at_call 51; refine (in_any _ _ _ _).mono ?_; rintro e w' ⟨rfl, rfl⟩)
    all_goals
      go_meet
      refine ⟨rfl, hX0.alloc _, hF0.alloc _, blk_eq (Blk.new' _ _ hz0.symm) ?_, bl_alloc hb0 _⟩
      rw [HB.out]
      simp_all
      try (intros; omega)
  case rest =>
    obtain ⟨rfl, hX1, hF1, hK1, hb1⟩ := hcut
    clear hX0 hF0 hb0 hz0 q0 q1
    have q0 := hX1.cell
    have q1 := hF1.cell
    have q2 := hK1.cell
    have l0 := hX1.lt
    have l1 := hF1.lt
    have l2 := hK1.lt
    go_wp2_with fail
    refine (backward_any _ A xl.length c rfl _).mono ?_
    rintro e w3 ⟨rfl, rfl⟩
    have hz5 : w.heap.size + 1 + 1 < wc.heap.size := l2
    have hX3 := (hX1.alloc (.cells #[.int .i64 xn] 3)).alloc (.cells #[.slice A xl.length c] 54)
    have hF3 := (hF1.alloc (.cells #[.int .i64 xn] 3)).alloc (.cells #[.slice A xl.length c] 54)
    have hK3 := (hK1.alloc (.cells #[.int .i64 xn] 3)).alloc (.cells #[.slice A xl.length c] 54)
    have hN3 : Blk ((wc.alloc (.cells #[.int .i64 xn] 3)).alloc (.cells #[.slice A xl.length c] 54)) wc.heap.size [.int .i64 xn] := (Blk.new' _ _ rfl).alloc _
    have hS3 : Blk ((wc.alloc (.cells #[.int .i64 xn] 3)).alloc (.cells #[.slice A xl.length c] 54)) (wc.heap.size + 1) [.slice A xl.length c] := Blk.new' _ _ (by simp)
    have hb3 := bl_alloc (bl_alloc hb1 (.cells #[.int .i64 xn] 3)) (.cells #[.slice A xl.length c] 54)
    have hz3 : ((wc.alloc (.cells #[.int .i64 xn] 3)).alloc (.cells #[.slice A xl.length c] 54)).heap.size = wc.heap.size + 2 := by simp
    have hD3 := hd.lowB (n₀ := w.heap.size) hb3 (Nat.le_refl _)
    go_wp2_with fail
    generalize ((wc.alloc (.cells #[.int .i64 xn] 3)).alloc (.cells #[.slice A xl.length c] 54)) = W3 at *
    have hseq : Hid (∀ i, okI (xl.getD i dn0).seq) := Lib.hid (fun i => by
      rw [List.getD_eq_getElem?_getD]
      cases h : xl[i]? with
      | none => simp [dn0, okI]
      | some d => exact (hdf d (List.mem_of_getElem? h)).1)
    clear q0 q1 q2 l0 l1 l2 hX1 hF1 hK1 hb1 hd hdf
    refine (wpIn_wide (n := 8)).1 ?_
    refine wpIn_rangeFunc_ownH rfl (by omega) (gf := 58) (lb := #[.pointer (some ⟨wc.heap.size + 1, 0, none⟩)]) rfl trivial (enters_of Try.func58 (by kernel_rfl) rfl)
      (back_stops Fence.wide 7 trivial rfl (by omega) (wc.heap.size + 1) w.heap.size (wc.heap.size + 2) (w.heap.size + 1 + 1) wc.heap.size A c xl _ hS3 hD3 (by omega) (by omega) (by omega) hl) KB.tr (fun W l _ o' hl _ _ _ => KB.put W l o' (by omega)) (Below.refl _ _) (fun _ => rfl)
      (GRel w ⟨xp, xe, xn, xl⟩ A c wc.heap.size) (fun _ _ _ => False)
      (fun pre A B row hs hg hr => hs.step hz5 (by omega) hg hr)
      (fun _ _ _ _ _ hs _ _ => hs.elim)
      ⟨_, _, Lib.hid rfl, f3, ?neg0, hX3, hF3, hK3, hN3, hb3, by omega⟩
      (fun x a' W => ∃ Bx, wc.heap.size + 1 < Bx ∧ Blk W Bx [.int .i64 (xl.getD x dn0).seq, .int .i64 (xl.getD x dn0).len, .int .i64 (xl.getD x dn0).off] ∧ a' = { tmps := #[Value.agg #[.int .i64 xp, .int .i64 xe, .int .i64 xn, .slice A xl.length c], .pointer (some ⟨w.heap.size, 0, none⟩), .bool false, .pointer (some ⟨w.heap.size + 1, 0, none⟩), .pointer (some ⟨w.heap.size + 1 + 1, 0, none⟩), .pointer (some ⟨wc.heap.size, 0, none⟩), undef, .pointer (some ⟨Bx, 0, none⟩), u8, u9, u10, u11, u12, u13, u14, u15, u16, u17, u18, u19, u20, u21, u22, u23, u24, u25, u26, u27, u28, u29, .pointer (some ⟨w.heap.size, 2, none⟩), .int .i64 xn, .pointer (some ⟨w.heap.size, 3, none⟩), .slice A xl.length c, .func (.func 58) #[] #[.pointer (some ⟨wc.heap.size + 1, 0, none⟩)], .int .i64 (x : Nat), .agg #[.int .i64 (xl.getD x dn0).seq, .int .i64 (xl.getD x dn0).len, .int .i64 (xl.getD x dn0).off], undef, undef, undef, undef, undef, undef, undef, undef, undef, undef, undef, undef, undef, undef, undef, undef, undef, undef, undef, undef, undef, undef, undef, undef, undef, undef, undef, undef, undef, undef], defers := [] })
      (fun x a' _ A B row hs hg hr => by obtain ⟨Bx, h1, h2, h3⟩ := hs; exact ⟨Bx, h1, h2.grown hg (by rintro e; obtain ⟨_, o, ho, hc⟩ := hr _ e.symm; exact h2.ne_other ho hc rfl), h3⟩)
      ?assign0 ?body0 ?done0 ?stop0
    case neg0 => intro h; dsimp only; rw [badE_eq] at h; simp at h; omega
    case assign0 =>
      rintro l pre x W K hr hK
      simp only [dnV]
      have hsz := hr.choose_spec.choose_spec.2.2.2.2.2.2.2.2
      gi_wp2
      exact hK _ _ ((KeepsOthers.alloc _ _).from _) (KB.alloc _ _ hsz) (hr.alloc _) ⟨W.heap.size, by omega, Blk.new' _ _ rfl, rfl⟩
    case stop0 => rintro D cc pre W hD _ h; exact h.elim
    case body0 =>
      rintro l pre x a' W hl hrec ⟨ok, nx, hf, hn1, hn2, r0, r1, r2, r5, r6, r7⟩ ⟨Bx, hBx, bX, rfl⟩ hlt
      have hds := hseq.out x
      generalize hdx : xl.getD x dn0 = d at *
      replace hdx := Lib.hid hdx
      obtain ⟨dq, dl, dof⟩ := d
      dsimp only at bX hds ⊢
      have e0 := r0.cell
      have e1 := r1.cell
      have e2 := r2.cell
      have e5 := r5.cell
      have g2 := r2.unf
      have g5 := r5.unf
      have eX := bX.cell
      have h1n : (1 : Nat) ≤ 8 - 1 - 1 := by omega
      have fin : ∀ v : Bool, Hid (v = (ok && !badD nx ⟨dq, dl, dof⟩)) → (v = true → 0 ≤ dq) → GRel w ⟨xp, xe, xn, xl⟩ A c wc.heap.size (pre ++ [x]) ((W.setCell ⟨w.heap.size + 1 + 1, 0, none⟩ (.bool v)).setCell ⟨wc.heap.size, 0, none⟩ (.int .i64 dq)) := fun v hv hv0 =>
        ⟨v, dq, Lib.hid (by rw [List.foldl_append, hf.out]; simp only [List.foldl_cons, List.foldl_nil, gst, hdx.out, hv.out]), hds, hv0, (r0.set_ne (by dsimp only; omega) _).set_ne (by dsimp only; omega) _, (r1.set_ne (by dsimp only; omega) _).set_ne (by dsimp only; omega) _,
          by simpa using (r2.set_same 0 (.bool v)).set_ne (a := ⟨wc.heap.size, 0, none⟩) (by dsimp only; omega) (.int .i64 dq), by simpa using (r5.set_ne (a := ⟨w.heap.size + 1 + 1, 0, none⟩) (by dsimp only; omega) (.bool v)).set_same 0 (.int .i64 dq), bl_set (bl_set r6 (by dsimp only; omega) _) (by dsimp only; omega) _, by simpa [World.setCell] using r7⟩
      replace fin := Lib.hid fin
      cases ok
      · gi_wp2
        refine ⟨fun _ h => (by cases h), ?_⟩
        gi_wp2
        refine ⟨fun _ h => (by cases h), ?_⟩
        gi_wp2
        exact ⟨((KeepsOthers.setCell _ _ _).trans (KeepsOthers.setCell _ _ _)).from _, KB.set2 _ _ _, fin.out false (Lib.hid rfl) (by intro h; cases h)⟩
      · have hpos := hn2 rfl
        have HB := Lib.hid (badD_eq nx ⟨dq, dl, dof⟩)
        gi_wp2_with (refine ⟨trivial, ?_⟩; gi_at_call 51; refine (CallsIn.inRound l (callsIn_wide.2 (in_any _ _ _ _))).mono ?_; rintro e w' ⟨rfl, rfl⟩)
        · refine ⟨((KeepsOthers.setCell _ _ _).trans (KeepsOthers.setCell _ _ _)).from _, KB.set2 _ _ _, fin.out _ (Lib.hid ?_) (fun _ => by assumption)⟩
          have hw : wrap64 (nx - dl) = nx - dl := by unfold okI at hn1; exact IntWalk.wrap64_in _ (by omega)
          rw [Bool.true_and, HB.out, hw]
          simp_all
        · refine ⟨((KeepsOthers.setCell _ _ _).trans (KeepsOthers.setCell _ _ _)).from _, KB.set2 _ _ _, fin.out _ (Lib.hid ?_) (fun h => by cases h)⟩
          rw [Bool.true_and, HB.out]
          simp_all
          try (intros; omega)
        · refine ⟨((KeepsOthers.setCell _ _ _).trans (KeepsOthers.setCell _ _ _)).from _, KB.set2 _ _ _, fin.out _ (Lib.hid ?_) (fun h => by cases h)⟩
          rw [Bool.true_and, HB.out]
          simp_all
          try (intros; omega)
        · refine ⟨fun _ h => (by cases h), ?_⟩
          gi_wp2
          refine ⟨((KeepsOthers.setCell _ _ _).trans (KeepsOthers.setCell _ _ _)).from _, KB.set2 _ _ _, fin.out _ (Lib.hid ?_) (fun h => by cases h)⟩
          rw [Bool.true_and, HB.out]
          simp_all
          try (intros; omega)
    case done0 =>
      rintro D ys W hD rfl ⟨ok, nx, hf, hn1, hn2, r0, r1, r2, r5, r6, r7⟩ hK
      have e2 := r2.cell
      have HR := Lib.hid (show rightE ⟨xp, xe, xn, xl⟩ = ok from by
        have := gst_all xl xl.length (Nat.le_refl _) (!badE ⟨xp, xe, xn, xl⟩, xn)
        rw [hf.out, List.take_length] at this
        exact this.symm)
      go_wp2_with fail
      refine finM _ _ _ D (.bool ok) _ (fun W => by simp [results, Try.results32, go_sem]) hK ?_
      intro W' hg
      exact ⟨by rw [HR.out], bl_gr r6 hg (by omega)⟩
end Go.Proofs.Ytjpmdjjihdicdaa
