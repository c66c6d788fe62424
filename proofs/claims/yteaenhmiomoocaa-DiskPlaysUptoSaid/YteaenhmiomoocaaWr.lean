/- disk: Write. -/
import Derived.Test.YteaenhmiomoocaaLow
import Derived.Test.YteaenhmiomoocaaLast
import Derived.Test.YteaenhmiomoocaaLk
import Derived.Great.BuildSlice
namespace Go.Proofs.Yteaenhmiomoocaa
open Go.RowKit Go.Shelf Go.Maps
attribute [local go_sem] Oper.semAt_some

theorem size58 : (Try.prog.info? 58).map (·.size) = some 256 := by kernel_rfl
theorem info58 : ∃ i : TypeInfo, Try.prog.info? 58 = some i ∧ i.size = 256 ∧ i.bytes = 256 ∧ ∃ z, i.zero = some z ∧ z.cells.size = 256 := by
  have h : (Try.prog.info? 58).map (fun i => (i.size, i.bytes, i.zero.map (·.cells.size))) = some (256, 256, some 256) := by kernel_rfl
  obtain ⟨i, hi, e⟩ := Option.map_eq_some_iff.1 h
  simp only [Prod.mk.injEq] at e
  obtain ⟨z, hz, e3⟩ := Option.map_eq_some_iff.1 e.2.2
  exact ⟨i, hi, e.1, e.2.1, z, hz, e3⟩
theorem zero51 (w : World) : (zeroValue 51).run Try.prog w = .ok (.slice none 0 0) w := by
  exact Try.zeroValue51 w

section
variable {P : Program} {w : World} {o : Oper} {a : Act} {K : Act → World → Prop} {Q : Exit → Act → World → Prop}
theorem wp_append_own_at (s x : Operand) (t : TypeId) (ho : o.op = .call { callee := .builtin .append, args := #[s, x], argTypes := #[t, t] })
    (base : Nat) (e : TypeId) (i : TypeInfo) (z : Value) (size bytes : Nat) (ht : P.underlying t = some (.slice e)) (hi : P.info? e = some i) (hz : i.zero = some z)
    (hsize : i.size = size) (hby : i.bytes = bytes) (hzs : z.cells.size = size) (hsz : 0 < size) (v : Value) (n : Nat) (xs : List Value) (hs : a.eval s = v) (hown : w.ownsRow base e size v n xs)
    (ad : Addr) (m c : Nat) (news : List Value) (hx : a.eval x = .slice (some ad) m c) (hl : news.length = m * size) (hnews : ∀ j u, news[j]? = some u → w.cell? (ad.add j) = some u) (h1 : ∀ u ∈ news, u.oneCell' = true)
    (h63 : n + m ≤ maxLen) (hbytes : (n + m) * bytes ≤ 140737488355328) (hbase : base ≤ w.heap.size) (dt : Nat) (hd : o.dst = some dt)
    (h : ∀ v' w', w'.ownsRow base e size v' (n + m) (xs ++ news) → w.grownBy w' v.ownBlock → (v' = .slice none 0 0 ↔ v = .slice none 0 0 ∧ m = 0) → (v'.ownBlock = v.ownBlock ∨ v'.ownBlock = some w.heap.size) → K { a with tmps := a.tmps.setIfInBounds dt v' } w') :
    o.wp P a w K Q := by
  replace h : ∀ v' w', w'.ownsRow base e size v' (n + m) (xs ++ news) → w.grownBy w' v.ownBlock → (v' = .slice none 0 0 ↔ v = .slice none 0 0 ∧ m = 0) → (v'.ownBlock = v.ownBlock ∨ v'.ownBlock = some w.heap.size) → K (a.put o.dst v') w' := by rw [hd]; exact h
  obtain ⟨v', w', hr, h2, h3, h4, h5⟩ := run_append_own_at (P := P) w base t o.type e i z size bytes ht hi hz hsize hby hzs hsz v n xs hown ad m c news hl hnews h1 h63 hbytes hbase
  unfold Oper.wp execOp
  simp only [ho, resolve, invoke, builtin, Sem.run_bind, Sem.run_pure, Result.andThen_ok, List.map_toArray, List.map_cons, List.map_nil, hs, hx, hr]
  exact h v' w' h2 h3 h4 h5
theorem wp_buildSliceT (t e : TypeId) (len : Nat) (parts : Array (Nat × Operand)) (ho : o.op = .buildSlice t len parts) (cells : Array Value) (ie : TypeInfo) (z : Value)
    (hu : P.underlying t = some (.slice e)) (hie : P.info? e = some ie) (hz : ie.zero = some z) (hsmall : ¬ len * ie.size > 2 ^ 24) (hpos : ¬ len * ie.size = 0)
    (hf : Instr.fill (fun i => some (i * ie.size, ie.size)) ((Array.range (len * ie.size)).map (z.cells[· % z.cells.size]!)) (parts.map fun (i, x) => (i, a.eval x)).toList = some cells) (dt : Nat) (hd : o.dst = some dt)
    (h : K { a with tmps := a.tmps.setIfInBounds dt (.slice (some ⟨w.heap.size, 0, none⟩) len len) } (w.alloc (.cells cells e))) : o.wp P a w K Q :=
  wp_buildSlice t e len parts ho cells ie z hu hie hz hsmall hpos hf (by rw [hd]; exact h)
theorem wp_mapUpdate_im {α : Type} {enc : α → Value} {T t e : TypeId} {m : List (Int × α)} (x y v : Operand) (hop : o.op = Op.mapUpdate t x y v) (hK : P.underlying T = some (.int .i64)) (ht : P.underlying t = some (.map T e))
    (b n : Nat) (hx : a.eval x = .map (some b)) (h : IM P T w b n enc m) (hn : n < maxLen) (k : Int) (hy : a.eval y = .int .i64 k) (hk : -9223372036854775808 ≤ k ∧ k ≤ 9223372036854775807) (u : α) (hv : a.eval v = enc u)
    (hK' : ∀ w', IM P T w' b (n + 1) enc (putI m k u) → w.grownBy w' (some b) → K a w') (hd : o.dst = none) : o.wp P a w K Q := by
  replace hK' : ∀ w', IM P T w' b (n + 1) enc (putI m k u) → w.grownBy w' (some b) → K (a.put o.dst undef) w' := by rw [hd]; exact hK'
  obtain ⟨w', hrun, r1, r2⟩ := h.store hK ht hn hk u
  unfold Oper.wp
  simp [execOp, hop, hx, hy, hv, hrun, Result.andThen]
  exact hK' w' r1 r2.grown
end

/-- What holds while the new version is made: only the row's own spare cells may turn. -/
structure WrS (W w' : World) (h nb : Nat) (us : List (Int × Value)) (i : Int) (t : Tx) (bD bI bB gb ob c : Nat) : Prop where
  gr : W.grownBy w' ((lookI us i).getD (.slice none 0 0)).ownBlock
  cD : w'.cell? ⟨bD, 0, none⟩ = some (.pointer (some ⟨h + 3, 0, none⟩))
  cI : w'.cell? ⟨bI, 0, none⟩ = some (.int .i64 i)
  cB : w'.cell? ⟨bB, 0, none⟩ = some (.slice (some ⟨gb, ob, none⟩) 256 c)
  cV : w'.cell? ⟨h + 3, 2, none⟩ = some (.map (some (h + 2)))
  ver : IM Try.prog 3 w' (h + 2) nb (fun v => v) us
  mid : w'.rangeAt gb ob (tC t)

set_option maxRecDepth 100000 in
set_option maxHeartbeats 2000000 in
theorem write1_any (h nb : Nat) (us : List (Int × Value)) (d : Dsk) (i : Int) (t : Tx) (bD bI bB gb ob c : Nat) (w : World) (D : DkAt w h nb us d) (hi : 0 ≤ i ∧ i ≤ 4096) (ht : t.length = 256) (hnb : nb < maxLen)
    (hN : ∀ l, lookI d.vs i = some l → l.length < 549755813888)
    (cD : w.cell? ⟨bD, 0, none⟩ = some (.pointer (some ⟨h + 3, 0, none⟩))) (cI : w.cell? ⟨bI, 0, none⟩ = some (.int .i64 i)) (cB : w.cell? ⟨bB, 0, none⟩ = some (.slice (some ⟨gb, ob, none⟩) 256 c)) (ct : w.rangeAt gb ob (tC t))
    (hlt : gb < w.heap.size) (hne : ∀ v g, lookI us i = some v → v.ownBlock = some g → g ≠ bD ∧ g ≠ bI ∧ g ≠ bB ∧ g ≠ gb) :
    Calls Try.prog 26 #[.pointer (some ⟨bD, 0, none⟩), .pointer (some ⟨bI, 0, none⟩), .pointer (some ⟨bB, 0, none⟩)] w fun e w' => e = .returned (.tuple #[]) ∧ ∃ us', DkAt w' h (nb + 1) us' (writeS d i t) ∧ FrD w w' h us us' := by
  obtain ⟨i0, hi0, hz1, hz2, z0, hz0, hzs⟩ := info58
  have hrow : w.ownsRow (h + 4) 58 256 ((lookI us i).getD (.slice none 0 0)) ((lookI d.vs i).getD []).length (((lookI d.vs i).getD []).flatMap tC) := by
    cases hu : lookI us i with
    | none => rw [D.noneK.1 hu]; exact World.ownsRow_nil _ _ _ _
    | some v => obtain ⟨l, A, c, h1, h2, h3⟩ := D.rows i v hu; rw [h1]; exact h3
  have hlen : ((lookI d.vs i).getD []).length < 549755813888 := by
    cases hv : lookI d.vs i with
    | none => simp
    | some l => exact hN l hv
  have hrb : ∀ g, ((lookI us i).getD (.slice none 0 0)).ownBlock = some g → ∃ v, lookI us i = some v ∧ v.ownBlock = some g := fun g hg => by
    cases hu : lookI us i with
    | none => rw [hu] at hg; cases hg
    | some v => exact ⟨v, rfl, by rw [hu] at hg; exact hg⟩
  have hne' : ∀ g, ((lookI us i).getD (.slice none 0 0)).ownBlock = some g → g ≠ bD ∧ g ≠ bI ∧ g ≠ bB ∧ g ≠ gb ∧ h + 4 ≤ g := fun g hg => by
    obtain ⟨v, hv, hg'⟩ := hrb g hg
    obtain ⟨h1, h2, h3, h4⟩ := hne v g hv hg'
    exact ⟨h1, h2, h3, h4, (D.base hv hg').1⟩
  have bl : ∀ b v, w.cell? ⟨b, 0, none⟩ = some v → b < w.heap.size := fun b v e => by
    rcases Nat.lt_or_ge b w.heap.size with hb | hb
    · exact hb
    · simp [World.cell?, Array.getElem?_eq_none hb] at e
  have hS1 : ∀ w', w.grownBy w' ((lookI us i).getD (.slice none 0 0)).ownBlock → WrS w w' h nb us i t bD bI bB gb ob c := fun w' hg => by
    have hk : ∀ b j, b < w.heap.size → (∀ g, ((lookI us i).getD (.slice none 0 0)).ownBlock = some g → g ≠ b) → w'.cell? ⟨b, j, none⟩ = w.cell? ⟨b, j, none⟩ := fun b j hb hn =>
      World.cell?_of_block (w := w) (w' := w') (a := ⟨b, j, none⟩) (hg.block b hb (fun e => hn b e.symm rfl))
    refine ⟨hg, ?_, ?_, ?_, ?_, ?_, ?_⟩
    · rw [hk _ _ (bl _ _ cD) (fun g e => (hne' g e).1)]; exact cD
    · rw [hk _ _ (bl _ _ cI) (fun g e => (hne' g e).2.1)]; exact cI
    · rw [hk _ _ (bl _ _ cB) (fun g e => (hne' g e).2.2.1)]; exact cB
    · rw [hk _ _ D.lt (fun g e => by have := (hne' g e).2.2.2.2; omega)]; exact D.box.get rfl
    · exact D.ver.grown hg (fun e => by have := (hne' _ e.symm).2.2.2.2; omega)
    · intro j u hu
      rw [hk _ _ hlt (fun g e => (hne' g e).2.2.2.1)]
      exact ct j u hu
  have hlook : ∀ w', IM Try.prog 3 w' (h + 2) nb (fun v => v) us → (Instr.lookup 53 (.map (some (h + 2))) (.int .i64 i) false).run Try.prog w' = .ok ((lookI us i).getD (.slice none 0 0)) w' := fun w' hM =>
    hM.look Try.underlying3 Try.underlying53 (z := .slice none 0 0) zero51 (by omega)
  have hload : ∀ w', w'.rangeAt gb ob (tC t) → (Instr.loadAt 58 (.pointer (some ⟨gb, ob, none⟩))).run Try.prog w' = .ok (.agg (tC t).toArray) w' := fun w' hr => by
    simp only [Instr.loadAt, Instr.sureAddr, Sem.run_bind, Sem.run_pure, Result.andThen_ok, run_loadVar_mid w' gb ob 58 (tC t) _ hr Try.underlying58 rfl (by rw [tC_length, ht]; exact size58)]
  have hs2a : ∀ (gb ob c : Nat) (w' : World), (Instr.arrayAt 58 (.slice (some ⟨gb, ob, none⟩) 256 c)).run Try.prog w' = .ok (.pointer (some ⟨gb, ob, none⟩)) w' := fun _ _ _ _ => by
    simp [Instr.arrayAt, run_underlying Try.underlying58]
  go_enter Try.func26, Try.ntmps26
  go_wp2_with fail
  refine anyBut.region rfl 16 (fun w' => WrS w w' h nb us i t bD bI bB gb ob c) ?_
  refine stopW (waits_of (by kernel_rfl)) ?_
  intro hW
  obtain ⟨wd, hwd⟩ : ∃ wd, w.drew = wd := ⟨_, rfl⟩
  have hsz : wd.heap.size = w.heap.size := by rw [← hwd]; rfl
  have hrowd := ownsRow_keep (w' := wd) hrow (fun g _ => by rw [← hwd]; rfl)
  rw [hwd]
  have hS0 : WrS w wd h nb us i t bD bI bB gb ob c := hS1 _ (hwd ▸ gr_drew (World.grownBy.refl _ _))
  try simp only [List.setIfInBounds_toArray, List.set_cons_zero, List.set_cons_succ]
  refine anyBut.takeT (i := 0) (t := 3) (v := .pointer (some ⟨h + 3, 0, none⟩)) hW (by decide) rfl rfl (by decide +kernel) (by decide +kernel) (by decide +kernel) (fun _ _ _ h => h.elim) (.inl ⟨rfl, fun w' hS => ?_⟩) hS0 ?_
  · have c0 := hS.cD
    go_simp
  try simp only [List.setIfInBounds_toArray, List.set_cons_zero, List.set_cons_succ]
  refine anyBut.takeT (i := 1) (t := 4) (v := .pointer (some ⟨h + 3, 0, none⟩)) hW (by decide) rfl rfl (by decide +kernel) (by decide +kernel) (by decide +kernel) (fun _ _ _ h => h.elim) (.inl ⟨rfl, fun w' hS => ?_⟩) hS0 ?_
  · go_simp
  try simp only [List.setIfInBounds_toArray, List.set_cons_zero, List.set_cons_succ]
  refine anyBut.takeT (i := 2) (t := 5) (v := .pointer (some ⟨h + 3, 2, none⟩)) hW (by decide) rfl rfl (by decide +kernel) (by decide +kernel) (by decide +kernel) (fun _ _ _ h => h.elim) (.inl ⟨rfl, fun w' hS => ?_⟩) hS0 ?_
  · go_simp
  try simp only [List.setIfInBounds_toArray, List.set_cons_zero, List.set_cons_succ]
  refine anyBut.takeT (i := 3) (t := 6) (v := .map (some (h + 2))) hW (by decide) rfl rfl (by decide +kernel) (by decide +kernel) (by decide +kernel) (fun _ _ _ h => h.elim) (.inl ⟨rfl, fun w' hS => ?_⟩) hS0 ?_
  · have c0 := hS.cV
    go_simp
  try simp only [List.setIfInBounds_toArray, List.set_cons_zero, List.set_cons_succ]
  refine anyBut.takeT (i := 4) (t := 7) (v := .int .i64 i) hW (by decide) rfl rfl (by decide +kernel) (by decide +kernel) (by decide +kernel) (fun _ _ _ h => h.elim) (.inl ⟨rfl, fun w' hS => ?_⟩) hS0 ?_
  · have c0 := hS.cI
    go_simp
  try simp only [List.setIfInBounds_toArray, List.set_cons_zero, List.set_cons_succ]
  refine anyBut.takeT (i := 5) (t := 8) (v := .pointer (some ⟨h + 3, 0, none⟩)) hW (by decide) rfl rfl (by decide +kernel) (by decide +kernel) (by decide +kernel) (fun _ _ _ h => h.elim) (.inl ⟨rfl, fun w' hS => ?_⟩) hS0 ?_
  · have c0 := hS.cD
    go_simp
  try simp only [List.setIfInBounds_toArray, List.set_cons_zero, List.set_cons_succ]
  refine anyBut.takeT (i := 6) (t := 9) (v := .pointer (some ⟨h + 3, 0, none⟩)) hW (by decide) rfl rfl (by decide +kernel) (by decide +kernel) (by decide +kernel) (fun _ _ _ h => h.elim) (.inl ⟨rfl, fun w' hS => ?_⟩) hS0 ?_
  · go_simp
  try simp only [List.setIfInBounds_toArray, List.set_cons_zero, List.set_cons_succ]
  refine anyBut.takeT (i := 7) (t := 10) (v := .pointer (some ⟨h + 3, 2, none⟩)) hW (by decide) rfl rfl (by decide +kernel) (by decide +kernel) (by decide +kernel) (fun _ _ _ h => h.elim) (.inl ⟨rfl, fun w' hS => ?_⟩) hS0 ?_
  · go_simp
  try simp only [List.setIfInBounds_toArray, List.set_cons_zero, List.set_cons_succ]
  refine anyBut.takeT (i := 8) (t := 11) (v := .map (some (h + 2))) hW (by decide) rfl rfl (by decide +kernel) (by decide +kernel) (by decide +kernel) (fun _ _ _ h => h.elim) (.inl ⟨rfl, fun w' hS => ?_⟩) hS0 ?_
  · have c0 := hS.cV
    go_simp
  try simp only [List.setIfInBounds_toArray, List.set_cons_zero, List.set_cons_succ]
  refine anyBut.takeT (i := 9) (t := 12) (v := .int .i64 i) hW (by decide) rfl rfl (by decide +kernel) (by decide +kernel) (by decide +kernel) (fun _ _ _ h => h.elim) (.inl ⟨rfl, fun w' hS => ?_⟩) hS0 ?_
  · have c0 := hS.cI
    go_simp
  try simp only [List.setIfInBounds_toArray, List.set_cons_zero, List.set_cons_succ]
  refine anyBut.takeT (i := 10) (t := 13) (v := (lookI us i).getD (.slice none 0 0)) hW (by decide) rfl rfl (by decide +kernel) (by decide +kernel) (by decide +kernel) (fun _ _ _ h => h.elim) (.inl ⟨rfl, fun w' hS => ?_⟩) hS0 ?_
  · have c0 := hlook _ hS.ver
    go_simp
  try simp only [List.setIfInBounds_toArray, List.set_cons_zero, List.set_cons_succ]
  refine anyBut.takeT (i := 11) (t := 14) (v := .slice (some ⟨gb, ob, none⟩) 256 c) hW (by decide) rfl rfl (by decide +kernel) (by decide +kernel) (by decide +kernel) (fun _ _ _ h => h.elim) (.inl ⟨rfl, fun w' hS => ?_⟩) hS0 ?_
  · have c0 := hS.cB
    go_simp
  try simp only [List.setIfInBounds_toArray, List.set_cons_zero, List.set_cons_succ]
  refine anyBut.takeT (i := 12) (t := 15) (v := .pointer (some ⟨gb, ob, none⟩)) hW (by decide) rfl rfl (by decide +kernel) (by decide +kernel) (by decide +kernel) (fun _ _ _ h => h.elim) (.inl ⟨rfl, fun w' hS => ?_⟩) hS0 ?_
  · go_simp
  try simp only [List.setIfInBounds_toArray, List.set_cons_zero, List.set_cons_succ]
  refine anyBut.takeT (i := 13) (t := 16) (v := .agg (tC t).toArray) hW (by decide) rfl rfl (by decide +kernel) (by decide +kernel) (by decide +kernel) (fun _ _ _ h => h.elim) ?_ hS0 ?_
  · refine yieldsIf_load_mid ?_ 58 (.tmp 15) ?_ gb ob ?_ (tC t) (.array 256 5) ?_ ?_ rfl ?_
    · rfl
    · rfl
    · rfl
    · exact fun w' hS => hS.mid
    · exact Try.underlying58
    · rw [tC_length, ht]; exact size58
  simp only [List.setIfInBounds_toArray, List.set_cons_zero, List.set_cons_succ]
  refine anyBut.one (i := 14) (by decide +kernel) rfl rfl ?_
  refine wp_buildSliceT 51 58 1 #[(0, .tmp 16)] rfl (tC t).toArray i0 z0 Try.underlying51 hi0 hz0 (by rw [hz1]; omega) (by rw [hz1]; omega) ?fill 17 rfl ?_
  case fill =>
    simp only [List.map_toArray, List.map_cons, List.map_nil]
    refine fill_one _ (tC t) 256 (by rw [tC_length, ht]) ?_ _ ?_ <;> simp [hz1]
  simp only [List.setIfInBounds_toArray, List.set_cons_zero, List.set_cons_succ]
  have hS2 := hS1 _ (gr_alloc hS0.gr (.cells (tC t).toArray 58))
  refine ⟨.inr hS2, ?_⟩
  refine anyBut.one (i := 15) (by decide +kernel) rfl rfl ?_
  have hDl := D.lt
  refine wp_append_own_at (.tmp 13) (.tmp 17) 51 rfl (h + 4) 58 i0 z0 256 256 Try.underlying51 hi0 hz0 hz1 hz2 hzs (by omega) ((lookI us i).getD (.slice none 0 0)) _ _ rfl (hrowd.alloc _) ⟨wd.heap.size, 0, none⟩ 1 1 (tC t) rfl
    (by rw [tC_length, ht]) (fun j u hu => by rw [Addr.add_mid, Nat.zero_add]; exact (Blk.new' _ _ rfl).get (by simpa using hu)) tC_one (by simp only [maxLen]; omega) (by omega) (by simp; omega) 18 rfl ?_
  intro v' w2 hown hg2 _ hat
  simp only [List.setIfInBounds_toArray, List.set_cons_zero, List.set_cons_succ]
  have hS3 := hS1 _ (gr_trg hS2.gr hg2)
  refine ⟨.inr hS3, ?_⟩
  refine anyBut.one (i := 16) (by decide +kernel) rfl rfl ?_
  refine wp_mapUpdate_im (.tmp 6) (.tmp 7) (.tmp 18) rfl Try.underlying3 Try.underlying53 (h + 2) nb rfl hS3.ver hnb i rfl (by omega) v' rfl ?_ rfl
  intro w3 hM3 hg3
  refine ⟨.inl rfl, anyBut.done (by decide +kernel) ?_ _⟩
  refine NoPanic.normal ?_
  go_wp2_with fail
  go_end0
  have hgr := hS3.gr
  have hk : ∀ b, b < w.heap.size → (∀ v, lookI us i = some v → v.ownBlock ≠ some b) → b ≠ h + 2 → w3.heap[b]? = w.heap[b]? := fun b hb hv h2 =>
    (hg3.block b (Nat.lt_of_lt_of_le hb hgr.size) (by simpa using h2)).trans (hgr.block b hb (fun e => by obtain ⟨v, hv1, hv2⟩ := hrb b e.symm; exact hv v hv1 hv2))
  have hkb : ∀ b, b < h + 4 → ∀ v, lookI us i = some v → v.ownBlock ≠ some b := fun b hb v hv e => by have := (D.base hv e).1; omega
  have hat' : ∀ g, v'.ownBlock = some g → (∃ v, lookI us i = some v ∧ v.ownBlock = some g) ∨ w.heap.size ≤ g := fun g hg => by
    rcases hat with e | e
    · rw [e] at hg; exact .inl (hrb g hg)
    · rw [e] at hg; simp at hg; exact .inr (by omega)
  refine ⟨rfl, putI us i v', ⟨?_, ?_, ?_, hM3, keys_put _ _ _ _ _ D.keys, ?_, ?_⟩, ⟨hg3.os.trans hgr.os, hg3.tape.trans hgr.tape, hg3.output.trans hgr.output, Nat.le_trans hgr.size hg3.size, ?_, ?_⟩⟩
  · exact D.box.of_heap (hk _ (by omega) (hkb _ (by omega)) (by omega))
  · exact D.txt.of_heap (hk _ (by omega) (hkb _ (by omega)) (by omega))
  · exact (D.bad.of_heap (hk _ (by omega) (hkb _ (by omega)) (by omega))).mono (by omega)
  · intro j v hv
    rw [lookI_put] at hv
    simp only [writeS]
    rw [lookI_put]
    by_cases hj : j = i
    · rw [if_pos hj] at hv
      rw [if_pos hj]
      cases hv
      obtain ⟨A, c', rfl, _⟩ := ownsRow_tells hown
      refine ⟨_, A, c', rfl, by simp, ?_⟩
      have := ownsRow_keep (w' := w3) hown (fun g hg => hg3.block g (ownsRow_lt hown hg) (by have := ownsRow_base hown hg; simp; omega))
      simpa using this
    · rw [if_neg hj] at hv
      rw [if_neg hj]
      obtain ⟨l, A, c', h1, h2, h3⟩ := D.rows j v hv
      exact ⟨l, A, c', h1, h2, ownsRow_keep h3 fun g hg => hk g (D.base hv hg).2 (fun v0 hv0 e => D.sep i j v0 v (Ne.symm hj) hv0 hv g e hg) (by have := (D.base hv hg).1; omega)⟩
  · intro i1 j1 v1 v2 hne1 h1 h2 g hg1 hg2
    rw [lookI_put] at h1 h2
    by_cases e1 : i1 = i
    · rw [if_pos e1] at h1
      rw [if_neg (by omega)] at h2
      cases h1
      rcases hat' g hg1 with ⟨v0, h3, h4⟩ | h3
      · exact D.sep i j1 v0 v2 (by omega) h3 h2 g h4 hg2
      · have := (D.base h2 hg2).2; omega
    · rw [if_neg e1] at h1
      by_cases e2 : j1 = i
      · rw [if_pos e2] at h2
        cases h2
        rcases hat' g hg2 with ⟨v0, h3, h4⟩ | h3
        · exact D.sep i1 i v1 v0 e1 h1 h3 g hg1 h4
        · have := (D.base h1 hg1).2; omega
      · rw [if_neg e2] at h2
        exact D.sep i1 j1 v1 v2 hne1 h1 h2 g hg1 hg2
  · intro b hb hh hu
    exact hk b hb (fun v hv => hu i v hv) (by omega)
  · intro i1 v1 g h1 h2
    rw [lookI_put] at h1
    by_cases e1 : i1 = i
    · rw [if_pos e1] at h1
      cases h1
      rcases hat' g h2 with ⟨v0, h3, h4⟩ | h3
      · exact .inl ⟨i, v0, h3, h4⟩
      · exact .inr h3
    · rw [if_neg e1] at h1
      exact .inl ⟨i1, v1, h1, h2⟩

set_option maxRecDepth 100000 in
set_option maxHeartbeats 2000000 in
theorem write_any (h nb : Nat) (us : List (Int × Value)) (d : Dsk) (i : Int) (t : Tx) (A : Option Addr) (c N : Nat) (w : World) (D : DkAt w h nb us d) (hO : d.Ok N) (hN : N < 549755813888) (hnb : nb < maxLen)
    (hs : t.length = 256 → ∃ gb ob, A = some ⟨gb, ob, none⟩ ∧ gb < w.heap.size ∧ w.rangeAt gb ob (tC t) ∧ (gb < h ∨ h + 3 < gb) ∧ ∀ i v, lookI us i = some v → v.ownBlock ≠ some gb) (hi64 : -9223372036854775808 ≤ i ∧ i ≤ 9223372036854775807) :
    Calls Try.prog 13 #[.pointer (some ⟨h + 3, 0, none⟩), .int .i64 i, .slice A t.length c] w fun e w' => e = .returned (.int .i64 (writeD d i t).1) ∧ ∃ us', DkAt w' h (nb + 1) us' (writeD d i t).2 ∧ FrD w w' h us us' := by
  have hmf : ∀ (fn : Fn) (first cap : Array Value) (w : World), (Instr.makeFunc fn first cap).run Try.prog w = .ok (.func fn first cap) w := fun _ _ _ _ => rfl
  have hp := hO.len.1
  have hb3 : Below w.heap.size w (((w.alloc (.cells #[.pointer (some ⟨h + 3, 0, none⟩)] 24)).alloc (.cells #[.int .i64 i] 3)).alloc (.cells #[.slice A t.length c] 30)) := bl_alloc (bl_alloc (bl_alloc (Below.refl _ _) _) _) _
  have D3 := D.below hb3
  have q := D3.box.cell
  have ht256 : (((t.length : Nat) : Int) != 256) = !decide (t.length = 256) := by rw [Bool.eq_iff_iff]; simp; omega
  by_cases h1 : i < 0
  · have hd1 : decide (i < 0) = true := by simpa using h1
    go_enter Try.func13, Try.ntmps13
    go_wp2_with fail
    go_quiet ((go_at_call 23; refine Calls.quiet_of_same ((none_pos (D3.below (bl_drewN (Below.refl _ _) _)) hp).mono fun _ _ h => ⟨h.1, h.2.symm⟩)))
    go_wp2_with fail
    go_ret
    have hw : writeD d i t = (1, d) := by unfold writeD; rw [if_pos (.inl h1)]
    rw [hw]
    exact ⟨rfl, us, (D3.below (bl_drewN (Below.refl _ _) _)).mono (by omega), FrD.of_below us (bl_drewN hb3 _)⟩
  · have hd1 : decide (i < 0) = false := by simpa using h1
    by_cases h2 : (d.ts.length : Int) ≤ i
    · have hd2 : decide ((d.ts.length : Int) ≤ i) = true := by simpa using h2
      go_enter Try.func13, Try.ntmps13
      go_wp2_with fail
      go_quiet ((go_at_call 23; refine Calls.quiet_of_same ((none_pos (D3.below (bl_drewN (Below.refl _ _) _)) hp).mono fun _ _ h => ⟨h.1, h.2.symm⟩)))
      go_wp2_with fail
      go_ret
      have hw : writeD d i t = (1, d) := by unfold writeD; rw [if_pos (.inr (.inl h2))]
      rw [hw]
      exact ⟨rfl, us, (D3.below (bl_drewN (Below.refl _ _) _)).mono (by omega), FrD.of_below us (bl_drewN hb3 _)⟩
    · have hd2 : decide ((d.ts.length : Int) ≤ i) = false := by simpa using h2
      by_cases h3 : t.length = 256
      · obtain ⟨gb, ob, rfl, hgb, hrg, hgd, hgu⟩ := hs h3
        have h3k := Lib.hid h3
        rw [h3] at ht256 hb3 D3 ⊢
        replace q := D3.box.cell
        have hp2 : ∀ w : World, w.cell? ⟨h + 3, 0, none⟩ = none → True := fun _ _ => trivial
        go_enter Try.func13, Try.ntmps13
        go_wp2_with fail
        go_quiet ((go_at_call 23; refine Calls.quiet_of_same ((none_pos (D3.below (bl_drewN (Below.refl _ _) _)) hp).mono fun _ _ h => ⟨h.1, h.2.symm⟩)))
        go_wp2_with fail
        have hb4 := bl_drewN hb3 nq
        have D4 := D3.below (bl_drewN (Below.refl _ _) nq)
        have e0 : ∀ b, w.heap.size ≤ b → (b < h ∨ h + 3 < b) ∧ ∀ i v, lookI us i = some v → v.ownBlock ≠ some b := fun b hb => ⟨.inr (by have := D.lt; omega), fun i v hv e => by have := (D.base hv e).2; omega⟩
        refine (operation26 h nb us d _ _ D4 hO.fuse.2 hO.fuse.1 (fun w' => ∃ us', DkAt w' h (nb + 1) us' (writeS (powr d).2 i t) ∧ FrD w w' h us us') ?_).mono ?_
        · intro hpw w1 D1 F1
          have hcell : ∀ b j, b < w.heap.size + 3 → w.heap.size ≤ b → w1.cell? ⟨b, j, none⟩ = (((w.alloc (.cells #[.pointer (some ⟨h + 3, 0, none⟩)] 24)).alloc (.cells #[.int .i64 i] 3)).alloc (.cells #[.slice (some ⟨gb, ob, none⟩) 256 c] 30)).cell? ⟨b, j, none⟩ := fun b j hb hb2 =>
            World.cell?_of_block (a := ⟨b, j, none⟩) (F1.block b (by simp [World.drewN]; omega) (e0 b hb2).1 (e0 b hb2).2)
          have B0 : Blk (((w.alloc (.cells #[.pointer (some ⟨h + 3, 0, none⟩)] 24)).alloc (.cells #[.int .i64 i] 3)).alloc (.cells #[.slice (some ⟨gb, ob, none⟩) 256 c] 30)) w.heap.size [.pointer (some ⟨h + 3, 0, none⟩)] := ((Blk.new' _ _ rfl).alloc _).alloc _
          have B1 : Blk (((w.alloc (.cells #[.pointer (some ⟨h + 3, 0, none⟩)] 24)).alloc (.cells #[.int .i64 i] 3)).alloc (.cells #[.slice (some ⟨gb, ob, none⟩) 256 c] 30)) (w.heap.size + 1) [.int .i64 i] := (Blk.new' _ _ (by simp)).alloc _
          have B2 : Blk (((w.alloc (.cells #[.pointer (some ⟨h + 3, 0, none⟩)] 24)).alloc (.cells #[.int .i64 i] 3)).alloc (.cells #[.slice (some ⟨gb, ob, none⟩) 256 c] 30)) (w.heap.size + 1 + 1) [.slice (some ⟨gb, ob, none⟩) 256 c] := Blk.new' _ _ (by simp)
          have hgb1 : gb < w1.heap.size := Nat.lt_of_lt_of_le (Nat.lt_of_lt_of_le hgb hb4.size) F1.size
          refine (write1_any h nb us _ i t w.heap.size (w.heap.size + 1) (w.heap.size + 1 + 1) gb ob c w1 D1 ⟨by omega, by have := hO.len.2; omega⟩ h3k.out hnb ?_ ?_ ?_ ?_ ?_ hgb1 ?_).mono ?_
          · intro l hl
            rw [powr_vs] at hl
            have := (hO.vs i l hl).2.2.2.1
            omega
          · rw [hcell _ _ (by omega) (by omega)]; exact B0.get rfl
          · rw [hcell _ _ (by omega) (by omega)]; exact B1.get rfl
          · rw [hcell _ _ (by omega) (by omega)]; exact B2.get rfl
          · intro j u hu
            have := hrg j u hu
            rw [← this]
            exact (World.cell?_of_block (a := ⟨gb, ob + j, none⟩) (F1.block gb (Nat.lt_of_lt_of_le hgb hb4.size) hgd hgu)).trans (hb4.cell (p := ⟨gb, ob + j, none⟩) hgb)
          · intro v g hv hg
            have := (D.base hv hg).2
            exact ⟨by omega, by omega, by omega, fun e => hgu i v hv (by rw [hg, e])⟩
          · rintro e w' ⟨rfl, us', D5, F5⟩
            exact ⟨rfl, us', D5, ((FrD.of_below us hb4).trans F1).trans F5⟩
        · have hw : writeD d i t = if (powr d).1 then (0, writeS (powr d).2 i t) else (8, (powr d).2) := by
            unfold writeD
            rw [if_neg (by rintro (e | e | e) <;> first | omega | exact e h3k.out)]
          rintro e w' (⟨hp1, rfl, us', D5, F5⟩ | ⟨hp1, rfl, D5, F5⟩)
          · go_wp2_with fail
            go_ret
            rw [hw]
            simp only [hp1, if_true]
            exact ⟨rfl, us', D5, F5⟩
          · go_wp2_with fail
            go_ret
            rw [hw]
            simp only [hp1, Bool.false_eq_true, if_false]
            exact ⟨rfl, us, D5.mono (by omega), (FrD.of_below us hb4).trans F5⟩
      · have h3' : decide (t.length = 256) = false := by simpa using h3
        rw [h3'] at ht256
        go_enter Try.func13, Try.ntmps13
        go_wp2_with fail
        go_quiet ((go_at_call 23; refine Calls.quiet_of_same ((none_pos (D3.below (bl_drewN (Below.refl _ _) _)) hp).mono fun _ _ h => ⟨h.1, h.2.symm⟩)))
        go_wp2_with fail
        go_ret
        have hw : writeD d i t = (1, d) := by unfold writeD; rw [if_pos (.inr (.inr h3))]
        rw [hw]
        exact ⟨rfl, us, (D3.below (bl_drewN (Below.refl _ _) _)).mono (by omega), FrD.of_below us (bl_drewN hb3 _)⟩
end Go.Proofs.Yteaenhmiomoocaa
