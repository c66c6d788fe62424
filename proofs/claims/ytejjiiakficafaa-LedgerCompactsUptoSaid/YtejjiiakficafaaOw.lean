/- The laws' small functions: Own, inTxn, knows. -/
import Derived.Test.YtejjiiakficafaaFe
namespace Go.Proofs.Ytejjiiakficafaa
open Go Go.RowKit Go.Shelf Go.Maps
attribute [local go_sem] Oper.semAt_some

set_option maxRecDepth 100000 in
set_option maxHeartbeats 1000000 in
theorem copied_t (k p ep s : Int) (t : Bool) (rs : List Rec) (A : Option Addr) (c : Nat) (w : World) (hc : RecsAt w A rs) :
    Calls Try.prog 23 #[.agg #[.int .i64 k, .int .i64 p, .int .i64 ep, .int .i64 s, .bool t, .slice A rs.length c]] w fun e w' => ∃ A' c', e = .returned (.agg #[.int .i64 k, .int .i64 p, .int .i64 ep, .int .i64 s, .bool t, .slice A' rs.length c']) ∧ RecsT w' A' rs ∧ (∀ b o, rs ≠ [] → A' = some ⟨b, o, none⟩ → w.heap.size ≤ b) ∧ Below w.heap.size w w' := by
  obtain ⟨i0, hi0, hz0, hz1, hz2⟩ := info_parts info84
  have hone : ∀ u ∈ recCells rs, u.oneCell' = true := by
    intro u hu
    obtain ⟨r, _, hr⟩ := List.mem_flatMap.1 hu
    simp only [recV, List.mem_cons, List.not_mem_nil, or_false] at hr
    rcases hr with rfl | rfl | rfl <;> rfl
  have hbl := hc.1
  go_enter Try.func23, Try.ntmps23
  go_wp2_with (at_builtin; refine wpList_append_srcT rfl _ _ 28 rfl (w.heap.size + 1 + 1) 43 i0 _ 3 40 Try.underlying28 hi0 hz0 hz1 hz2 rfl (by omega) (.slice (some ⟨w.heap.size + 1 + 1, 0, none⟩) 0 0) 0 [] rfl ?hown A rs.length c (recCells rs) rfl ?hsrc hone ?h63 ?hby ?hbase ?nx; case' nx => intro A1 c1 w1 hown hg; have hB0 : Blk w1 w.heap.size [.int .i64 k, .int .i64 p, .int .i64 ep, .int .i64 s, .bool t, .slice A rs.length c] := Blk.grown (by (repeat' (first | (refine Blk.new' _ _ ?_; (simp; done)) | apply Blk.alloc))) hg (by simp [Value.ownBlock]; omega); have hB1 : Blk w1 (w.heap.size + 1) [.int .i64 0, .int .i64 0, .int .i64 0, .int .i64 0, .bool false, .slice none 0 0] := Blk.grown (by (repeat' (first | (refine Blk.new' _ _ ?_; (simp; done)) | apply Blk.alloc))) hg (by simp [Value.ownBlock]); have q0 := hB0.cell; have q1 := hB1.cell; have u0 := hB0.unf; have u1 := hB1.unf)
  case hown => simpa using ownsRow_empty ((w.alloc (.cells #[.int .i64 k, .int .i64 p, .int .i64 ep, .int .i64 s, .bool t, .slice A rs.length c] 30)).alloc (.cells #[.int .i64 0, .int .i64 0, .int .i64 0, .int .i64 0, .bool false, .slice none 0 0] 30)) 43 3 (w.heap.size + 1 + 1) (by simp)
  case hsrc => exact (hc.below (bl_alloc (bl_alloc (bl_alloc (Below.refl _ _) _) _) _)).src
  case h63 => simp only [maxLen]; omega
  case hby => omega
  case hbase => simp
  have hbB : Below w.heap.size w w1 := bl_gr (bl_alloc (bl_alloc (bl_alloc (Below.refl _ _) _) _) _) (g := w.heap.size + 1 + 1) (by simpa [Value.ownBlock] using hg) (by omega)
  simp only [Nat.zero_add, List.nil_append] at hown ⊢
  have hbf := bl_set (bl_set (bl_set (bl_set (bl_set (bl_set (bl_set hbB (p := ⟨w.heap.size, 5, none⟩) (by simp) (.slice A1 rs.length c1)) (p := ⟨w.heap.size + 1, 0, none⟩) (by simp) (.int .i64 k)) (p := ⟨w.heap.size + 1, 1, none⟩) (by simp) (.int .i64 p)) (p := ⟨w.heap.size + 1, 2, none⟩) (by simp) (.int .i64 ep)) (p := ⟨w.heap.size + 1, 3, none⟩) (by simp) (.int .i64 s)) (p := ⟨w.heap.size + 1, 4, none⟩) (by simp) (.bool t)) (p := ⟨w.heap.size + 1, 5, none⟩) (by simp) (.slice A1 rs.length c1)
  refine bodyPost_ret (v := .agg #[.int .i64 k, .int .i64 p, .int .i64 ep, .int .i64 s, .bool t, .slice A1 rs.length c1]) ?_ rfl ⟨A1, c1, rfl, ⟨?_, ?_⟩, ?_, hbf⟩
  · simp [results, Try.results11, go_sem, q1]
  · obtain ⟨A2, c2, e2, htl⟩ := ownsRow_tells hown
    cases e2
    refine RecsAt.of_row hbl (fun i hi => (hc.2 i hi).elim fun b h => h.elim fun o h => h.2.2.2.2.2) (fun hn => ?_)
    obtain ⟨g, hA, hb, hlt, hcell⟩ := htl hn
    refine ⟨g, hA, by simpa [World.setCell] using hlt, fun j u hu => ?_⟩
    have hne : ∀ (b o : Nat) (v : Value) (W : World), b < w.heap.size + 1 + 1 → (W.setCell ⟨b, o, none⟩ v).cell? ⟨g, j, none⟩ = W.cell? ⟨g, j, none⟩ := fun b o v W hb' => World.cell?_setCell_other _ _ _ _ (by intro e; injection e; omega)
    rw [hne _ _ _ _ (by omega), hne _ _ _ _ (by omega), hne _ _ _ _ (by omega), hne _ _ _ _ (by omega), hne _ _ _ _ (by omega), hne _ _ _ _ (by omega), hne _ _ _ _ (by omega)]
    exact hcell j u hu
  · intro b o hn hA
    have hown2 := hown
    have ht := ownsRow_ty hown2 (g := b) (by rw [hA]; rfl)
    exact ((((((ht.setCell _ _).setCell _ _).setCell _ _).setCell _ _).setCell _ _).setCell _ _).setCell _ _
  · intro b o hn hA
    obtain ⟨A2, c2, e2, htl⟩ := ownsRow_tells hown
    cases e2
    obtain ⟨g, hA2, hb, _⟩ := htl (fun e => hn (List.length_eq_zero_iff.1 e))
    rw [hA2] at hA
    cases hA
    omega

set_option maxRecDepth 100000 in
set_option maxHeartbeats 1000000 in
theorem records_t (n : Nat) (w : World) (hn : n ≤ 1000) :
    Calls Try.prog 41 #[.int .i64 n] w fun e w' => ∃ A c, e = .returned (.slice A n c) ∧ RecsT w' A (List.replicate n kRec) ∧ Below w.heap.size w w' := by
  obtain ⟨i0, hi0, hz0, hz1, hz2⟩ := info_parts info84
  go_enter Try.func41, Try.ntmps41
  go_wp2
  go_loopw [3, 4] (fun v i wr => ∃ (k : Nat) (A : Option Addr) (c : Nat), k ≤ n ∧ v = .slice A k c ∧ i = .int .i64 k ∧ wr.ownsRow w.heap.size 43 3 (.slice A k c) k (recCells (List.replicate k kRec)) ∧ Below w.heap.size w wr)
    (fun _ i _ => n - (intOf i).toNat)
  case atStart => exact ⟨0, none, 0, Nat.zero_le _, rfl, rfl, World.ownsRow_nil _ _ _ _, Below.refl _ _⟩
  case round =>
    obtain ⟨k, A, c, hk, rfl, rfl, hown, hB⟩ := hrel
    by_cases hlt : k < n
    · have HS := Lib.hid (show recCells (List.replicate (k + 1) kRec) = recCells (List.replicate k kRec) ++ recV kRec from by rw [List.replicate_succ', recCells_snoc])
      go_wp2_with (at_builtin; refine wpList_append_srcT rfl _ _ 28 rfl w.heap.size 43 i0 _ 3 40 Try.underlying28 hi0 hz0 hz1 hz2 rfl (by omega) (.slice A k c) k _ rfl (hown.alloc _) (some ⟨wr.heap.size, 0, none⟩) 1 1 (recV kRec) rfl (src_new wr (recV kRec) 43 1 3 rfl) ?h1 ?h63 ?hby ?hbase ?nx; case' nx => intro A1 c1 w1 hown1 hg1)
      case h1 => intro u hu; simp [recV] at hu; rcases hu with rfl | rfl | rfl <;> rfl
      case h63 => simp only [maxLen]; omega
      case hby => omega
      case hbase => have := hB.size; simp; omega
      go_roundw
      case rel =>
        refine ⟨k + 1, A1, c1, by omega, rfl, by go_num, by rw [HS.out]; exact hown1, ?_⟩
        refine hB.trans (((Below.refl _ _).alloc hB.size _).grown hg1 (by have := hB.size; simp; omega) ?_)
        intro g hg
        obtain ⟨_, ⟨h1, _⟩ | ⟨g', cap, cur, h1, h2, _⟩⟩ := hown
        · rw [h1] at hg; cases hg
        · rw [h1] at hg; simp [Value.ownBlock] at hg; omega
      case measure => simp [intOf]; omega
    · obtain rfl : k = n := by omega
      go_wp2
      go_ret
      refine ⟨A, c, rfl, ⟨?_, fun b o hn hA => ownsRow_ty hown (by rw [hA]; rfl)⟩, hB⟩
      obtain ⟨A2, c2, e2, htl⟩ := ownsRow_tells hown
      cases e2
      refine RecsAt.of_row (by simp; omega) (fun i hi => by simp [kRec, ByteArray.size]) (fun hn => ?_)
      obtain ⟨g, hA, hb, hlt, hcell⟩ := htl (by simpa using hn)
      exact ⟨g, hA, hlt, hcell⟩

/-- An entry in memory, its records in a row of their own type. -/
def enV8 (x : En) (A : Option Addr) (c : Nat) : List Value := [.int .i64 x.kind, .int .i64 x.n, .int .i64 x.b.k, .int .i64 x.b.p, .int .i64 x.b.ep, .int .i64 x.b.s, .bool x.b.t, .slice A x.b.rs.length c]

theorem zero32 (w : World) : (zeroValue 32).run Try.prog w = .ok (.agg #[.int .i64 0, .int .i64 0, .int .i64 0, .int .i64 0, .int .i64 0, .int .i64 0, .bool false, .slice none 0 0]) w := by kernel_rfl

set_option maxRecDepth 100000 in
set_option maxHeartbeats 1000000 in
theorem own_any (x : En) (A : Option Addr) (c : Nat) (w : World) (hR : RecsAt w A x.b.rs) :
    Calls Try.prog 10 #[.agg #[.int .i64 x.kind, .int .i64 x.n, .int .i64 x.b.k, .int .i64 x.b.p, .int .i64 x.b.ep, .int .i64 x.b.s, .bool x.b.t, .slice A x.b.rs.length c]] w fun e w' =>
      ∃ A' c', e = .returned (.agg #[.int .i64 x.kind, .int .i64 x.n, .int .i64 x.b.k, .int .i64 x.b.p, .int .i64 x.b.ep, .int .i64 x.b.s, .bool x.b.t, .slice A' x.b.rs.length c']) ∧ RecsT w' A' x.b.rs ∧ (∀ b o, x.b.rs ≠ [] → A' = some ⟨b, o, none⟩ → w.heap.size ≤ b) ∧ Below w.heap.size w w' := by
  obtain ⟨kind, n, k, p, ep, s, t, rs⟩ := x
  dsimp only at hR ⊢
  go_enter Try.func10, Try.ntmps10
  go_wp2_with fail
  have hB0 : Blk ((w.alloc (.cells #[.int .i64 kind, .int .i64 n, .int .i64 k, .int .i64 p, .int .i64 ep, .int .i64 s, .bool t, .slice A rs.length c] 34)).alloc (.cells #[.int .i64 0, .int .i64 0, .int .i64 0, .int .i64 0, .int .i64 0, .int .i64 0, .bool false, .slice none 0 0] 32)) w.heap.size [.int .i64 kind, .int .i64 n, .int .i64 k, .int .i64 p, .int .i64 ep, .int .i64 s, .bool t, .slice A rs.length c] := (Blk.new' _ _ rfl).alloc _
  have hB1 : Blk ((w.alloc (.cells #[.int .i64 kind, .int .i64 n, .int .i64 k, .int .i64 p, .int .i64 ep, .int .i64 s, .bool t, .slice A rs.length c] 34)).alloc (.cells #[.int .i64 0, .int .i64 0, .int .i64 0, .int .i64 0, .int .i64 0, .int .i64 0, .bool false, .slice none 0 0] 32)) (w.heap.size + 1) [.int .i64 0, .int .i64 0, .int .i64 0, .int .i64 0, .int .i64 0, .int .i64 0, .bool false, .slice none 0 0] := Blk.new' _ _ (by simp)
  have hb : Below w.heap.size w ((w.alloc (.cells #[.int .i64 kind, .int .i64 n, .int .i64 k, .int .i64 p, .int .i64 ep, .int .i64 s, .bool t, .slice A rs.length c] 34)).alloc (.cells #[.int .i64 0, .int .i64 0, .int .i64 0, .int .i64 0, .int .i64 0, .int .i64 0, .bool false, .slice none 0 0] 32)) := bl_alloc (bl_alloc (Below.refl _ _) _) _
  obtain ⟨W, hW⟩ : ∃ W, W = (w.alloc (.cells #[.int .i64 kind, .int .i64 n, .int .i64 k, .int .i64 p, .int .i64 ep, .int .i64 s, .bool t, .slice A rs.length c] 34)).alloc (.cells #[.int .i64 0, .int .i64 0, .int .i64 0, .int .i64 0, .int .i64 0, .int .i64 0, .bool false, .slice none 0 0] 32) := ⟨_, rfl⟩
  rw [← hW] at hB0 hB1 hb ⊢
  have hT1 : TyAt W (w.heap.size + 1) 32 := by rw [hW]; exact ty_new' _ _ (by simp)
  replace hW := Lib.hid hW
  have hR0 := hR.below hb
  have q0 := hB0.cell
  have l0 := hB0.lt
  have l1 := hB1.lt
  refine anyBut.region rfl 8 (fun w' => Blk w' w.heap.size [.int .i64 kind, .int .i64 n, .int .i64 k, .int .i64 p, .int .i64 ep, .int .i64 s, .bool t, .slice A rs.length c]) ?_
  obtain ⟨X, hX⟩ : ∃ X, W.drew = X := ⟨_, rfl⟩
  rw [hX]
  have hbX : Below W.heap.size W X := hX ▸ (Below.refl _ _).drew
  have hB0X := hB0.below hbX l0
  have hB1X := hB1.below hbX l1
  have hRX := hR0.below hbX
  have hT1X := hT1.of_heap (hbX.block _ l1)
  replace hb := bl_tr hb hbX
  clear hX hB0 hB1 hR0 hbX q0 l0 l1 hT1
  try simp only [List.setIfInBounds_toArray, List.set_cons_zero, List.set_cons_succ]
  refine anyBut.takeW (i := 0) (t := 3) (v := (.pointer (some ⟨w.heap.size, 0, none⟩))) (by kernel_rfl) rfl rfl (by decide +kernel) (by decide +kernel) (by decide +kernel) (fun _ _ _ h => h.elim) (.inl ⟨rfl, fun w' hS => ?_⟩) hB0X ?_
  · go_simp
  try simp only [List.setIfInBounds_toArray, List.set_cons_zero, List.set_cons_succ]
  refine anyBut.takeW (i := 1) (t := 4) (v := (.int .i64 kind)) (by kernel_rfl) rfl rfl (by decide +kernel) (by decide +kernel) (by decide +kernel) (fun _ _ _ h => h.elim) (.inl ⟨rfl, fun w' hS => ?_⟩) hB0X ?_
  · have z1 := hS.cell
    go_simp
  try simp only [List.setIfInBounds_toArray, List.set_cons_zero, List.set_cons_succ]
  refine anyBut.takeW (i := 2) (t := 5) (v := (.pointer (some ⟨w.heap.size, 1, none⟩))) (by kernel_rfl) rfl rfl (by decide +kernel) (by decide +kernel) (by decide +kernel) (fun _ _ _ h => h.elim) (.inl ⟨rfl, fun w' hS => ?_⟩) hB0X ?_
  · go_simp
  try simp only [List.setIfInBounds_toArray, List.set_cons_zero, List.set_cons_succ]
  refine anyBut.takeW (i := 3) (t := 6) (v := (.int .i64 n)) (by kernel_rfl) rfl rfl (by decide +kernel) (by decide +kernel) (by decide +kernel) (fun _ _ _ h => h.elim) (.inl ⟨rfl, fun w' hS => ?_⟩) hB0X ?_
  · have z1 := hS.cell
    go_simp
  try simp only [List.setIfInBounds_toArray, List.set_cons_zero, List.set_cons_succ]
  refine anyBut.takeW (i := 4) (t := 7) (v := (.pointer (some ⟨w.heap.size, 2, none⟩))) (by kernel_rfl) rfl rfl (by decide +kernel) (by decide +kernel) (by decide +kernel) (fun _ _ _ h => h.elim) (.inl ⟨rfl, fun w' hS => ?_⟩) hB0X ?_
  · go_simp
  try simp only [List.setIfInBounds_toArray, List.set_cons_zero, List.set_cons_succ]
  refine anyBut.takeW (i := 5) (t := 8) (v := (.agg #[.int .i64 k, .int .i64 p, .int .i64 ep, .int .i64 s, .bool t, .slice A rs.length c])) (by kernel_rfl) rfl rfl (by decide +kernel) (by decide +kernel) (by decide +kernel) (fun _ _ _ h => h.elim) (.inl ⟨rfl, fun w' hS => ?_⟩) hB0X ?_
  · have z1 := hS.cell
    go_simp
  try simp only [List.setIfInBounds_toArray, List.set_cons_zero, List.set_cons_succ]
  refine anyBut.one (i := 6) (by decide +kernel) rfl rfl ?_
  refine wp_goCall1 23 (enters_of Try.func23 (by kernel_rfl) rfl) (.tmp 8) #[30] rfl 9 rfl ?_
  refine (copied_t k p ep s t rs A c X hRX).mono ?_
  rintro e w4 ⟨A4, c4, rfl, hR4, hn4, hb4⟩
  have hB04 := hB0X.below hb4 hB0X.lt
  have hB14 := hB1X.below hb4 hB1X.lt
  have hT14 := hT1X.of_heap (hb4.block _ hB1X.lt)
  refine ⟨_, rfl, .inr hB04, ?_⟩
  try simp only [List.setIfInBounds_toArray, List.set_cons_zero, List.set_cons_succ]
  refine anyBut.oneT (i := 7) (t := 10) (v := (.agg #[.int .i64 kind, .int .i64 n, .int .i64 k, .int .i64 p, .int .i64 ep, .int .i64 s, .bool t, .slice A4 rs.length c4])) (by decide +kernel) rfl rfl (.inl ⟨rfl, fun w' hS => ?_⟩) hB04 ?_
  · go_simp
  try simp only [List.setIfInBounds_toArray, List.set_cons_zero, List.set_cons_succ]
  refine anyBut.one (i := 8) (by decide +kernel) rfl rfl ?_
  refine wp_store_agg 32 (.tmp 2) (.tmp 10) rfl rfl (w.heap.size + 1) _ [.int .i64 kind, .int .i64 n, .int .i64 k, .int .i64 p, .int .i64 ep, .int .i64 s, .bool t, .slice A4 rs.length c4] rfl rfl hB14 rfl (by kernel_rfl) (by simp [Value.oneCell']) ?_
  intro w5 hB5 hg5 hz5
  refine ⟨.inl rfl, anyBut.done (by decide +kernel) ?_ _⟩
  refine NoPanic.normal ?_
  have q5 := hB5.cell
  go_wp2_with fail
  have hb5 : Below w.heap.size w w5 := bl_gr (bl_tr hb hb4) hg5 (by omega)
  refine bodyPost_ret (v := .agg #[.int .i64 kind, .int .i64 n, .int .i64 k, .int .i64 p, .int .i64 ep, .int .i64 s, .bool t, .slice A4 rs.length c4]) ?_ rfl ⟨A4, c4, rfl, hR4.keep (fun b ht => hg5.block b ht.lt ?_), fun b o h1 h2 => Nat.le_trans hb.size (hn4 b o h1 h2), hb5⟩
  · simp [results, Try.results10, go_sem, q5]
  · simp only [ne_eq, Option.some.injEq]; exact ht.ne hT14 (by decide)

set_option maxRecDepth 100000 in
set_option maxHeartbeats 1000000 in
theorem inTxn_any (p s : Int) (n : Nat) (w : World) (hn : n ≤ 1000) :
    Calls Try.prog 22 #[.int .i64 p, .int .i64 s, .int .i64 n] w fun e w' =>
      ∃ A' c', e = .returned (.agg #[.int .i64 1, .int .i64 0, .int .i64 1, .int .i64 p, .int .i64 0, .int .i64 s, .bool true, .slice A' n c']) ∧ RecsT w' A' (List.replicate n kRec) ∧ Below w.heap.size w w' := by
  have hB1 : Blk (w.alloc (.cells #[.int .i64 0, .int .i64 0, .int .i64 0, .int .i64 0, .int .i64 0, .int .i64 0, .bool false, .slice none 0 0] 32)) w.heap.size [.int .i64 0, .int .i64 0, .int .i64 0, .int .i64 0, .int .i64 0, .int .i64 0, .bool false, .slice none 0 0] := Blk.new' _ _ rfl
  have hT1 : TyAt (w.alloc (.cells #[.int .i64 0, .int .i64 0, .int .i64 0, .int .i64 0, .int .i64 0, .int .i64 0, .bool false, .slice none 0 0] 32)) w.heap.size 32 := ty_new _ _ _
  go_enter Try.func22, Try.ntmps22
  go_wp2_with (first | (go_at_call 41; refine (records_t n _ hn).mono ?_; rintro e w4 ⟨A4, c4, rfl, hR4, hb4⟩; have hB14 := hB1.below hb4 hB1.lt; have hT14 := hT1.of_heap (hb4.block _ hB1.lt)) | (refine wpList_store_blk rfl 32 _ _ rfl w.heap.size _ [.int .i64 1, .int .i64 0, .int .i64 1, .int .i64 p, .int .i64 0, .int .i64 s, .bool true, .slice A4 n c4] rfl rfl hB14 rfl (by kernel_rfl) (by simp [Value.oneCell']) ?_; intro w5 hB5 hg5 hz5))
  have q5 := hB5.cell
  have hb5 : Below w.heap.size w w5 := bl_gr (bl_tr (bl_alloc (Below.refl _ _) _) hb4) hg5 (by omega)
  refine bodyPost_ret (v := .agg #[.int .i64 1, .int .i64 0, .int .i64 1, .int .i64 p, .int .i64 0, .int .i64 s, .bool true, .slice A4 n c4]) ?_ rfl ⟨A4, c4, rfl, hR4.keep (fun b ht => hg5.block b ht.lt ?_), hb5⟩
  · simp [results, Try.results22, go_sem, q5]
  · simp only [ne_eq, Option.some.injEq]; exact ht.ne hT14 (by decide)

def kx1 : En := ⟨1, 0, ⟨1, 1, 0, 0, true, List.replicate 2 kRec⟩⟩
def kx2 : En := ⟨1, 0, ⟨2, 1, 0, 0, false, []⟩⟩
def kl1 : Lg := lg0.apply kx1
def kl2 : Lg := kl1.apply kx2
theorem ks1 : lg0.said kx1 = (0, 0) := by decide +kernel
theorem ks2 : kl1.stable = 0 := by decide +kernel
theorem ks3 : (kl1.fetch 0 9 true).2 = (0, 0) := by decide +kernel
theorem ks4 : kl1.said kx2 = (2, 0) := by decide +kernel
theorem ks5 : (kl2.fetch 0 9 true).1.length = 2 ∧ (kl2.fetch 0 9 true).2 = (3, 0) := by decide +kernel
theorem ks6 : kl2.stable = 3 := by decide +kernel
theorem kg1 : GoodL kl1 1 := goodL0.apply kx1 (by intro r hr; simp [kx1, kRec] at hr; rw [hr]; simp [ByteArray.size])
theorem kg2 : GoodL kl2 2 := kg1.apply kx2 (by intro r hr; simp [kx2] at hr)
end Go.Proofs.Ytejjiiakficafaa
