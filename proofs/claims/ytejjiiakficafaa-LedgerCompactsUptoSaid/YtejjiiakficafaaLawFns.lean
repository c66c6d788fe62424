/- The laws' small functions: Copied, Records. -/
import Derived.Test.YtejjiiakficafaaBatch
import Derived.Test.YtejjiiakficafaaAppend
namespace Go.Proofs.Ytejjiiakficafaa
open Go.RowKit Go.Shelf

def recV (r : Rec) : List Value := [.string r.key, .string r.val, .bool r.dead]
def recCells (rs : List Rec) : List Value := rs.flatMap recV
theorem recCells_length (rs : List Rec) : (recCells rs).length = rs.length * 3 := by
  induction rs with
  | nil => rfl
  | cons r l ih => simp only [recCells, List.flatMap_cons, List.length_append, recV, List.length_cons, List.length_nil] at *; omega
theorem recCells_get (rs : List Rec) : ∀ i (h : i < rs.length), (recCells rs)[i * 3]? = some (.string rs[i].key) ∧ (recCells rs)[i * 3 + 1]? = some (.string rs[i].val) ∧ (recCells rs)[i * 3 + 2]? = some (.bool rs[i].dead) := by
  induction rs with
  | nil => intro i h; simp at h
  | cons r l ih =>
    intro i h
    cases i with
    | zero => exact ⟨rfl, rfl, rfl⟩
    | succ n =>
      have h' : n < l.length := by simpa using h
      obtain ⟨a, b, c⟩ := ih n h'
      have e : ∀ j, (recCells (r :: l))[(n + 1) * 3 + j]? = (recCells l)[n * 3 + j]? := fun j => by
        rw [show (n + 1) * 3 + j = 3 + (n * 3 + j) from by omega]
        show ([Value.string r.key, .string r.val, .bool r.dead] ++ recCells l)[3 + (n * 3 + j)]? = _
        rw [List.getElem?_append_right (by simp)]
        simp
      exact ⟨(e 0).trans a, (e 1).trans b, (e 2).trans c⟩
theorem RecsAt.src {w : World} {A : Option Addr} {rs : List Rec} (h : RecsAt w A rs) : SrcAt w A rs.length 3 (recCells rs) := by
  refine ⟨recCells_length rs, fun hn => ?_⟩
  obtain ⟨b, o, rfl, _⟩ := h.2 0 (by omega)
  refine ⟨_, rfl, fun j u hu => ?_⟩
  have hj : j < rs.length * 3 := by rw [← recCells_length]; exact (List.getElem?_eq_some_iff.1 hu).1
  obtain ⟨b', o', e, _, c1, c2, c3, _⟩ := h.2 (j / 3) (by omega)
  cases e
  obtain ⟨g1, g2, g3⟩ := recCells_get rs (j / 3) (by omega)
  rw [Addr.add_mid]
  obtain e | e | e : j = j / 3 * 3 ∨ j = j / 3 * 3 + 1 ∨ j = j / 3 * 3 + 2 := by omega
  · rw [e] at hu ⊢; rw [g1] at hu; rw [← hu]; exact c1
  · rw [e] at hu ⊢; rw [g2] at hu; rw [← hu]; exact c2
  · rw [e] at hu ⊢; rw [g3] at hu; rw [← hu]; exact c3
theorem RecsAt.of_row {w : World} {A : Option Addr} {rs : List Rec} (hn : rs.length ≤ 3518437208780) (hsz : ∀ i (h : i < rs.length), rs[i].key.size ≤ 140737488351232 ∧ rs[i].val.size ≤ 140737488351232)
    (h : rs.length ≠ 0 → ∃ g, A = some ⟨g, 0, none⟩ ∧ g < w.heap.size ∧ ∀ j u, (recCells rs)[j]? = some u → w.cell? ⟨g, j, none⟩ = some u) : RecsAt w A rs := by
  refine ⟨hn, fun i hi => ?_⟩
  obtain ⟨g, hA, hlt, hc⟩ := h (by omega)
  obtain ⟨g1, g2, g3⟩ := recCells_get rs i hi
  exact ⟨g, 0, hA, hlt, by rw [Nat.zero_add]; exact hc _ _ g1, by rw [Nat.zero_add]; exact hc _ _ g2, by rw [Nat.zero_add]; exact hc _ _ g3, hsz i hi⟩

theorem info84 : (Try.prog.info? 43).map (fun i => (i.zero, i.size, i.bytes)) = some (some (.agg #[.string ⟨#[]⟩, .string ⟨#[]⟩, .bool false]), 3, 40) := by kernel_rfl

set_option maxRecDepth 100000 in
set_option maxHeartbeats 1000000 in
theorem copied_any (k p ep s : Int) (t : Bool) (rs : List Rec) (A : Option Addr) (c : Nat) (w : World) (hc : RecsAt w A rs) :
    Calls Try.prog 23 #[.agg #[.int .i64 k, .int .i64 p, .int .i64 ep, .int .i64 s, .bool t, .slice A rs.length c]] w fun e w' => ∃ A' c', e = .returned (.agg #[.int .i64 k, .int .i64 p, .int .i64 ep, .int .i64 s, .bool t, .slice A' rs.length c']) ∧ RecsAt w' A' rs ∧ Below w.heap.size w w' := by
  obtain ⟨i0, hi0, hz0, hz1, hz2⟩ := info_parts info84
  have hone : ∀ u ∈ recCells rs, u.oneCell' = true := by
    intro u hu
    obtain ⟨r, _, hr⟩ := List.mem_flatMap.1 hu
    simp only [recV, List.mem_cons, List.not_mem_nil, or_false] at hr
    rcases hr with rfl | rfl | rfl <;> rfl
  have hbl := hc.1
  go_enter Try.func23, Try.ntmps23
  go_wp2_with (at_builtin; refine wpList_append_srcT rfl _ _ 28 rfl (w.heap.size + 1 + 1) 43 i0 _ 3 40 Try.underlying28 hi0 hz0 hz1 hz2 rfl (by omega) (.slice (some ⟨w.heap.size + 1 + 1, 0, none⟩) 0 0) 0 [] rfl ?hown A rs.length c (recCells rs) rfl ?hsrc hone ?h63 ?hby ?hbase ?nx; case' nx => intro A1 c1 w1 hown hg; have hB0 : Blk w1 w.heap.size [.int .i64 k, .int .i64 p, .int .i64 ep, .int .i64 s, .bool t, .slice A rs.length c] := Blk.grown (by (repeat' (first | (refine Blk.new' _ _ ?_; (simp; done)) | apply Blk.alloc))) hg (by simp [Value.ownBlock]; omega); have hB1 : Blk w1 (w.heap.size + 1) [.int .i64 0, .int .i64 0, .int .i64 0, .int .i64 0, .bool false, .slice none 0 0] := Blk.grown (by (repeat' (first | (refine Blk.new' _ _ ?_; (simp; done)) | apply Blk.alloc))) hg (by simp [Value.ownBlock]); have q0 := hB0.cell; have q1 := hB1.cell; have u0 := hB0.unf; have u1 := hB1.unf)
  case hown => simpa using ownsRow_empty ((w.alloc (.cells #[.int .i64 k, .int .i64 p, .int .i64 ep, .int .i64 s, .bool t, .slice A rs.length c] 30)).alloc (.cells #[.int .i64 0, .int .i64 0, .int .i64 0, .int .i64 0, .bool false, .slice none 0 0] 30)) 43 3 (w.heap.size + 1 + 1) (by simp)
  case hsrc => exact (hc.below (bl_alloc (bl_alloc (bl_alloc (Below.refl _ _) _) _) _)).src
  case h63 => simp only [maxLen]; omega
  case hby => omega
  case hbase => simp
  have hbB : Below w.heap.size w w1 := bl_gr (bl_alloc (bl_alloc (bl_alloc (Below.refl _ _) _) _) _) (g := w.heap.size + 1 + 1) (by simpa [Value.ownBlock] using hg) (by omega)
  simp only [Nat.zero_add, List.nil_append] at hown ⊢
  have hbf := bl_set (bl_set (bl_set (bl_set (bl_set (bl_set (bl_set hbB (p := ⟨w.heap.size, 5, none⟩) (by simp) (.slice A1 rs.length c1)) (p := ⟨w.heap.size + 1, 0, none⟩) (by simp) (.int .i64 k)) (p := ⟨w.heap.size + 1, 1, none⟩) (by simp) (.int .i64 p)) (p := ⟨w.heap.size + 1, 2, none⟩) (by simp) (.int .i64 ep)) (p := ⟨w.heap.size + 1, 3, none⟩) (by simp) (.int .i64 s)) (p := ⟨w.heap.size + 1, 4, none⟩) (by simp) (.bool t)) (p := ⟨w.heap.size + 1, 5, none⟩) (by simp) (.slice A1 rs.length c1)
  refine bodyPost_ret (v := .agg #[.int .i64 k, .int .i64 p, .int .i64 ep, .int .i64 s, .bool t, .slice A1 rs.length c1]) ?_ rfl ⟨A1, c1, rfl, ?_, hbf⟩
  · simp [results, Try.results11, go_sem, q1]
  · obtain ⟨A2, c2, e2, htl⟩ := ownsRow_tells hown
    cases e2
    refine RecsAt.of_row hbl (fun i hi => (hc.2 i hi).elim fun b h => h.elim fun o h => h.2.2.2.2.2) (fun hn => ?_)
    obtain ⟨g, hA, hb, hlt, hcell⟩ := htl hn
    refine ⟨g, hA, by simpa [World.setCell] using hlt, fun j u hu => ?_⟩
    have hne : ∀ (b o : Nat) (v : Value) (W : World), b < w.heap.size + 1 + 1 → (W.setCell ⟨b, o, none⟩ v).cell? ⟨g, j, none⟩ = W.cell? ⟨g, j, none⟩ := fun b o v W hb' => World.cell?_setCell_other _ _ _ _ (by intro e; injection e; omega)
    rw [hne _ _ _ _ (by omega), hne _ _ _ _ (by omega), hne _ _ _ _ (by omega), hne _ _ _ _ (by omega), hne _ _ _ _ (by omega), hne _ _ _ _ (by omega), hne _ _ _ _ (by omega)]
    exact hcell j u hu

def kRec : Rec := ⟨⟨#[107]⟩, ⟨#[]⟩, false⟩
theorem recCells_snoc (rs : List Rec) (r : Rec) : recCells (rs ++ [r]) = recCells rs ++ recV r := by simp [recCells]
theorem src_new (w : World) (cs : List Value) (t : TypeId) (m size : Nat) (h : cs.length = m * size) : SrcAt (w.alloc (.cells cs.toArray t)) (some ⟨w.heap.size, 0, none⟩) m size cs :=
  ⟨h, fun _ => ⟨_, rfl, fun j u hu => by rw [Addr.add_mid, Nat.zero_add]; exact (Blk.new' cs.toArray t rfl).get hu⟩⟩

set_option maxRecDepth 100000 in
set_option maxHeartbeats 1000000 in
theorem records_any (n : Nat) (w : World) (hn : n ≤ 1000) :
    Calls Try.prog 41 #[.int .i64 n] w fun e w' => ∃ A c, e = .returned (.slice A n c) ∧ RecsAt w' A (List.replicate n kRec) ∧ Below w.heap.size w w' := by
  obtain ⟨i0, hi0, hz0, hz1, hz2⟩ := info_parts info84
  go_enter Try.func41, Try.ntmps41
  go_wp2
  go_loopw [3, 4] (fun v i wr => ∃ (k : Nat) (A : Option Addr) (c : Nat), k ≤ n ∧ v = .slice A k c ∧ i = .int .i64 k ∧ wr.ownsRow w.heap.size 43 3 (.slice A k c) k (recCells (List.replicate k kRec)) ∧ Below w.heap.size w wr)
    (fun _ i _ => n - (intOf i).toNat)
  case atStart => exact ⟨0, none, 0, Nat.zero_le _, rfl, rfl, World.ownsRow_nil _ _ _ _, Below.refl _ _⟩
  case round =>
    obtain ⟨k, A, c, hk, rfl, rfl, hown, hB⟩ := hrel
    by_cases hlt : k < n
    · have HS := Lib.hid (show recCells (List.replicate (k + 1) kRec) = recCells (List.replicate k kRec) ++ recV kRec from by rw [List.replicate_succ', recCells_snoc])
      go_wp2_with (at_builtin; refine wpList_append_srcT rfl _ _ 28 rfl w.heap.size 43 i0 _ 3 40 Try.underlying28 hi0 hz0 hz1 hz2 rfl (by omega) (.slice A k c) k _ rfl (hown.alloc _) (some ⟨wr.heap.size, 0, none⟩) 1 1 (recV kRec) rfl (src_new wr (recV kRec) 43 1 3 rfl) ?h1 ?h63 ?hby ?hbase ?nx; case' nx => intro A1 c1 w1 hown1 hg1)
      case h1 => intro u hu; simp [recV] at hu; rcases hu with rfl | rfl | rfl <;> rfl
      case h63 => simp only [maxLen]; omega
      case hby => omega
      case hbase => have := hB.size; simp; omega
      go_roundw
      case rel =>
        refine ⟨k + 1, A1, c1, by omega, rfl, by go_num, by rw [HS.out]; exact hown1, ?_⟩
        refine hB.trans (((Below.refl _ _).alloc hB.size _).grown hg1 (by have := hB.size; simp; omega) ?_)
        intro g hg
        obtain ⟨_, ⟨h1, _⟩ | ⟨g', cap, cur, h1, h2, _⟩⟩ := hown
        · rw [h1] at hg; cases hg
        · rw [h1] at hg; simp [Value.ownBlock] at hg; omega
      case measure => simp [intOf]; omega
    · obtain rfl : k = n := by omega
      go_wp2
      go_ret
      refine ⟨A, c, rfl, ?_, hB⟩
      obtain ⟨A2, c2, e2, htl⟩ := ownsRow_tells hown
      cases e2
      refine RecsAt.of_row (by simp; omega) (fun i hi => by simp [kRec, ByteArray.size]) (fun hn => ?_)
      obtain ⟨g, hA, hb, hlt, hcell⟩ := htl (by simpa using hn)
      exact ⟨g, hA, hlt, hcell⟩
end Go.Proofs.Ytejjiiakficafaa
