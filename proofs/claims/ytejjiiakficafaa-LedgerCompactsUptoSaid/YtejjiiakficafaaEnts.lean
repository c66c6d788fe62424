/- producer.Table.Entries: all that is known, in new slices. -/
import Derived.Test.YtejjiiakficafaaKeys
import Derived.Test.YtejjiiakficafaaColl
import Derived.Test.YtejjiiakficafaaLa
import Derived.Test.YtejjiiakficafaaFM
import Derived.Deep.AppendLies
namespace Go.Proofs.Ytejjiiakficafaa
open Go.RowKit Go.Shelf
attribute [local go_sem] Oper.semAt_some

/-- What is told of a producer. -/
structure Ent where
  p : Int
  ep : Int
  nx : Int
  last : List Dn
deriving Inhabited

def entOf (x : Int × St) : Ent := ⟨x.1, x.2.epoch, x.2.next, lasts x.2.ds⟩
def entL (x : Ent) (v : Value) : List Value := [.int .i64 x.p, .int .i64 x.ep, .int .i64 x.nx, v]
def entCells : List Ent → List Value → List Value
  | x :: l, v :: vs => entL x v ++ entCells l vs
  | _, _ => []
theorem entCells_snoc : ∀ (l : List Ent) (vs : List Value), l.length = vs.length → ∀ x v, entCells (l ++ [x]) (vs ++ [v]) = entCells l vs ++ entL x v
  | [], [], _, x, v => by simp [entCells]
  | a :: l, b :: vs, h, x, v => by simp [entCells, entCells_snoc l vs (by simpa using h)]

/-- w has, in slices of the call's own, the entries l. -/
def EntsOwn (w : World) (base : Nat) (v : Value) (l : List Ent) : Prop :=
  ∃ vs : List Value, vs.length = l.length ∧ w.ownsRow base 105 4 v l.length (entCells l vs) ∧
    ∀ i (h : i < l.length) u, vs[i]? = some u → w.ownsRow base 92 3 u l[i].last.length (dnCells l[i].last)

theorem info56 : (Try.prog.info? 105).map (fun i => (i.zero, i.size, i.bytes)) = some (some (.agg #[.int .i64 0, .int .i64 0, .int .i64 0, .slice none 0 0]), 4, 48) := by kernel_rfl


theorem lookI_mem {α : Type} : ∀ {m : List (Int × α)}, (m.Pairwise fun p q => p.1 < q.1) → ∀ {x}, x ∈ m → lookI m x.1 = some x.2
  | y :: l, hs, x, hx => by
    obtain ⟨h1, h2⟩ := List.pairwise_cons.1 hs
    rcases List.mem_cons.1 hx with rfl | hx
    · simp [lookI]
    · have := h1 x hx
      have hne : ¬ y.1 = x.1 := by omega
      have ih := lookI_mem h2 hx
      unfold lookI at ih ⊢
      rw [List.find?_cons_of_neg (by simpa using hne)]
      exact ih



def ERel (w : World) (tb mb nn : Nat) (m : List (Int × St)) (sv : Value) (k : Nat) (v : Value) (W : World) : Prop :=
  Blk W tb [.map (some mb)] ∧ IM Try.prog 3 W mb nn stV m ∧ W.ownsRow w.heap.size 3 1 sv m.length (m.map fun p => .int .i64 p.1) ∧ EntsOwn W w.heap.size v ((m.take k).map entOf) ∧ Below w.heap.size w W

set_option maxRecDepth 100000 in
set_option maxHeartbeats 2000000 in
theorem entries_any (tb mb nn : Nat) (m : List (Int × St)) (w : World) (hT : Blk w tb [.map (some mb)]) (hM : IM Try.prog 3 w mb nn stV m) (hn : nn * 48 ≤ 140737488355328) (hp : ∀ x ∈ m, okI x.1) (hds : ∀ x ∈ m, x.2.ds.length ≤ 4611686018427387904) :
    Calls Try.prog 49 #[.pointer (some ⟨tb, 0, none⟩)] w fun e w' => ∃ v, e = .returned v ∧ EntsOwn w' w.heap.size v (m.map entOf) ∧ Below w.heap.size w w' := by
  have hq := hT.cell
  have hml := hM.length_le
  have htl := hT.lt
  have hMl := hM.lt
  obtain ⟨i0, hi0, hz0, hz1, hz2⟩ := info_parts info56
  go_enter Try.func49, Try.ntmps49
  go_wp2_with (first | (go_at_call 44; refine (none_tab tb mb _ hT).mono ?_; rintro e w' ⟨rfl, rfl⟩) | (go_at_call 67; refine (keys_any _ _).mono ?_; rintro e w' ⟨rfl, rfl⟩))
  refine (sorted_any w.heap.size mb nn m _ (Blk.new' _ _ rfl) (hM.alloc _) (by omega)).mono ?_
  rintro e w1 ⟨A, c, rfl, hrow, hb⟩
  have hrow1 : w1.ownsRow w.heap.size 3 1 (.slice A m.length c) m.length (m.map fun p => .int .i64 p.1) := by
    obtain ⟨h1, h2 | ⟨g, cap, cur, h2, h3, r⟩⟩ := hrow
    · exact ⟨h1, .inl h2⟩
    · exact ⟨h1, .inr ⟨g, cap, cur, h2, by simp at h3; omega, r⟩⟩
  have hT1 := (hT.alloc _).below hb (hT.alloc _).lt
  have hM1 := (hM.alloc _).below hb (hM.alloc _).lt
  have hb1 := bl_tr (bl_alloc (Below.refl _ _) _) hb
  clear hb hrow hT hM hq
  go_wp2_with fail
  go_loopw [3, 16] (fun v u wr => ∃ k : Nat, k ≤ m.length ∧ u = .int .i64 k ∧ ERel w tb mb nn m (.slice A m.length c) k v wr) (fun _ u _ => m.length - (intOf u).toNat)
  case atStart => exact ⟨0, Nat.zero_le _, rfl, hT1, hM1, hrow1, ⟨[], rfl, World.ownsRow_nil _ _ _ _, fun i hi => by simp at hi⟩, hb1⟩
  case round =>
    obtain ⟨k, hk, rfl, hT2, hM2, hR2, hE2, hb2⟩ := hrel
    clear hT1 hM1 hrow1 hb1
    by_cases hlt : k < m.length
    · obtain ⟨A2, c2, e2, htl2⟩ := ownsRow_tells hR2
      obtain ⟨g, hA, hgb, hgl, hcell⟩ := htl2 (by omega)
      cases e2
      subst hA
      have hck : wr.cell? ⟨g, k, none⟩ = some (.int .i64 m[k].1) := hcell k _ (by simp [hlt])
      clear hcell htl2
      have hpk := hp m[k] (List.getElem_mem _)
      have hdk := hds m[k] (List.getElem_mem _)
      have hlkk : lookI m m[k].1 = some m[k].2 := lookI_mem (hM2.sorted Try.underlying3) (List.getElem_mem _)
      have hTk : (m.take (k + 1)).map entOf = (m.take k).map entOf ++ [entOf m[k]] := by rw [List.take_succ_eq_append_getElem hlt, List.map_append]; rfl
      replace hTk := Lib.hid hTk
      obtain ⟨vs, hvl, hrw, hin⟩ := hE2
      obtain ⟨A3, c3, e3, _⟩ := ownsRow_tells hrw
      subst e3
      generalize hx : m[k] = x at hck hpk hdk hlkk hTk
      obtain ⟨xp, st⟩ := x
      dsimp only at hck hpk hdk hlkk
      have q0 := hT2.cell
      replace hlkk := Lib.hid hlkk
      clear hx
      have hvs : stV ((lookI m xp).getD st0) = stV st := by rw [hlkk.out]; rfl
      have hz : Blk (wr.alloc (.cells #[.int .i64 0, .int .i64 0, .int .i64 0, .int .i64 0, .int .i64 0, .int .i64 0, .int .i64 0, .int .i64 0, .int .i64 0, .int .i64 0, .int .i64 0, .int .i64 0, .int .i64 0, .int .i64 0, .int .i64 0, .int .i64 0, .int .i64 0, .int .i64 0] 95)) wr.heap.size (stCells st0) := Blk.new' _ _ rfl
      go_wp2_with (first | (refine wpList_lookup_im rfl _ _ 86 rfl Try.underlying3 Try.underlying86 (z := st0) (enc := stV) zero76 mb nn rfl hM2 xp rfl hpk ?_; rw [hvs]) | (refine wpList_store_blk rfl 95 _ _ rfl wr.heap.size (stCells st0) (stCells st) rfl rfl hz rfl size76 ?hone ?nx; case' nx => intro w2 hS2 hg2 hz2))
      case hone => simp [stCells, Value.oneCell']
      have hz2' : w2.heap.size = wr.heap.size + 1 := by rw [hz2]; simp
      replace hT2 := (hT2.alloc _).grown hg2 (by have := hT2.lt; simp; omega)
      replace hM2 := (hM2.alloc _).grown hg2 (by have := hM2.lt; simp; omega)
      have hrs := ownsRow_new hrw hg2
      have hR3 := ownsRow_new hR2 hg2
      have hin3 : ∀ i (h : i < ((m.take k).map entOf).length) u, vs[i]? = some u → w2.ownsRow w.heap.size 92 3 u ((m.take k).map entOf)[i].last.length (dnCells ((m.take k).map entOf)[i].last) := fun i h u hu => ownsRow_new (hin i h u hu) hg2
      replace hin3 := Lib.hid hin3
      have hne : some wr.heap.size ≠ (Value.slice A3 ((m.take k).map entOf).length c3).ownBlock := by intro e; have := ownsRow_lt hrw e.symm; omega
      have hb3 := bl_gr (bl_alloc hb2 _) hg2 hb2.size
      have hlw : wr.heap.size < w2.heap.size := by omega
      replace hz2' := Lib.hid hz2'
      have hTl := hT2.lt
      have hMl2 := hM2.lt
      clear hz hz2 hg2 hck q0 hrw hR2 hb2 hin
      have sq := hS2.cell
      simp only [stCells] at sq
      clear hvs
      replace hT2 := Lib.hid hT2
      replace hM2 := Lib.hid hM2
      have hEl : ((m.take k).map entOf).length = k := by simp; omega
      rw [hEl] at hrs hvl hne
      go_region_held3 (fun w' => (∀ j, w'.cell? ⟨wr.heap.size, j, none⟩ = w2.cell? ⟨wr.heap.size, j, none⟩) ∧ wr.heap.size < w'.heap.size)
        (first | exact ⟨fun _ => rfl, hlw⟩ | exact ks_alloc ‹_› _ | exact ks_below ‹_› ‹_› | exact ks_grown ‹_› ‹_› hne)
        ((first | (go_at_call 45; refine (lasts_any st _).mono ?_; rintro e w' ⟨rfl, rfl⟩) | (go_at_call 68; refine (collect_any w2.heap.size st _ (Blk.drew (Blk.new w2 (stCells st).toArray 95)) hdk).mono ?_; rintro e w4 ⟨A4, c4, rfl, hrow4, hb4⟩) | (refine step_append_lies _ rfl _ _ 106 rfl w.heap.size 105 i0 _ 4 48 Try.underlying106 hi0 hz0 hz1 hz2 rfl (by omega) (.slice A3 k c3) k _ rfl (((ownsRow_below ((hrs.alloc _).drew) hb4).alloc _)) ⟨w4.heap.size, 0, none⟩ 1 1 (entL (entOf (xp, st)) (.slice A4 (lasts st.ds).length c4)) rfl rfl (World.news_of_block (World.alloc_heap_new w4 _)) (by intro u hu; simp [entL] at hu; rcases hu with rfl | rfl | rfl | rfl <;> rfl) (by omega) (by simp only [maxLen]; omega) (by omega) (by have := hb4.size; have := hb3.size; simp at *; omega) _ rfl ?_; intro g5 cap5 w5 hown5 hg5 hat5 hlt5)))
      have hgb5 : ∀ b, (Value.slice A3 k c3).ownBlock = some b → w.heap.size ≤ b := fun b e => ownsRow_base hrs e
      have up : ∀ {e size v n xs}, w2.ownsRow w.heap.size e size v n xs → e ≠ 105 → w5.ownsRow w.heap.size e size v n xs := fun h he =>
        ownsRow_type ((ownsRow_below ((h.alloc _).drew) hb4).alloc _) ((ownsRow_below ((hrs.alloc _).drew) hb4).alloc _) he hg5
      have hb5 : Below w.heap.size w w5 := (bl_alloc (bl_tr (bl_drew (bl_alloc hb3 _)) hb4) _).grown hg5 (by have := hb4.size; have := hb3.size; simp at *; omega) hgb5
      have hT5 : Blk w5 tb [.map (some mb)] := ((((hT2.out.alloc _).drew).below hb4 (by simp; omega)).alloc _).grown hg5 (by intro e; have := hgb5 _ e.symm; omega)
      have hM5 : IM Try.prog 3 w5 mb nn stV m := ((((hM2.out.alloc _).drew).below hb4 (by simp; omega)).alloc _).grown hg5 (by intro e; have := hgb5 _ e.symm; omega)
      have hrow5 : w5.ownsRow w.heap.size 92 3 (.slice A4 (lasts st.ds).length c4) (lasts st.ds).length (dnCells (lasts st.ds)) :=
        ownsRow_type ((ownsRow_le hrow4 (by have := hb3.size; simp; omega)).alloc _) ((ownsRow_below ((hrs.alloc _).drew) hb4).alloc _) (by decide) hg5
      go_wp2_with fail
      go_roundw
      case rel =>
        refine ⟨k + 1, by omega, by go_num, hT5, hM5, up hR3 (by decide), ⟨vs ++ [.slice A4 (lasts st.ds).length c4], ?_, ?_, ?_⟩, hb5⟩
        · rw [hTk.out]; simp [hvl]; omega
        · rw [hTk.out, entCells_snoc _ _ (by rw [hEl, hvl]), List.length_append, hEl]
          exact hown5
        · intro i hi u hu
          have hTT := hTk.out
          generalize (m.take (k + 1)).map entOf = L at hi hTT ⊢
          subst hTT
          rw [List.length_append, hEl] at hi
          by_cases hik : i < k
          · rw [List.getElem?_append_left (by omega)] at hu
            simp only [List.getElem_append_left (show i < ((m.take k).map entOf).length by omega)]
            exact up (hin3.out i (by omega) u hu) (by decide)
          · obtain rfl : i = k := by simp at hi; omega
            rw [List.getElem?_append_right (by omega)] at hu
            simp [hvl] at hu
            subst hu
            simp only [List.getElem_append_right (show ((m.take i).map entOf).length ≤ i by omega), hEl]
            simpa [entOf] using hrow5
      case measure => simp [intOf]; omega
    · obtain rfl : k = m.length := by omega
      go_wp2
      go_ret
      refine ⟨_, rfl, ?_, hb2⟩
      rw [List.take_length] at hE2
      exact hE2
end Go.Proofs.Ytejjiiakficafaa
