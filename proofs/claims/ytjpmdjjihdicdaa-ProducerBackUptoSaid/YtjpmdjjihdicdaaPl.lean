/- The program's Load (19): entries as a table. -/
import Derived.Test.YtjpmdjjihdicdaaLw
import Derived.Test.YtjpmdjjihdicdaaRt
import Derived.Test.YtjpmdjjihdicdaaOnce
namespace Go.Proofs.Ytjpmdjjihdicdaa
open Go.RowKit Go.Shelf
attribute [local go_sem] Oper.semAt_some

def EntOk (x : Ent) : Prop := (okI x.p ∧ okI x.ep ∧ okI x.nx) ∧ x.last.length ≤ 140737488351232 ∧ ∀ d ∈ x.last, okI d.seq ∧ okI d.len ∧ okI d.off

/-- What Load tells. -/
def Loaded (w : World) (l : List Ent) (e : Ending) (w' : World) : Prop :=
  Below w.heap.size w w' ∧ ((goodL l = false ∧ e = .returned (.tuple #[.pointer none, .int .i64 1])) ∨
    (goodL l = true ∧ ∃ tb mb, e = .returned (.tuple #[.pointer (some ⟨tb, 0, none⟩), .int .i64 0]) ∧ Blk w' tb [.map (some mb)] ∧ IM Try.prog 3 w' mb l.length stV (loadM l) ∧ w.heap.size ≤ tb ∧ w.heap.size ≤ mb ∧ mb < w'.heap.size))

set_option maxRecDepth 100000 in
set_option maxHeartbeats 4000000 in
theorem pload_any (A : Option Addr) (c : Nat) (l : List Ent) (w : World) (hE : EntsAt w A l) (hf : ∀ x ∈ l, EntOk x) (hl : l.length ≤ 2932031007402) :
    Calls Try.prog 19 #[.slice A l.length c] w (Loaded w l) := by
  obtain ⟨hT, hM⟩ := table_new w
  have hb0 : Below w.heap.size w ((w.alloc (.map #[] 0)).alloc (.cells #[.map (some w.heap.size)] 65)) := bl_alloc (bl_alloc (Below.refl _ _) _) _
  go_enter Try.func19, Try.ntmps19
  go_wp2_with (go_at_call 9; refine (new_any _).mono ?_; rintro e w' ⟨rfl, rfl⟩)
  go_loopw [5, 14] (fun q u wr => ∃ (i : Nat) (lq : Int), i ≤ l.length ∧ u = .int .i64 i ∧ q = .int .i64 lq ∧ okI lq ∧ Hid (goodL l = goodFrom lq (l.drop i)) ∧ Hid (∀ y ∈ l.take i, y.p ≤ lq) ∧ Blk wr (w.heap.size + 1) [.map (some w.heap.size)] ∧
      IM Try.prog 3 wr w.heap.size i stV (loadM (l.take i)) ∧ Below w.heap.size w wr)
    (fun _ u _ => l.length - (intOf u).toNat)
  case atStart => exact ⟨0, -1, Nat.zero_le _, rfl, rfl, by unfold okI; omega, Lib.hid rfl, Lib.hid (by simp), hT, hM, hb0⟩
  case round =>
    obtain ⟨i, lq, hi, rfl, rfl, hlq, hg, hq, hTr, hMr, hbr⟩ := hrel
    clear hT hM hb0
    have hi0 : (0 : Int) ≤ (i : Int) := by omega
    by_cases hlt : i < l.length
    · obtain ⟨b, oo, A', c', rfl, hbl, p0, p1, p2, p3, hD⟩ := (hE.below hbr) i hlt
      obtain ⟨⟨f1, f2, f3⟩, f4, f5⟩ := hf l[i] (List.getElem_mem _)
      have hdr := Lib.hid (fun q => @goodFrom_drop l q i hlt)
      have hTk := Lib.hid (show l.take (i + 1) = l.take i ++ [l[i]] from List.take_succ_eq_append_getElem hlt)
      generalize l[i] = x at *
      obtain ⟨xp, xe, xn, xl⟩ := x
      dsimp only at p0 p1 p2 p3 hD f1 f2 f3 f4 f5
      have hXl := Lib.hid f5
      clear f5
      go_wp2_with fail
      refine (right_any ⟨xp, xe, xn, xl⟩ A' c' _ (hD.below (bl_alloc (Below.refl _ _) _)) ⟨f1, f2, f3⟩ f4 hXl.out).mono ?_
      rintro e w2 ⟨rfl, hb2⟩
      have hX2 : Blk w2 wr.heap.size [.int .i64 xp, .int .i64 xe, .int .i64 xn, .slice A' xl.length c'] := (Blk.new' (w := wr) #[.int .i64 xp, .int .i64 xe, .int .i64 xn, .slice A' xl.length c'] 56 rfl).below hb2 (by simp)
      have hz2 : w.heap.size + 1 < wr.heap.size := hTr.lt
      have hbw : Below wr.heap.size wr w2 := bl_tr (bl_alloc (Below.refl _ _) _) hb2
      replace hbr := bl_tr hbr hbw
      replace hTr := hTr.below hbw hTr.lt
      replace hMr := hMr.below hbw hMr.lt
      replace hD := hD.below hbw
      clear hb2 hbl p0 p1 p2 p3 hbw
      have q2 := hX2.cell
      have l2 := hX2.lt
      obtain ⟨rr, hrr⟩ : ∃ rr, rightE ⟨xp, xe, xn, xl⟩ = rr := ⟨_, rfl⟩
      have HR := Lib.hid hrr
      rw [hrr]
      clear hrr
      cases rr
      · go_wp2_with fail
        go_ret2
        exact ⟨hbr, .inl ⟨by rw [hg.out, hdr.out, HR.out]; rfl, rfl⟩⟩
      · by_cases hle : xp ≤ lq
        · go_wp2_with fail
          go_ret2
          exact ⟨hbr, .inl ⟨by rw [hg.out, hdr.out, HR.out, show decide (lq < xp) = false from by simp; omega]; rfl, rfl⟩⟩
        · have hlq2 : lq < xp := by omega
          clear hle
          have hz : Blk (w2.alloc (.cells #[.int .i64 0, .int .i64 0, .int .i64 0, .int .i64 0, .int .i64 0, .int .i64 0, .int .i64 0, .int .i64 0, .int .i64 0, .int .i64 0, .int .i64 0, .int .i64 0, .int .i64 0, .int .i64 0, .int .i64 0, .int .i64 0, .int .i64 0, .int .i64 0] 76)) w2.heap.size (stCells st0) := Blk.new' _ _ rfl
          go_wp2_with (refine wpList_store_blk rfl 76 _ _ rfl w2.heap.size (stCells st0) (stCells ⟨xe, xn, []⟩) rfl rfl hz rfl size76 ?hone ?nx; case' nx => intro w3 hS3 hg3 hz3; have hX3 := (hX2.alloc (.cells #[.int .i64 0, .int .i64 0, .int .i64 0, .int .i64 0, .int .i64 0, .int .i64 0, .int .i64 0, .int .i64 0, .int .i64 0, .int .i64 0, .int .i64 0, .int .i64 0, .int .i64 0, .int .i64 0, .int .i64 0, .int .i64 0, .int .i64 0, .int .i64 0] 76)).grown hg3 (by simp; omega); have q3 := hX3.cell; clear q2)
          case hone => simp [stCells, Value.oneCell']
          have hb3 : Below w2.heap.size w2 w3 := bl_gr (bl_alloc (Below.refl _ _) _) hg3 (Nat.le_refl _)
          clear hz hg3 hz3 hX3 q3
          obtain ⟨wo, rfl⟩ : ∃ wo : World, wo = wr := ⟨_, rfl⟩
          go_loopw [37] (fun u wr => ∃ k : Nat, k ≤ xl.length ∧ u = .int .i64 k ∧ Blk wr w2.heap.size (stCells ⟨xe, xn, xl.take k⟩) ∧ Below w2.heap.size w2 wr) (fun u _ => xl.length - (intOf u).toNat)
          case atStart => exact ⟨0, Nat.zero_le _, rfl, hS3, hb3⟩
          case round =>
            obtain ⟨k, hk, rfl, hSr, hb4⟩ := hrel
            clear hS3 hb3
            by_cases hkl : k < xl.length
            · obtain ⟨b7, o7, rfl, hb7l, d1, d2, d3⟩ := (hD.below hb4) k hkl
              have hk0 : (0 : Int) ≤ (k : Int) := by omega
              have hTd := Lib.hid (show xl.take (k + 1) = xl.take k ++ [xl[k]] from List.take_succ_eq_append_getElem hkl)
              generalize xl[k] = d at *
              have hlen : (xl.take k).length ≤ 4611686018427387904 := by simp; omega
              go_wp2_with fail
              refine (put_any ⟨xe, xn, xl.take k⟩ d w2.heap.size _ (hSr.alloc _) hlen).mono ?_
              rintro e w5 ⟨rfl, hS5, hg5⟩
              dsimp only at hS5
              have hb5 : Below w2.heap.size w2 w5 := bl_gr (bl_alloc hb4 _) hg5 (Nat.le_refl _)
              go_wp2_with fail
              go_roundw
              case rel => exact ⟨k + 1, by omega, by go_num, by rw [hTd.out]; exact hS5, hb5⟩
              case measure => simp [intOf]; omega
            · obtain rfl : k = xl.length := by omega
              simp only [List.take_length] at hSr
              replace hX2 := hX2.below hb4 hX2.lt
              replace hTr := hTr.below hb4 hTr.lt
              replace hMr := hMr.below hb4 hMr.lt
              replace hbr := bl_tr hbr hb4
              have t0 := (hTr.drew).get (j := 0) rfl
              have t1 := (hX2.drew).get (j := 0) rfl
              have u0 := (hTr.drew).lt
              go_wp2_with fail
              go_still_tail 7, (by kernel_rfl)
              refine wpStill_load_blk rfl 76 _ rfl w2.heap.size (stCells ⟨xe, xn, xl⟩) rfl (hSr.drew) _ Try.underlying76 rfl size76 ?_
              repeat still_step
              try refine wpStill_nil ?_
              change wpList _ _ _ _ _ (wr.drew)
              have hSn := Lib.hid (show putI (loadM (l.take i)) xp (⟨xe, xn, xl⟩ : St) = loadM (l.take (i + 1)) from by rw [hTk.out]; exact loadM_snoc _ ⟨xp, xe, xn, xl⟩ lq hq.out hlq2)
              go_wp2_with (refine wpList_mapUpdate_im rfl _ _ _ 63 rfl Try.underlying3 Try.underlying63 w.heap.size i rfl (hMr.drew) (by simp only [maxLen]; omega) xp rfl f1 (⟨xe, xn, xl⟩ : St) rfl ?_; intro w5 hM5 hg5)
              have hT5 := hTr.drew.grown hg5 (by simp)
              have hb5 : Below w.heap.size w w5 := bl_gr (bl_drew hbr) hg5 (Nat.le_refl _)
              rw [hSn.out] at hM5
              go_roundw
              case rel =>
                refine ⟨i + 1, xp, by omega, by go_num, rfl, f1, Lib.hid ?_, Lib.hid ?_, hT5, hM5, hb5⟩
                · rw [hg.out, hdr.out, HR.out]; simp [hlq2]
                · rw [hTk.out]
                  intro y hy
                  rcases List.mem_append.1 hy with hy | hy
                  · have := hq.out y hy; omega
                  · rw [List.mem_singleton.1 hy]; exact Int.le_refl _
              case measure => simp [intOf]; omega
    · obtain rfl : i = l.length := by omega
      simp only [List.take_length, List.drop_length] at hMr hg
      go_wp2_with fail
      go_ret2
      exact ⟨hbr, .inr ⟨hg.out, _, _, rfl, hTr, hMr, by omega, Nat.le_refl _, hMr.lt⟩⟩
end Go.Proofs.Ytjpmdjjihdicdaa
