/- The laws' own (18): the document's entries, as the program has them. -/
import Derived.Test.YtjpmdjjihdicdaaBo
namespace Go.Proofs.Ytjpmdjjihdicdaa
open Go.RowKit Go.Shelf
attribute [local go_sem] Oper.semAt_some

theorem EntsOwn.snoc {W : World} {base k c : Nat} {A : Option Addr} {l : List Ent} {vs : List Value} {x : Ent} {u : Value} (hl : l.length = k) (hvl : vs.length = l.length) (hrow : W.ownsRow base 56 4 (.slice A (k + 1) c) (k + 1) (entCells l vs ++ entL x u))
    (hin : ∀ i (h : i < l.length) v, vs[i]? = some v → W.ownsRow base 73 3 v l[i].last.length (dnCells l[i].last)) (hu : W.ownsRow base 73 3 u x.last.length (dnCells x.last)) : EntsOwn W base (.slice A (k + 1) c) (l ++ [x]) := by
  subst hl
  refine ⟨vs ++ [u], by simp [hvl], ?_, fun i hi v hv => ?_⟩
  · rw [entCells_snoc _ _ hvl.symm, List.length_append]
    exact hrow
  · by_cases hik : i < l.length
    · rw [List.getElem?_append_left (by omega)] at hv
      simp only [List.getElem_append_left hik]
      exact hin i hik v hv
    · obtain rfl : i = l.length := by simp at hi; omega
      rw [List.getElem?_append_right (by omega)] at hv
      simp [hvl] at hv
      subst hv
      simpa using hu
theorem EntsOwn.below {W W' : World} {base : Nat} {v : Value} {l : List Ent} (h : EntsOwn W base v l) (hb : Below W.heap.size W W') : EntsOwn W' base v l := by
  obtain ⟨vs, h1, h2, h3⟩ := h
  exact ⟨vs, h1, ownsRow_below h2 hb, fun i hi u hu => ownsRow_below (h3 i hi u hu) hb⟩
theorem keep_set {w W : World} (h : (∀ b o, b < w.heap.size → W.cell? ⟨b, o, none⟩ = w.cell? ⟨b, o, none⟩) ∧ Below w.heap.size w W) {a : Addr} (ha : w.heap.size ≤ a.block) (v : Value) :
    (∀ b o, b < w.heap.size → (W.setCell a v).cell? ⟨b, o, none⟩ = w.cell? ⟨b, o, none⟩) ∧ Below w.heap.size w (W.setCell a v) :=
  ⟨(bcell (bl_set h.2 ha v)).1, bl_set h.2 ha v⟩

set_option maxRecDepth 100000 in
set_option maxHeartbeats 2000000 in
theorem own_any (A : Option Addr) (c : Nat) (l : List Ent) (w : World) (hE : EntsAt w A l) (hl : l.length * 48 ≤ 140737488355328) (hll : ∀ x ∈ l, x.last.length * 24 ≤ 140737488355328) :
    Calls Try.prog 18 #[.slice A l.length c] w fun e w' => ∃ v, e = .returned v ∧ EntsOwn w' w.heap.size v l ∧ Below w.heap.size w w' := by
  obtain ⟨i5, hi5, hz5, hs5, hb5⟩ := info_parts info56
  obtain ⟨i7, hi7, hz7, hs7, hb7⟩ := info_parts info73
  go_enter Try.func18, Try.ntmps18
  go_wp2_with fail
  go_loopw [3, 4] (fun v u wr => ∃ i : Nat, i ≤ l.length ∧ u = .int .i64 i ∧ EntsOwn wr w.heap.size v (l.take i) ∧ Below w.heap.size w wr) (fun _ u _ => l.length - (intOf u).toNat)
  case atStart => exact ⟨0, Nat.zero_le _, rfl, ⟨[], rfl, World.ownsRow_nil _ _ _ _, fun i hi => by simp at hi⟩, Below.refl _ _⟩
  case round =>
    obtain ⟨i, hi, rfl, hO, hb⟩ := hrel
    have hi0 : (0 : Int) ≤ (i : Int) := by omega
    obtain ⟨A3, c3, rfl⟩ := hO.slice
    by_cases hlt : i < l.length
    · obtain ⟨b, oo, A', c', rfl, hbl, p0, p1, p2, p3, hD⟩ := (hE.below hb) i hlt
      have hx := hll l[i] (List.getElem_mem _)
      have hTk := Lib.hid (show l.take (i + 1) = l.take i ++ [l[i]] from List.take_succ_eq_append_getElem hlt)
      have hEl : (l.take i).length = i := by simp; omega
      generalize l[i] = x at *
      obtain ⟨xp, xe, xn, xl⟩ := x
      dsimp only at p0 p1 p2 p3 hD hx
      generalize l.take i = li at *
      subst hEl
      replace hD := Lib.hid hD
      go_wp2_with fail
      go_region_held3 (fun w' => (∀ b o, b < wr.heap.size → w'.cell? ⟨b, o, none⟩ = wr.cell? ⟨b, o, none⟩) ∧ Below wr.heap.size wr w')
        (first | exact keep_here wr | exact keep_drew wr | exact keep_ad wr _ | exact keep_step ‹_› ‹_› | exact keep_alloc ‹_› _ | (refine keep_set ‹_› ?_ _; simp; done))
        (fail)
      have hBX : Blk (wr.alloc (.cells #[.int .i64 xp, .int .i64 xe, .int .i64 xn, .slice none 0 0] 56)).drew wr.heap.size [.int .i64 xp, .int .i64 xe, .int .i64 xn, .slice none 0 0] := (Blk.new' _ _ rfl).drew
      have hbX : Below wr.heap.size wr (wr.alloc (.cells #[.int .i64 xp, .int .i64 xe, .int .i64 xn, .slice none 0 0] 56)).drew := bl_drew (bl_alloc (Below.refl _ _) _)
      generalize (wr.alloc (.cells #[.int .i64 xp, .int .i64 xe, .int .i64 xn, .slice none 0 0] 56)).drew = W at *
      obtain ⟨wo, rfl⟩ : ∃ wo : World, wo = wr := ⟨_, rfl⟩
      have hzo : w.heap.size ≤ wo.heap.size := hb.size
      go_wp2_with fail
      go_loopw [6] (fun u wr => ∃ (k : Nat) (A1 : Option Addr) (c1 : Nat), k ≤ xl.length ∧ u = .int .i64 k ∧ Blk wr wo.heap.size [.int .i64 xp, .int .i64 xe, .int .i64 xn, .slice A1 k c1] ∧ wr.ownsRow (wo.heap.size + 1) 73 3 (.slice A1 k c1) k (dnCells (xl.take k)) ∧ Below wo.heap.size wo wr) (fun u _ => xl.length - (intOf u).toNat)
      case atStart => exact ⟨0, none, 0, Nat.zero_le _, rfl, hBX, World.ownsRow_nil _ _ _ _, hbX⟩
      case round =>
        obtain ⟨k, A1, c1, hk, rfl, hBr, hrow, hbr⟩ := hrel
        clear hBX hbX
        have q3 : wr.cell? ⟨b, oo + li.length * 4 + 3, none⟩ = some (.slice A' xl.length c') := (hbr.cell (p := ⟨b, _, none⟩) hbl).trans p3
        have hblr : b < wr.heap.size := Nat.lt_of_lt_of_le hbl hbr.size
        by_cases hkl : k < xl.length
        · obtain ⟨b7, o7, rfl, hb7l, d1, d2, d3⟩ := (hD.out.below hbr) k hkl
          have hk0 : (0 : Int) ≤ (k : Int) := by omega
          have hTd := Lib.hid (show dnCells (xl.take (k + 1)) = dnCells (xl.take k) ++ dnL xl[k] from by rw [List.take_succ_eq_append_getElem hkl, dnCells_snoc])
          generalize xl[k] = d at *
          obtain ⟨ds, dl, dof⟩ := d
          dsimp only at d1 d2 d3
          have qX := hBr.cell
          have lX := hBr.lt
          have uX := hBr.unf
          have hrowb := Lib.hid (fun g (e : (Value.slice A1 k c1).ownBlock = some g) => ownsRow_base hrow e)
          have hbs := hbr.size
          go_wp2_with (at_builtin; refine wpList_append_srcT rfl _ _ 54 rfl (wo.heap.size + 1) 73 i7 _ 3 24 Try.underlying54 hi7 hz7 hs7 hb7 rfl (by omega) (.slice A1 k c1) k _ rfl ((hrow.alloc _).alloc _) (some ⟨wr.heap.size + 1, 0, none⟩) 1 1 (dnL ⟨ds, dl, dof⟩) rfl ?hsrc ?hone ?h63 ?hby ?hbase ?nx; case' nx => intro A4 c4 w4 hown4 hg4; have hB4 := ((hBr.alloc (.cells #[.int .i64 ds, .int .i64 dl, .int .i64 dof] 93)).alloc (.cells #[.int .i64 ds, .int .i64 dl, .int .i64 dof] 73)).grown hg4 (by intro e; have := hrowb.out _ e.symm; omega); have q4 := hB4.cell; have u4 := hB4.unf; have l4 := hB4.lt)
          case hsrc =>
            have h := src_new (wr.alloc (.cells #[.int .i64 ds, .int .i64 dl, .int .i64 dof] 93)) (dnL ⟨ds, dl, dof⟩) 73 1 3 rfl
            simp only [sz_alloc] at h
            exact h
          case hone => intro u hu; simp [dnL] at hu; rcases hu with rfl | rfl | rfl <;> rfl
          case h63 => simp only [maxLen]; omega
          case hby => omega
          case hbase => simp; omega
          have hb4 : Below wo.heap.size wo w4 := (bl_alloc (bl_alloc hbr _) _).grown hg4 (by simp; omega) (fun g e => by have := hrowb.out g e; omega)
          go_roundw
          case rel => exact ⟨k + 1, A4, c4, by omega, by go_num, by simpa using hB4.set_same 3 (.slice A4 (k + 1) c4), by rw [hTd.out]; exact ownsRow_setCell_below hown4 (by dsimp only; omega) _, bl_set hb4 (by simp) _⟩
          case measure => simp [intOf]; omega
        · obtain rfl : k = xl.length := by omega
          rw [List.take_length] at hrow
          have qX := hBr.cell
          have lX := hBr.lt
          have hO2 := hO.below hbr
          obtain ⟨vs, hvl, hrw, hin⟩ := hO2
          have hrwb := Lib.hid (fun g (e : (Value.slice A3 li.length c3).ownBlock = some g) => ownsRow_base hrw e)
          have hin' := Lib.hid hin
          clear hin
          have hbs := hbr.size
          go_wp2_with (at_builtin; refine wpList_append_srcT rfl _ _ 52 rfl w.heap.size 56 i5 _ 4 48 Try.underlying52 hi5 hz5 hs5 hb5 rfl (by omega) (.slice A3 li.length c3) li.length _ rfl (hrw.alloc _) (some ⟨wr.heap.size, 0, none⟩) 1 1 (entL ⟨xp, xe, xn, xl⟩ (.slice A1 xl.length c1)) rfl ?hsrc2 ?hone2 ?h632 ?hby2 ?hbase2 ?nx2; case' nx2 => intro A4 c4 w4 hown4 hg4)
          case hsrc2 => exact src_new wr (entL ⟨xp, xe, xn, xl⟩ (.slice A1 xl.length c1)) 56 1 4 rfl
          case hone2 => intro u hu; simp [entL] at hu; rcases hu with rfl | rfl | rfl | rfl <;> rfl
          case h632 => simp only [maxLen]; omega
          case hby2 => omega
          case hbase2 => simp; omega
          have hb4 : Below w.heap.size w w4 := (bl_alloc (bl_tr hb hbr) _).grown hg4 (by simp; omega) (fun g e => hrwb.out g e)
          have up : ∀ {v n xs}, wr.ownsRow w.heap.size 73 3 v n xs → w4.ownsRow w.heap.size 73 3 v n xs := fun h => ownsRow_type (h.alloc _) (hrw.alloc _) (by decide) hg4
          have hrow2 := up (ownsRow_le hrow (base' := w.heap.size) (by omega))
          go_roundw
          case rel => exact ⟨li.length + 1, by omega, by go_num, by rw [hTk.out]; exact EntsOwn.snoc rfl hvl hown4 (fun i h v hv => up (hin'.out i h v hv)) hrow2, hb4⟩
          case measure => simp [intOf]; omega
    · obtain rfl : i = l.length := by omega
      simp only [List.take_length] at hO ⊢
      go_wp2_with fail
      go_ret
      exact ⟨_, rfl, hO, hb⟩
end Go.Proofs.Ytjpmdjjihdicdaa
