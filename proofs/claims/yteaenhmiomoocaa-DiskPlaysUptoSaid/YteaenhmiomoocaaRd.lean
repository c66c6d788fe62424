/- disk: Full (of the law), New, Read. -/
import Derived.Test.YteaenhmiomoocaaWr
import Derived.Deep.OwnRows
namespace Go.Proofs.Yteaenhmiomoocaa
open Go.RowKit Go.Shelf Go.Maps
attribute [local go_sem] Oper.semAt_some

theorem zero58 : ∃ i : TypeInfo, ∃ z : Value, Try.prog.info? 58 = some i ∧ i.size = 256 ∧ i.bytes = 256 ∧ i.zero = some z ∧ z.cells = (tC zeroT).toArray := by
  have h : (Try.prog.info? 58).map (fun i => (i.size, i.bytes, i.zero.map (·.cells))) = some (256, 256, some (tC zeroT).toArray) := by kernel_rfl
  obtain ⟨i, hi, e⟩ := Option.map_eq_some_iff.1 h
  simp only [Prod.mk.injEq] at e
  obtain ⟨z, hz, e3⟩ := Option.map_eq_some_iff.1 e.2.2
  exact ⟨i, z, hi, e.1, e.2.1, hz, e3⟩
theorem alloc58 (w : World) : (Instr.alloc 58 true (.tuple #[])).run Try.prog w = .ok (.pointer (some ⟨w.heap.size, 0, none⟩)) (w.alloc (.cells (tC zeroT).toArray 58)) := by
  obtain ⟨i, z, hi, _, _, hz, hc⟩ := zero58
  simp [Instr.alloc, zeroValue, typeInfo, hi, hz, newVar, newRow, hc]
theorem info5 : (Try.prog.info? 5).map (fun i => (i.zero, i.size, i.bytes)) = some (some (.int .u8 0), 1, 1) := by kernel_rfl
theorem make30 (w : World) : (Instr.makeSlice 30 (.int .i64 256) (.int .i64 256)).run Try.prog w = .ok (.slice (some ⟨w.heap.size, 0, none⟩) 256 256) (w.alloc (.cells (tC zeroT).toArray 5)) := by
  have h := run_make_row' (P := Try.prog) 30 5 (.int .u8 0) 1 Try.underlying30 info5 rfl .i64 .i64 256 (by omega) (by omega) w
  have e : madeCells #[.int .u8 0] 256 = (tC zeroT).toArray := by kernel_rfl
  rw [e] at h
  exact h
theorem madeCells_rep (z : Array Value) (v : Value) (h : ∀ j, j < z.size → z[j]! = v) (hz : 0 < z.size) (m : Nat) : (madeCells z m).toList = List.replicate m v := by
  apply List.ext_getElem
  · simp [madeCells]
  · intro j h1 h2
    simp only [madeCells, Array.toList_map, List.getElem_map, Array.getElem_toList, Array.getElem_range, List.getElem_replicate]
    exact h _ (Nat.mod_lt _ hz)
theorem flat_rep (n m : Nat) (c : UInt8) : (List.replicate n (List.replicate m c)).flatMap tC = List.replicate (n * m) (bV c) := by
  induction n with
  | zero => simp
  | succ n ih => rw [List.replicate_succ, List.flatMap_cons, ih, tC, List.map_replicate, List.replicate_append_replicate]; congr 1; rw [Nat.succ_mul]; omega

theorem flat_get : ∀ (ts : List Tx), (∀ t ∈ ts, t.length = 256) → ∀ k (h : k < ts.length) j, j < 256 → (ts.flatMap tC)[k * 256 + j]? = (tC ts[k])[j]?
  | t :: ts, ht, 0, h, j, hj => by
    have := ht t (List.mem_cons_self ..)
    rw [List.flatMap_cons, Nat.zero_mul, Nat.zero_add, List.getElem?_append_left (by rw [tC_length]; omega)]
    rfl
  | t :: ts, ht, k + 1, h, j, hj => by
    have h1 := ht t (List.mem_cons_self ..)
    have ih := flat_get ts (fun x hx => ht x (List.mem_cons_of_mem _ hx)) k (by simpa using h) j hj
    rw [List.flatMap_cons, List.getElem?_append_right (by rw [tC_length]; omega), tC_length, h1, show (k + 1) * 256 + j - 256 = k * 256 + j from by omega, ih]
    rfl
theorem flat_len : ∀ (ts : List Tx), (∀ t ∈ ts, t.length = 256) → (ts.flatMap tC).length = ts.length * 256
  | [], _ => rfl
  | t :: ts, ht => by
    have h1 := ht t (List.mem_cons_self ..)
    rw [List.flatMap_cons, List.length_append, tC_length, h1, flat_len ts (fun x hx => ht x (List.mem_cons_of_mem _ hx)), List.length_cons]; omega
theorem DkAt.range {w : World} {h nb : Nat} {us : List (Int × Value)} {d : Dsk} (D : DkAt w h nb us d) (ht : ∀ t ∈ d.ts, t.length = 256) (k : Nat) (hk : k < d.ts.length) : w.rangeAt h (k * 256) (tC d.ts[k]) := fun j u hu => by
  have hj : j < 256 := by have := (List.getElem?_eq_some_iff.1 hu).1; rw [tC_length, ht _ (List.getElem_mem _)] at this; exact this
  rw [D.txt.cell, flat_get d.ts ht k hk j hj, hu]
/-- A version, in its row. -/
theorem row_range {w : World} {base : Nat} {v : Value} {l : List Tx} (hr : w.ownsRow base 58 256 v l.length (l.flatMap tC)) (ht : ∀ t ∈ l, t.length = 256) (hne : l.length ≠ 0) :
    ∃ g c, v = .slice (some ⟨g, 0, none⟩) l.length c ∧ base ≤ g ∧ g < w.heap.size ∧ ∀ k (hk : k < l.length), w.rangeAt g (k * 256) (tC l[k]) := by
  obtain ⟨A, c, rfl, h1⟩ := ownsRow_tells hr
  obtain ⟨g, rfl, hb, hg, hc⟩ := h1 hne
  refine ⟨g, c, rfl, hb, hg, fun k hk j u hu => ?_⟩
  have hj : j < 256 := by have := (List.getElem?_eq_some_iff.1 hu).1; rw [tC_length, ht _ (List.getElem_mem _)] at this; exact this
  exact hc _ _ (by rw [flat_get l ht k hk j hj, hu])

/-- v holds the text t, in a block from base on. -/
def BufAt (base : Nat) (w : World) (v : Value) (t : Tx) : Prop := (t = [] ∧ v = .slice none 0 0) ∨ (t ≠ [] ∧ ∃ g c, v = .slice (some ⟨g, 0, none⟩) t.length c ∧ base ≤ g ∧ Blk w g (tC t))
theorem BufAt.below {base : Nat} {w w' : World} {v : Value} {t : Tx} (h : BufAt base w v t) (hb : Below w.heap.size w w') : BufAt base w' v t := by
  rcases h with h | ⟨h, g, c, e, hg, hB⟩
  · exact .inl h
  · exact .inr ⟨h, g, c, e, hg, hB.below hb hB.lt⟩

theorem full_set (c : UInt8) (k : Nat) (hk : k < 256) : (tC (List.replicate k c ++ List.replicate (256 - k) 0)).set k (.int .u8 c.toNat) = tC (List.replicate (k + 1) c ++ List.replicate (256 - (k + 1)) 0) := by
  obtain ⟨m, hm⟩ : ∃ m, 256 - k = m + 1 := ⟨256 - k - 1, by omega⟩
  rw [hm, show 256 - (k + 1) = m from by omega, List.replicate_succ (n := m), List.replicate_succ' (n := k)]
  simp only [tC, List.map_append, List.map_cons, List.map_replicate, List.append_assoc]
  rw [List.set_append_right _ _ (by simp)]
  simp [bV]

set_option maxRecDepth 100000 in
set_option maxHeartbeats 1000000 in
theorem full_any (c : UInt8) (w : World) :
    Calls Try.prog 14 #[.int .u8 c.toNat] w fun e w' => e = .returned (.slice (some ⟨w.heap.size, 0, none⟩) 256 256) ∧ Blk w' w.heap.size (tC (fullT c)) ∧ Below w.heap.size w w' := by
  have hmk := make30
  go_enter Try.func14, Try.ntmps14
  go_wp2_with fail
  go_loopw [4] (fun i wr => ∃ k : Nat, i = .int .i64 (k : Int) ∧ k ≤ 256 ∧ Blk wr w.heap.size (tC (List.replicate k c ++ List.replicate (256 - k) 0)) ∧ Below w.heap.size w wr) (fun i _ => 256 - (intOf i).toNat)
  case atStart => exact ⟨0, rfl, by omega, Blk.new' _ _ rfl, bl_alloc (Below.refl _ _) _⟩
  case round =>
    obtain ⟨k, rfl, hk, hB, hb⟩ := hrel
    have hu := hB.unf
    have hl := hB.lt
    by_cases hlt : k < 256
    · have HS := Lib.hid (full_set c k hlt)
      obtain ⟨u0, hu0⟩ : ∃ u0, (tC (List.replicate k c ++ List.replicate (256 - k) 0))[k]? = some u0 := ⟨_, List.getElem?_eq_getElem (by simp; omega)⟩
      have q := hB.get hu0
      go_wp2
      go_roundw
      case rel => exact ⟨k + 1, by go_num, by omega, blk_eq (hB.set_same _ _) HS.out, bl_set hb (Nat.le_refl _) _⟩
      case measure => simp [intOf]; omega
    · obtain rfl : k = 256 := by omega
      go_wp2
      go_ret
      exact ⟨rfl, blk_eq hB (by rw [Nat.sub_self, List.replicate_zero, List.append_nil]; rfl), hb⟩

/-- A new disk. -/
theorem newD_ok (n : Nat) (hn : 1 ≤ n ∧ n ≤ 4096) : (newD n).Ok 0 :=
  ⟨by simpa [newD] using hn, fun t ht => by simp only [newD, List.mem_replicate] at ht; rw [ht.2]; exact zeroT_length, fun i l h => by simp [newD, lookI] at h, by simp [newD]⟩

set_option maxRecDepth 100000 in
set_option maxHeartbeats 1000000 in
theorem new_bad (n : Int) (w : World) (hn : n < 1 ∨ 4096 < n) :
    Calls Try.prog 9 #[.int .i64 n] w fun e w' => e = .returned (.tuple #[.pointer none, .int .i64 1]) ∧ w' = w := by
  by_cases h1 : n < 1
  · have hd : decide (n < 1) = true := by simpa using h1
    go_enter Try.func9, Try.ntmps9
    go_wp2
    go_ret2
    exact ⟨rfl, rfl⟩
  · have hd : decide (n < 1) = false := by simpa using h1
    have h2 : 4096 < n := by omega
    have hd2 : decide (4096 < n) = true := by simpa using h2
    go_enter Try.func9, Try.ntmps9
    go_wp2
    go_ret2
    exact ⟨rfl, rfl⟩

set_option maxRecDepth 100000 in
set_option maxHeartbeats 1000000 in
theorem new_ok (m : Nat) (w : World) (h1 : 1 ≤ m) (h2 : m ≤ 4096) :
    Calls Try.prog 9 #[.int .i64 m] w fun e w' => e = .returned (.tuple #[.pointer (some ⟨w.heap.size + 3, 0, none⟩), .int .i64 0]) ∧ DkAt w' w.heap.size 0 [] (newD m) ∧ Below w.heap.size w w' := by
  obtain ⟨i, z, hi, hs, hby, hz, hc⟩ := zero58
  have hmm := @run_makeMap Try.prog
  have hd : decide ((m : Int) < 1) = false := by simp; omega
  have hd2 : decide (4096 < (m : Int)) = false := by simp; omega
  have hmk : ∀ w : World, (Instr.makeSlice 51 (.int .i64 (m : Int)) (.int .i64 (m : Int))).run Try.prog w = .ok (.slice (some ⟨w.heap.size, 0, none⟩) m m) (w.alloc (.cells (madeCells z.cells (m * 256)) 58)) := fun w => by
    have h := run_make (P := Try.prog) w 51 58 i z Try.underlying51 hi hz .i64 .i64 m m (by omega) (Int.le_refl _) (by rw [hby]; omega) (by omega)
    rw [hs] at h
    simpa only [Int.toNat_natCast] using h
  have hcells : (madeCells z.cells (m * 256)).toList = (newD m).ts.flatMap tC := by
    have hzl : (tC zeroT).toArray.size = 256 := by rw [List.size_toArray, tC_length, zeroT_length]
    rw [madeCells_rep z.cells (.int .u8 0) (fun j hj => by
      rw [hc] at hj ⊢
      rw [getElem!_pos _ j hj]
      simp only [tC, zeroT, fullT, List.map_replicate, List.getElem_toArray, List.getElem_replicate]
      rfl) (by rw [hc, hzl]; omega)]
    exact (flat_rep m 256 0).symm
  have hcells := Lib.hid hcells
  generalize madeCells z.cells (m * 256) = mc at hmk hcells
  go_enter Try.func9, Try.ntmps9
  go_wp2
  go_ret2
  have B0 : Blk (((w.alloc (.cells mc 58)).alloc (.map #[] 0)).alloc (.map #[] 0)) w.heap.size ((newD m).ts.flatMap tC) := blk_eq (((Blk.new' _ _ rfl).alloc _).alloc _) hcells.out
  have M1 : IM Try.prog 3 (((w.alloc (.cells mc 58)).alloc (.map #[] 0)).alloc (.map #[] 0)) (w.heap.size + 1) 0 Value.bool [] := by
    have := (IM.made (w.alloc (.cells mc 58)) Try.prog 3 Value.bool).alloc (.map #[] 0)
    simpa using this
  have M2 : IM Try.prog 3 (((w.alloc (.cells mc 58)).alloc (.map #[] 0)).alloc (.map #[] 0)) (w.heap.size + 2) 0 (fun v : Value => v) [] := by
    have := IM.made ((w.alloc (.cells mc 58)).alloc (.map #[] 0)) Try.prog 3 (fun v : Value => v)
    simpa using this
  have hsz : (((w.alloc (.cells mc 58)).alloc (.map #[] 0)).alloc (.map #[] 0)).heap.size = w.heap.size + 3 := by simp
  refine ⟨by rfl, ⟨?_, B0.alloc _, M1.alloc _, M2.alloc _, rfl, fun i v h => by simp [lookI] at h, fun i j v v' _ h => by simp [lookI] at h⟩, bl_alloc (bl_alloc (bl_alloc (bl_alloc (Below.refl _ _) _) _) _) _⟩
  have := Blk.new' (w := ((w.alloc (.cells mc 58)).alloc (.map #[] 0)).alloc (.map #[] 0)) (b := w.heap.size + 3) #[.slice (some ⟨w.heap.size, 0, none⟩) m m, .map (some (w.heap.size + 1)), .map (some (w.heap.size + 2)), .bool false, .int .i64 (-1)] 55 hsz.symm
  simpa [newD] using this
end Go.Proofs.Yteaenhmiomoocaa
