/- The document's disk: power, fuse, how many blocks are dirty. -/
import Derived.Test.YteaenhmiomoocaaRb
namespace Go.Proofs.Yteaenhmiomoocaa
open Go.RowKit Go.Shelf
attribute [local go_sem] Oper.semAt_some

theorem rop_any {F : Nat → Prop} (w : World) (n0 rb g c : Nat) (bs : List Bk) (d : Dsk) (N : Nat) (h : RfAt F w n0 rb g c bs d) (hrb : rb < n0) (hO : d.Ok N) :
    Calls Try.prog 41 #[.pointer (some ⟨rb, 0, none⟩)] w fun e w' => e = .returned (.bool (powr d).1) ∧ RfAt F w' n0 rb g c bs (powr d).2 ∧ w.grownBy w' (some rb) := by
  have q := h.box.cell
  have u := h.box.unf
  have l := h.box.lt
  obtain ⟨ts, bad, vs, off, fuse⟩ := d
  have hf := hO.fuse
  dsimp only at hf q
  cases off
  · by_cases h0 : fuse = 0
    · subst h0
      go_enter Try.func41, Try.ntmps41
      go_wp2
      go_ret
      refine ⟨by simp [powr], ?_, gr_set (gr_set (World.grownBy.refl _ _) _ _) _ _⟩
      have hb := (h.box.set_same 1 (.bool true)).set_same 2 (.int .i64 (-1))
      simpa [powr] using h.turn hrb true (-1) (by simpa using hb) (gr_set (gr_set (World.grownBy.refl _ _) _ _) _ _) ((h.boxT.setCell _ _).setCell _ _)
    · have h1 : (fuse == 0) = false := by simpa using h0
      by_cases hp : 0 < fuse
      · go_enter Try.func41, Try.ntmps41
        go_wp2
        go_ret
        refine ⟨by simp [powr, h0], ?_, gr_set (World.grownBy.refl _ _) _ _⟩
        have hb := h.box.set_same 2 (.int .i64 (fuse - 1))
        simpa [powr, h0, hp] using h.turn hrb false (fuse - 1) (by simpa using hb) (gr_set (World.grownBy.refl _ _) _ _) (h.boxT.setCell _ _)
      · go_enter Try.func41, Try.ntmps41
        go_wp2
        go_ret
        refine ⟨by simp [powr, h0], ?_, World.grownBy.refl _ _⟩
        have e : (if 0 < fuse then fuse - 1 else fuse) = fuse := if_neg (by omega)
        simp only [powr, h0, Bool.false_eq_true, if_false, e]
        exact h
  · go_enter Try.func41, Try.ntmps41
    go_wp2
    go_ret
    exact ⟨by simp [powr], by simpa [powr] using h, World.grownBy.refl _ _⟩

theorem rcut_any {F : Nat → Prop} (w : World) (n0 rb g c : Nat) (bs : List Bk) (d : Dsk) (n : Int) (h : RfAt F w n0 rb g c bs d) (hrb : rb < n0) (hn : -9223372036854775808 ≤ n ∧ n ≤ 9223372036854775807) :
    Calls Try.prog 34 #[.pointer (some ⟨rb, 0, none⟩), .int .i64 n] w fun e w' => e = .returned (.tuple #[]) ∧ RfAt F w' n0 rb g c bs (cutD d n) ∧ w.grownBy w' (some rb) := by
  have q := h.box.cell
  have u := h.box.unf
  have l := h.box.lt
  obtain ⟨ts, bad, vs, off, fuse⟩ := d
  dsimp only at q
  cases off
  · go_enter Try.func34, Try.ntmps34
    go_wp2
    go_end0
    refine ⟨rfl, ?_, gr_set (World.grownBy.refl _ _) _ _⟩
    have hb := h.box.set_same 2 (.int .i64 (max n (-1)))
    simpa [cutD] using h.turn hrb false (max n (-1)) (by simpa using hb) (gr_set (World.grownBy.refl _ _) _ _) (h.boxT.setCell _ _)
  · go_enter Try.func34, Try.ntmps34
    go_wp2
    go_end0
    exact ⟨rfl, by simpa [cutD] using h, World.grownBy.refl _ _⟩

/-- How many of the first n blocks have versions. -/
def dirtyN (d : Dsk) (n : Nat) : Nat := ((List.range n).filter fun j => !(vsOf d j).isEmpty).length
theorem dirtyN_succ (d : Dsk) (n : Nat) : dirtyN d (n + 1) = dirtyN d n + if (vsOf d n).length = 0 then 0 else 1 := by
  unfold dirtyN
  rw [List.range_succ, List.filter_append, List.length_append]
  congr 1
  cases h : vsOf d n <;> simp [h]
theorem dirtyN_le (d : Dsk) (n : Nat) : dirtyN d n ≤ n := by
  unfold dirtyN
  exact Nat.le_trans (List.length_filter_le _ _) (by simp)

set_option maxHeartbeats 1000000 in
theorem rdirty_any {F : Nat → Prop} (w : World) (n0 rb g c : Nat) (bs : List Bk) (d : Dsk) (N : Nat) (h : RfAt F w n0 rb g c bs d) (hO : d.Ok N) :
    Calls Try.prog 37 #[.pointer (some ⟨rb, 0, none⟩)] w fun e w' => e = .returned (.int .i64 (dirtyN d d.ts.length)) ∧ w' = w := by
  have q := h.box.cell
  have l := h.box.lt
  have hg := h.gl.2.lt
  have hlen := h.len
  have hle := hO.len
  have hb1 : bs.length ≤ 4096 := by omega
  replace hlen := Lib.hid hlen
  go_enter Try.func37, Try.ntmps37
  go_wp2 
  go_loopw [3, 4] (fun v u wr => wr = w ∧ ∃ i : Nat, i ≤ bs.length ∧ u = .int .i64 i ∧ v = .int .i64 (dirtyN d i)) (fun _ u _ => bs.length - (intOf u).toNat)
  case atStart => exact ⟨rfl, 0, Nat.zero_le _, rfl, rfl⟩
  case round =>
    obtain ⟨rfl, i, hi, rfl, rfl⟩ := hrel
    have hi0 : (0 : Int) ≤ (i : Int) := by omega
    by_cases hlt : i < bs.length
    · obtain ⟨_, _, h3⟩ := h.cells hlt
      obtain ⟨A, c', e⟩ := h.vlen hlt
      rw [e] at h3
      have hs := dirtyN_succ d i
      have hdl := dirtyN_le d i
      by_cases hz : (vsOf d i).length = 0
      · rw [hz] at h3
        rw [if_pos hz] at hs
        have HS := Lib.hid hs
        clear hz hs
        go_wp2
        go_roundw
        case rel => exact ⟨trivial, i + 1, by omega, by go_num, by rw [HS.out]; rfl⟩
        case measure => simp [intOf]; omega
      · rw [if_neg hz] at hs
        have HS := Lib.hid hs
        clear hs
        have hz2 : decide ((0 : Int) < ((vsOf d i).length : Int)) = true := by simp; omega
        go_wp2
        go_roundw
        case rel => exact ⟨trivial, i + 1, by omega, by go_num, by rw [HS.out]; go_num⟩
        case measure => simp [intOf]; omega
    · obtain rfl : i = bs.length := by omega
      go_wp2
      go_ret
      exact ⟨by rw [hlen.out]; rfl, rfl⟩
end Go.Proofs.Yteaenhmiomoocaa
