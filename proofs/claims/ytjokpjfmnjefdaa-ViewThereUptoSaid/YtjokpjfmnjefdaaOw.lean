/- The laws' own rows: own, rows. -/
import Derived.Test.YtjokpjfmnjefdaaRo
namespace Go.Proofs.Ytjokpjfmnjefdaa
open Go.RowKit Go.Shelf
attribute [local go_sem] Oper.semAt_some

theorem info_parts {P : Program} {t : TypeId} {z : Value} {s b : Nat} (h : (P.info? t).map (fun i => (i.zero, i.size, i.bytes)) = some (some z, s, b)) : ∃ i, P.info? t = some i ∧ i.zero = some z ∧ i.size = s ∧ i.bytes = b := by
  cases hi : P.info? t with
  | none => rw [hi] at h; cases h
  | some i =>
    rw [hi] at h
    simp only [Option.map_some, Option.some.injEq, Prod.mk.injEq] at h
    exact ⟨i, rfl, h.1, h.2.1, h.2.2⟩
theorem info56 : (Try.prog.info? 56).map (fun i => (i.zero, i.size, i.bytes)) = some (some (.agg #[.string ⟨#[]⟩, .string ⟨#[]⟩, .int .i64 0]), 3, 40) := by kernel_rfl
theorem info70 : (Try.prog.info? 70).map (fun i => (i.zero, i.size, i.bytes)) = some (some (.agg #[.int .i64 0, .int .i64 0, .bool false, .string ⟨#[]⟩, .string ⟨#[]⟩, .bool false]), 6, 64) := by kernel_rfl
theorem info65 : (Try.prog.info? 65).map (fun i => (i.zero, i.size, i.bytes)) = some (some (.agg #[.string ⟨#[]⟩, .string ⟨#[]⟩, .int .i64 0]), 3, 40) := by kernel_rfl

set_option maxRecDepth 100000 in
set_option maxHeartbeats 2000000 in
theorem own_any (A : Option Addr) (c : Nat) (l : List Pr) (w : World) (hl : LAt w A 3 prL l) (hll : l.length ≤ 3518437208800) :
    Calls Try.prog 18 #[.slice A l.length c] w fun e w' => ∃ A' c', e = .returned (.slice A' l.length c') ∧ PRow w' w.heap.size A' c' l ∧ Below w.heap.size w w' := by
  obtain ⟨i0, hi0, hz0, hz1, hz2⟩ := info_parts info56
  go_enter Try.func18, Try.ntmps18
  go_wp2_with fail
  go_loopw [3, 4] (fun v u wr => ∃ (i : Nat) (A1 : Option Addr) (c1 : Nat), i ≤ l.length ∧ v = .slice A1 i c1 ∧ u = .int .i64 i ∧ wr.ownsRow w.heap.size 56 3 (.slice A1 i c1) i ((l.take i).flatMap prL) ∧ Below w.heap.size w wr) (fun _ u _ => l.length - (intOf u).toNat)
  case atStart => exact ⟨0, none, 0, Nat.zero_le _, rfl, rfl, World.ownsRow_nil _ _ _ _, Below.refl _ _⟩
  case round =>
    obtain ⟨i, A1, c1, hi, rfl, rfl, hown, hb⟩ := hrel
    by_cases hlt : i < l.length
    · obtain ⟨b, o, rfl, hbw, _⟩ := hl i hlt
      obtain ⟨b', o', hA', hbl, ca⟩ := (hl.below hb) i hlt
      cases hA'
      have hmm := Lib.hid (show (l.take (i + 1)).flatMap prL = (l.take i).flatMap prL ++ prL l[i] by rw [List.take_succ_eq_append_getElem hlt, List.flatMap_append]; simp)
      generalize l[i] = x at ca hmm
      have a0 : wr.cell? ⟨b, o + i * 3, none⟩ = some (.string x.key) := ca 0 _ rfl
      have a1 := ca 1 _ rfl
      have a2 := ca 2 _ rfl
      have hltI : (i : Int) < (l.length : Int) := by omega
      have hne : some b ≠ (Value.slice A1 i c1).ownBlock := by intro e; have := ownsRow_base hown e.symm; omega
      have hbs := hb.size
      clear ca hl
      go_wp2_with fail
      go_region_held3 (fun w' => (∀ o, w'.cell? ⟨b, o, none⟩ = wr.cell? ⟨b, o, none⟩) ∧ b < w'.heap.size)
        (first | exact bat_drew (bat_here wr hbl) | exact bat_alloc ‹_› _ | exact bat_grown ‹_› ‹_› hne)
        ((refine step_append_src rfl _ _ 26 rfl w.heap.size 56 i0 _ 3 40 Try.underlying26 hi0 hz0 hz1 hz2 rfl (by omega) (.slice A1 i c1) i _ rfl (hown.drew.alloc _) (some ⟨wr.heap.size, 0, none⟩) 1 1 (prL x) rfl (src_new wr.drew (prL x) 56 1 3 rfl) (prL_one x) (by simp only [maxLen]; omega) (by omega) (by simp; omega) ?_; intro A2 c2 w2 hown2 hg2))
      have hb2 := bl_own (bl_alloc (bl_drew hb) _) (hown.drew.alloc _) (Nat.le_refl _) hg2
      rw [← hmm.out] at hown2
      go_wp2_with fail
      exact ⟨⟨i + 1, A2, c2, by omega, rfl, by go_num, hown2, hb2⟩, by simp [intOf]; omega⟩
    · obtain rfl : i = l.length := by omega
      go_wp2_with fail
      go_ret
      rw [List.take_length] at hown
      exact ⟨A1, c1, rfl, PRow.of_own hown rfl, hb⟩
set_option maxRecDepth 100000 in
set_option maxHeartbeats 2000000 in
theorem rows_any (A : Option Addr) (c : Nat) (l : List Rw) (w : World) (hl : LAt w A 6 rwL l) (hll : l.length ≤ 2199023255500) :
    Calls Try.prog 12 #[.slice A l.length c] w fun e w' => ∃ A' c', e = .returned (.slice A' l.length c') ∧ l.length ≤ c' ∧ LAt w' A' 6 rwL l ∧ Below w.heap.size w w' := by
  obtain ⟨i0, hi0, hz0, hz1, hz2⟩ := info_parts info70
  go_enter Try.func12, Try.ntmps12
  go_wp2_with fail
  go_loopw [3, 4] (fun v u wr => ∃ (i : Nat) (A1 : Option Addr) (c1 : Nat), i ≤ l.length ∧ v = .slice A1 i c1 ∧ u = .int .i64 i ∧ wr.ownsRow w.heap.size 70 6 (.slice A1 i c1) i ((l.take i).flatMap rwL) ∧ Below w.heap.size w wr) (fun _ u _ => l.length - (intOf u).toNat)
  case atStart => exact ⟨0, none, 0, Nat.zero_le _, rfl, rfl, World.ownsRow_nil _ _ _ _, Below.refl _ _⟩
  case round =>
    obtain ⟨i, A1, c1, hi, rfl, rfl, hown, hb⟩ := hrel
    by_cases hlt : i < l.length
    · obtain ⟨b, o, rfl, hbw, _⟩ := hl i hlt
      obtain ⟨b', o', hA', hbl, ca⟩ := (hl.below hb) i hlt
      cases hA'
      have hmm := Lib.hid (show (l.take (i + 1)).flatMap rwL = (l.take i).flatMap rwL ++ rwL l[i] by rw [List.take_succ_eq_append_getElem hlt, List.flatMap_append]; simp)
      generalize l[i] = x at ca hmm
      have a0 : wr.cell? ⟨b, o + i * 6, none⟩ = some (.int .i64 x.off) := ca 0 _ rfl
      have a1 := ca 1 _ rfl
      have a2 := ca 2 _ rfl
      have a3 := ca 3 _ rfl
      have a4 := ca 4 _ rfl
      have a5 := ca 5 _ rfl
      have hltI : (i : Int) < (l.length : Int) := by omega
      have hne : some b ≠ (Value.slice A1 i c1).ownBlock := by intro e; have := ownsRow_base hown e.symm; omega
      have hbs := hb.size
      clear ca hl
      go_wp2_with fail
      go_region_held3 (fun w' => (∀ o, w'.cell? ⟨b, o, none⟩ = wr.cell? ⟨b, o, none⟩) ∧ b < w'.heap.size)
        (first | exact bat_drew (bat_here wr hbl) | exact bat_alloc ‹_› _ | exact bat_grown ‹_› ‹_› hne)
        ((refine step_append_src rfl _ _ 23 rfl w.heap.size 70 i0 _ 6 64 Try.underlying23 hi0 hz0 hz1 hz2 rfl (by omega) (.slice A1 i c1) i _ rfl (hown.drew.alloc _) (some ⟨wr.heap.size, 0, none⟩) 1 1 (rwL x) rfl (src_new wr.drew (rwL x) 70 1 6 rfl) (rwL_one x) (by simp only [maxLen]; omega) (by omega) (by simp; omega) ?_; intro A2 c2 w2 hown2 hg2))
      have hb2 := bl_own (bl_alloc (bl_drew hb) _) (hown.drew.alloc _) (Nat.le_refl _) hg2
      rw [← hmm.out] at hown2
      go_wp2_with fail
      exact ⟨⟨i + 1, A2, c2, by omega, rfl, by go_num, hown2, hb2⟩, by simp [intOf]; omega⟩
    · obtain rfl : i = l.length := by omega
      go_wp2_with fail
      go_ret
      rw [List.take_length] at hown
      exact ⟨A1, c1, rfl, ownsRow_cap hown, LAt.of_own rwL_len hown rfl, hb⟩

end Go.Proofs.Ytjokpjfmnjefdaa
