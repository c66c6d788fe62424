/- The law's changes laid as the program's. -/
import Derived.Test.YtjokpjfmnjefdaaRc
import Derived.Test.YtjokpjfmnjefdaaDf
namespace Go.Proofs.Ytjokpjfmnjefdaa
open Go.RowKit Go.Shelf
attribute [local go_sem] Oper.semAt_some

set_option maxRecDepth 100000 in
set_option maxHeartbeats 2000000 in
theorem changes_any (A : Option Addr) (c : Nat) (l : List Ch) (w : World) (hl : LAt w A 5 chL l) (hll : l.length ≤ 2513169434900) :
    Calls Try.prog 30 #[.slice A l.length c] w fun e w' => ∃ A' c', e = .returned (.slice A' l.length c') ∧ LAt w' A' 5 chL l ∧ Below w.heap.size w w' := by
  obtain ⟨i0, hi0, hz0, hz1, hz2⟩ := info_parts info42
  go_enter Try.func30, Try.ntmps30
  go_wp2_with fail
  go_loopw [3, 4] (fun v u wr => ∃ (i : Nat) (A1 : Option Addr) (c1 : Nat), i ≤ l.length ∧ v = .slice A1 i c1 ∧ u = .int .i64 i ∧ wr.ownsRow w.heap.size 42 5 (.slice A1 i c1) i ((l.take i).flatMap chL) ∧ Below w.heap.size w wr) (fun _ u _ => l.length - (intOf u).toNat)
  case atStart => exact ⟨0, none, 0, Nat.zero_le _, rfl, rfl, World.ownsRow_nil _ _ _ _, Below.refl _ _⟩
  case round =>
    obtain ⟨i, A1, c1, hi, rfl, rfl, hown, hb⟩ := hrel
    by_cases hlt : i < l.length
    · obtain ⟨b, o, rfl, hbw, _⟩ := hl i hlt
      obtain ⟨b', o', hA', hbl, ca⟩ := (hl.below hb) i hlt
      cases hA'
      have hmm := Lib.hid (show (l.take (i + 1)).flatMap chL = (l.take i).flatMap chL ++ chL l[i] by rw [List.take_succ_eq_append_getElem hlt, List.flatMap_append]; simp)
      generalize l[i] = x at ca hmm
      have a0 : wr.cell? ⟨b, o + i * 5, none⟩ = some (.string x.key) := ca 0 _ rfl
      have a1 := ca 1 _ rfl
      have a2 := ca 2 _ rfl
      have a3 := ca 3 _ rfl
      have a4 := ca 4 _ rfl
      have a1' : wr.cell? ⟨b, o + i * 5 + 1, none⟩ = some (.string x.old) := a1
      have hltI : (i : Int) < (l.length : Int) := by omega
      have hne : some b ≠ (Value.slice A1 i c1).ownBlock := by intro e; have := ownsRow_base hown e.symm; omega
      have hbs := hb.size
      clear ca hl
      go_wp2_with fail
      go_region_held3 (fun w' => (∀ o, w'.cell? ⟨b, o, none⟩ = wr.cell? ⟨b, o, none⟩) ∧ b < w'.heap.size)
        (first | exact bat_drew (bat_here wr hbl) | exact bat_alloc ‹_› _ | exact bat_grown ‹_› ‹_› hne)
        ((refine step_append_src rfl _ _ 32 rfl w.heap.size 42 i0 _ 5 56 Try.underlying32 hi0 hz0 hz1 hz2 rfl (by omega) (.slice A1 i c1) i _ rfl (hown.drew.alloc _) (some ⟨wr.heap.size, 0, none⟩) 1 1 (chL x) rfl (src_new wr.drew (chL x) 42 1 5 rfl) (chL_one x) (by simp only [maxLen]; omega) (by omega) (by simp; omega) ?_; intro A2 c2 w2 hown2 hg2))
      have hb2 := bl_own (bl_alloc (bl_drew hb) _) (hown.drew.alloc _) (Nat.le_refl _) hg2
      rw [← hmm.out] at hown2
      go_wp2_with fail
      exact ⟨⟨i + 1, A2, c2, by omega, rfl, by go_num, hown2, hb2⟩, by simp [intOf]; omega⟩
    · obtain rfl : i = l.length := by omega
      go_wp2_with fail
      go_ret
      rw [List.take_length] at hown
      exact ⟨A1, c1, rfl, LAt.of_own chL_len hown rfl, hb⟩
end Go.Proofs.Ytjokpjfmnjefdaa
