/- spoil: writes over a slice of the caller's own. -/
import Derived.Test.YtjokpjfmnjefdaaRo
namespace Go.Proofs.Ytjokpjfmnjefdaa
open Go.RowKit Go.Shelf
attribute [local go_sem] Oper.semAt_some

theorem there_set {w : World} {b o n : Nat} (h : w.there b o n) (b' k : Nat) (v : Value) : (w.setCell ⟨b', k, none⟩ v).there b o n := World.there_setCells h b' k [v]

set_option maxRecDepth 100000 in
set_option maxHeartbeats 400000 in
theorem spoil_any (A : Option Addr) (c base : Nat) (l : List Pr) (w : World) (hP : PRow w base A c l) (hll : l.length ≤ 4611686018427387904) (hbase : base ≤ w.heap.size) :
    Calls Try.prog 25 #[.slice A l.length c] w fun e w' => e = .returned (.tuple #[]) ∧ Below base w w' := by
  go_enter Try.func25, Try.ntmps25
  go_wp2_with fail
  go_loopw [2] (fun u wr => ∃ i : Nat, i ≤ l.length ∧ u = .int .i64 i ∧ Below base w wr ∧ (∀ a, A = some a → wr.there a.block a.off (l.length * 3))) (fun u _ => l.length - (intOf u).toNat)
  case atStart =>
    refine ⟨0, Nat.zero_le _, rfl, Below.refl _ _, fun a e j hj => ⟨?_, hP.unf a e j hj⟩⟩
    have hd : j / 3 < l.length := by omega
    obtain ⟨b, o, e', _, hc⟩ := hP.row (j / 3) hd
    rw [e] at e'; cases e'
    have h3 : j % 3 < (prL l[j / 3]).length := by rw [prL_len]; omega
    have h1 := hc (j % 3) _ (List.getElem?_eq_getElem h3)
    have he : o + j / 3 * 3 + j % 3 = o + j := by omega
    rw [he] at h1
    show (w.cell? ⟨b, o + j, none⟩).isSome = true
    rw [h1]; rfl
  case round =>
    obtain ⟨i, hi, rfl, hb, ht⟩ := hrel
    by_cases hlt : i < l.length
    · obtain ⟨b, o, rfl, _, _⟩ := hP.row i hlt
      have hnew := hP.new _ rfl
      have hth := ht _ rfl
      have hltI : (i : Int) < (l.length : Int) := by omega
      have hth1 : wr.there b (o + i * 3) 3 := fun j hj => by
        have := hth (i * 3 + j) (by omega)
        rwa [show o + (i * 3 + j) = o + i * 3 + j from by omega] at this
      replace hth := Lib.hid hth
      obtain ⟨v0, k0⟩ := Option.isSome_iff_exists.1 (hth1 0 (by omega)).1
      obtain ⟨v1, k1⟩ := Option.isSome_iff_exists.1 (hth1 1 (by omega)).1
      obtain ⟨v2, k2⟩ := Option.isSome_iff_exists.1 (hth1 2 (by omega)).1
      have u0 := (hth1 0 (by omega)).2
      have u1 := (hth1 1 (by omega)).2
      have u2 := (hth1 2 (by omega)).2
      rw [Nat.add_zero] at k0 u0
      clear ht hth1
      go_wp2_with fail
      go_roundw
      case rel => exact ⟨i + 1, by omega, by go_num, ((hb.setCell (p := ⟨b, o + i * 3, none⟩) hnew _).setCell (p := ⟨b, o + i * 3 + 1, none⟩) hnew _).setCell (p := ⟨b, o + i * 3 + 2, none⟩) hnew _, fun a e => by cases e; exact there_set (there_set (there_set hth.out _ _ _) _ _ _) _ _ _⟩
      case measure => simp [intOf]; omega
    · obtain rfl : i = l.length := by omega
      go_wp2_with fail
      go_end0
      exact ⟨rfl, hb⟩
end Go.Proofs.Ytjokpjfmnjefdaa
