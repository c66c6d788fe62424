/- slices.Sort and slices.Sorted(slices.Values(l)), at ints and at strings. -/
import Derived.Test.YtbjjhnlifgbpmaaVs
import Derived.Test.YtbjjhnlifgbpmaaSt
import Derived.Sort.OwnSorted
import Derived.Sort.OwnSortedInts
namespace Go.Proofs.Ytbjjhnlifgbpmaa
open Go.RowKit Go.Shelf Go.Sort

def sortZ (l : List Int) : List Int := l.mergeSort fun x y => decide (x ≤ y)
def sortS (l : List ByteArray) : List ByteArray := ((l.map kb).mergeSort fun x y => decide (x ≤ y)).map fun s => ⟨s.toArray⟩
theorem sortZ_len (l : List Int) : (sortZ l).length = l.length := by simp [sortZ]
theorem sortS_len (l : List ByteArray) : (sortS l).length = l.length := by simp [sortS]
theorem flat_map1 {α : Type} (f : α → Value) (l : List α) : l.flatMap (fun x => [f x]) = l.map f := by induction l <;> simp_all
theorem encI_map (l : List Int) : l.flatMap encI = l.map (Value.int .i64) := flat_map1 _ _
theorem encS_map (l : List ByteArray) : l.flatMap encS = l.map Value.string := flat_map1 _ _
theorem encStr_kb (s : ByteArray) : encStr (kb s) = .string s := by simp [encStr, kb]
theorem encS_kb (l : List ByteArray) : l.flatMap encS = (l.map kb).map encStr := by
  rw [encS_map, List.map_map]; exact List.map_congr_left fun s _ => (encStr_kb s).symm
theorem encStr_un (s : List UInt8) : encStr s = .string ⟨s.toArray⟩ := by simp [encStr]

/-- slices.Sort of a row of numbers of the call's own. -/
theorem sortI_any (A : Option Addr) (c base : Nat) (l : List Int) (w : World) (hown : w.ownsRow base 3 1 (.slice A l.length c) l.length (l.flatMap encI)) (hl : l.length < 4611686018427387904) :
    Calls Try.prog 36 #[.slice A l.length c] w fun e w' => e = .returned (.tuple #[]) ∧ w'.ownsRow base 3 1 (.slice A l.length c) l.length ((sortZ l).flatMap encI) ∧ w.grownBy w' (Value.slice A l.length c).ownBlock := by
  rcases hown.2 with ⟨e, hz⟩ | ⟨gb, cap, cur, e, hbase, hgb, r1, r2, r3, r4⟩
  · obtain rfl : l = [] := List.eq_nil_of_length_eq_zero hz
    simp only [Value.slice.injEq] at e
    obtain ⟨rfl, _, rfl⟩ := e
    refine (AnyM.slices_Sort_int_none Try.sortI none 0 w).mono ?_
    rintro e w' ⟨rfl, rfl⟩
    exact ⟨rfl, by simpa [sortZ] using hown, World.grownBy.refl _ _⟩
  · simp only [Value.slice.injEq] at e
    obtain ⟨rfl, _, rfl⟩ := e
    have hH : Holds (Value.int .i64) w gb 0 l.toArray := holds_of_blockI hgb (by simpa [encI_map] using r4)
    refine (AnyM.slices_Sort_int Try.sortI gb 0 c l w hH (Array.getElem?_eq_some_iff.1 hgb).1 hl).mono ?_
    rintro e w' ⟨rfl, nn, os, rfl⟩
    refine ⟨rfl, ?_, grownBy_sortedI _⟩
    rw [encI_map]
    exact ownsRow_sortedI (by simp) hbase hgb r1 r2 r3

theorem sortedI_any (Bs : Nat) (A : Option Addr) (c : Nat) (l : List Int) (w : World) (hS : Blk w Bs [.slice A l.length c]) (hD : LAt w A 1 encI l) (hl : l.length * 8 ≤ 140737488351232) :
    Calls Try.prog 30 #[.func (.func 48) #[] #[.pointer (some ⟨Bs, 0, none⟩)]] w fun e w' => ∃ A' c', e = .returned (.slice A' l.length c') ∧
      w'.ownsRow (w.heap.size + 1) 3 1 (.slice A' l.length c') l.length ((sortZ l).flatMap encI) ∧ Below w.heap.size w w' := by
  go_enter Try.func30, Try.ntmps30
  go_wp2_with (first
    | (go_at_call 47; refine (collectI_any Bs A c l _ hS hD hl).mono ?_; rintro e w1 ⟨A', c', rfl, h1, h2⟩)
    | (go_at_call 36; refine (sortI_any A' c' _ l _ h1 (by omega)).mono ?_; rintro e w2 ⟨rfl, h3, h4⟩))
  go_ret
  exact ⟨A', c', rfl, h3, h2.grown h4 h2.size (fun g hg => by have := ownsRow_base h1 hg; omega)⟩

theorem sortT_any (A : Option Addr) (c base : Nat) (l : List ByteArray) (w : World) (hown : w.ownsRow base 9 1 (.slice A l.length c) l.length (l.flatMap encS)) (hl : l.length < 4611686018427387904) :
    Calls Try.prog 53 #[.slice A l.length c] w fun e w' => e = .returned (.tuple #[]) ∧ w'.ownsRow base 9 1 (.slice A l.length c) l.length ((sortS l).flatMap encS) ∧ w.grownBy w' (Value.slice A l.length c).ownBlock := by
  have hll : (l.map kb).length = l.length := by simp
  rcases hown.2 with ⟨e, hz⟩ | ⟨gb, cap, cur, e, hbase, hgb, r1, r2, r3, r4⟩
  · obtain rfl : l = [] := List.eq_nil_of_length_eq_zero hz
    simp only [Value.slice.injEq] at e
    obtain ⟨rfl, _, rfl⟩ := e
    refine (AnyM.slices_Sort_string_none Try.sortT none 0 w).mono ?_
    rintro e w' ⟨rfl, rfl⟩
    exact ⟨rfl, by simpa [sortS] using hown, World.grownBy.refl _ _⟩
  · simp only [Value.slice.injEq] at e
    obtain ⟨rfl, _, rfl⟩ := e
    have hH : Holds encStr w gb 0 (l.map kb).toArray := holds_of_block hgb (by rw [← encS_kb]; simpa using r4)
    have hc := AnyM.slices_Sort_string Try.sortT gb 0 c (l.map kb) w hH (Array.getElem?_eq_some_iff.1 hgb).1 (by simpa using hl)
    rw [hll] at hc
    refine hc.mono ?_
    rintro e w' ⟨rfl, nn, os, rfl⟩
    refine ⟨rfl, ?_, grownBy_sorted _⟩
    have := ownsRow_sorted (w := w) (n := nn) (os := os) (ss := l.map kb) (ts := (l.map kb).mergeSort fun x y => decide (x ≤ y)) (by simp) hbase hgb (by simpa using r1) r2 r3
    rw [hll] at this
    have e2 : (sortS l).flatMap encS = ((l.map kb).mergeSort fun x y => decide (x ≤ y)).map encStr := by
      rw [encS_map, sortS, List.map_map]
      exact List.map_congr_left fun s _ => (encStr_un s).symm
    rw [e2]
    exact this

theorem sortedS_any (Bs : Nat) (A : Option Addr) (c : Nat) (l : List ByteArray) (w : World) (hS : Blk w Bs [.slice A l.length c]) (hD : LAt w A 1 encS l) (hl : l.length * 16 ≤ 140737488351232) :
    Calls Try.prog 42 #[.func (.func 54) #[] #[.pointer (some ⟨Bs, 0, none⟩)]] w fun e w' => ∃ A' c', e = .returned (.slice A' l.length c') ∧
      w'.ownsRow (w.heap.size + 1) 9 1 (.slice A' l.length c') l.length ((sortS l).flatMap encS) ∧ Below w.heap.size w w' := by
  go_enter Try.func42, Try.ntmps42
  go_wp2_with (first
    | (go_at_call 52; refine (collectS_any Bs A c l _ hS hD hl).mono ?_; rintro e w1 ⟨A', c', rfl, h1, h2⟩)
    | (go_at_call 53; refine (sortT_any A' c' _ l _ h1 (by omega)).mono ?_; rintro e w2 ⟨rfl, h3, h4⟩))
  go_ret
  exact ⟨A', c', rfl, h3, h2.grown h4 h2.size (fun g hg => by have := ownsRow_base h1 hg; omega)⟩
end Go.Proofs.Ytbjjhnlifgbpmaa
