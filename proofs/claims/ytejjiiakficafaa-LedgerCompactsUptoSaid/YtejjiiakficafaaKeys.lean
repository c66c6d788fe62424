/- slices.Sorted(maps.Keys(m)) at an int-keyed map told as a sorted list: its keys, in order. -/
import Derived.Test.YtejjiiakficafaaSh
import Derived.Test.YtejjiiakficafaaDecide
import Derived.Test.YtejjiiakficafaaAppend
namespace Go.Proofs.Ytejjiiakficafaa
open Go.RowKit Go.Shelf Go.Maps Go.Sort

theorem intKeys_im {α : Type} (enc : α → Value) (m : List (Int × α)) : intKeys (imD enc m) = m.map (·.1) := by
  simp [intKeys, imD, Function.comp_def, Go.intOf]

theorem mergeSort_keys {α : Type} {m : List (Int × α)} (hs : m.Pairwise fun p q => p.1 < q.1) {ss : List Int} (h : ss.Perm (m.map (·.1))) : ss.mergeSort (fun x y => decide (x ≤ y)) = m.map (·.1) := by
  have tr : ∀ a b c : Int, (decide (a ≤ b)) = true → (decide (b ≤ c)) = true → (decide (a ≤ c)) = true := fun a b c h1 h2 => by simp only [decide_eq_true_eq] at *; omega
  have tot : ∀ a b : Int, ((decide (a ≤ b)) || (decide (b ≤ a))) = true := fun a b => by simp only [Bool.or_eq_true, decide_eq_true_eq]; omega
  refine List.Perm.eq_of_pairwise (le := fun a b => a ≤ b) (fun a b _ _ h1 h2 => Int.le_antisymm h1 h2) ?_ ?_ ((List.mergeSort_perm ss _).trans h)
  · exact (List.pairwise_mergeSort tr tot ss).imp (by intro a b h; simpa using h)
  · exact List.pairwise_map.2 (hs.imp (by intro a b h; exact Int.le_of_lt h))

theorem Try.sortsA (m : Nat) : AnyZI.SortsIn Try.prog Try.sortedA_ren Fence.wide m :=
  ⟨fun blk off cap ss W hH hblk hsz => callsIn_wide.2 (AnyM.slices_Sort_int Try.sortA blk off cap ss W hH hblk hsz),
   fun p cap W => callsIn_wide.2 (AnyM.slices_Sort_int_none Try.sortA p cap W)⟩

theorem keys_any (mb : Option Nat) (w : World) : Calls Try.prog 67 #[.map mb] w fun e w' => e = .returned (.func (.func 73) #[] #[.pointer (some ⟨w.heap.size, 0, none⟩)]) ∧ w' = w.alloc (.cells #[.map mb] 86) :=
  (callsIn_wide (n := 5)).1 (AnyZI.keys_in Try.keysA Fence.wide 5 trivial rfl mb w)

theorem sorted_any {α : Type} {enc : α → Value} (Bm mb nn : Nat) (m : List (Int × α)) (w : World) (hB : Blk w Bm [.map (some mb)]) (hM : IM Try.prog 3 w mb nn enc m) (hn : nn * 8 ≤ 140737488355328) :
    Calls Try.prog 66 #[.func (.func 73) #[] #[.pointer (some ⟨Bm, 0, none⟩)]] w fun e w' => ∃ A c, e = .returned (.slice A m.length c) ∧
      w'.ownsRow w.heap.size 3 1 (.slice A m.length c) m.length (m.map fun p => .int .i64 p.1) ∧ Below w.heap.size w w' := by
  have hle := hM.length_le
  have hmax : Maps.size (imD enc m) ≤ maxLen := by rw [imD_size]; simp only [maxLen]; omega
  have hbytes : Maps.size (imD enc m) * 8 ≤ 140737488355328 := by rw [imD_size]; omega
  have hseq : SeqGives Fence.wide 2 Try.prog 73 #[.pointer (some ⟨Bm, 0, none⟩)] encZ (fun ss => ss.Perm (intKeys (imD enc m))) (Maps.size (imD enc m)) w :=
    AnyZI.keys_gives (ρ := Try.keysA_ren) { Try.keysA with } Fence.wide _ trivial rfl (by omega) Bm mb nn _ _ hB.lt (hB.get rfl) hM
  have cS := AnyZI.sorted_in Try.sortedA Fence.wide 5 trivial trivial trivial trivial rfl (by omega) (Try.sortsA _) (enters_of Try.func72 (by kernel_rfl) rfl) 73 #[.pointer (some ⟨Bm, 0, none⟩)] trivial (enters_of Try.func73 (by kernel_rfl) rfl) _ _ hmax hbytes _ hseq
  refine (callsIn_wide (n := 5)).1 (cS.mono ?_)
  rintro e w' ⟨v, ss, rfl, hp, hrow, -, hb⟩
  rw [intKeys_im] at hp
  have hk := mergeSort_keys (hM.sorted Try.underlying3) hp
  rw [hk] at hrow
  have hl : ss.length = m.length := by rw [hp.length_eq, List.length_map]
  rw [hl] at hrow
  obtain ⟨A, c, rfl, _⟩ := ownsRow_tells hrow
  refine ⟨A, c, rfl, ?_, hb⟩
  rw [List.map_map] at hrow
  exact hrow
end Go.Proofs.Ytejjiiakficafaa
