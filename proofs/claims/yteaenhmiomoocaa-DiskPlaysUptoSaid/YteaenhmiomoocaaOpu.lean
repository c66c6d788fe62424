/- Arguments opened with their bulk: for the '..UptoSaid' statements. -/
import Derived.Test.YteaenhmiomoocaaOpn
import Derived.Test.YteaenhmiomoocaaBulk
import Derived.Deep.CondSized
namespace Go.Proofs.Yteaenhmiomoocaa
open Go.RowKit Go.ChangeShapes Go.WideShapes Go.Deep

section
variable {H : Type} {enc : TypeId × Value → H} {P : Program} {w : World} {base : Nat} {spare : Nat → Bool} {held : Bool} {fuel : Nat} {t : TypeId} {cs : List Value} {x : DataW H × List MemPlace}
/-- A slice, opened as a list. -/
theorem open_listN {α : Type} [Inhabited α] {e : TypeId} (is : World → List Value → α → Prop) (size : Nat) (ht : P.underlying t = some (.slice e)) (hsz : P.cellsOf e = size) (hpos : 0 < size)
    (helem : ∀ fuel cs x, DataW.trod enc P w base spare held fuel e cs = some x → Sized P e x.1 → ∃ a, is w cs a)
    (h : DataW.trod enc P w base spare held fuel t cs = some x) (hs : Sized P t x.1) :
    ∃ (A : Option Addr) (c : Nat) (l : List α), cs = [.slice A l.length c] ∧ l.length ≤ c ∧ SlAt w A size is l ∧ l.length * P.bytesOf e ≤ reachBytes ∧ (l = [] ∨ ∃ elems spare, x.1 = .slice elems spare ∧ elems.length = l.length) := by
  rcases open_slice ht h with ⟨rfl, rfl⟩ | ⟨a, len, cap, m, n, D, Pl, rfl, hb, hl, hm, hmm, rfl, hx⟩
  · exact ⟨none, 0, [], rfl, Nat.le_refl _, fun i hi => by simp at hi, by simp, .inl rfl⟩
  · have hle : len ≤ m := by rw [hmm]; split <;> omega
    have hspot : 0 < len → a.spot = none := fun h0 => by
      obtain ⟨cs', h1, _⟩ := hx 0 (by omega)
      rw [hsz] at h1
      obtain ⟨_, hlen, hcell⟩ := World.cells?_some h1
      have h0 := hcell 0 hpos
      rw [List.getElem?_eq_getElem (by omega)] at h0
      simpa [Addr.add] using World.cell?_spot h0
    obtain ⟨f, hf⟩ := choose_lt (n := len) (p := fun i y => ∃ b o cs', a = ⟨b, o, none⟩ ∧ b < w.heap.size ∧ cs'.length = size ∧ (∀ j, j < size → w.cell? ⟨b, o + i * size + j, none⟩ = cs'[j]?) ∧ is w cs' y) (fun i hi => by
      obtain ⟨cs', h1, h2⟩ := hx i (by omega)
      rw [hsz] at h1
      obtain ⟨_, hlen, hcell⟩ := World.cells?_some h1
      obtain ⟨y, hy⟩ := helem _ _ _ h2 (hs.elem ht (List.mem_map.2 ⟨i, List.mem_range.2 hi, rfl⟩))
      have hsp := hspot (by omega)
      obtain ⟨b, off, spot⟩ := a
      subst hsp
      have h0 := hcell 0 hpos
      rw [List.getElem?_eq_getElem (by omega)] at h0
      refine ⟨y, b, off, cs', rfl, ?_, hlen, fun j hj => ?_, hy⟩
      · rw [add_plain, add_plain] at h0
        exact lt_of_cell h0
      · have := hcell j hj
        rw [add_plain, add_plain] at this
        exact this)
    refine ⟨some a, cap, (List.range len).map f, by simp, by simpa using hl, fun i hi => ?_, ?_, .inr ⟨_, _, rfl, by simp⟩⟩
    · have hi' : i < len := by simpa using hi
      obtain ⟨b, o, cs', ha, h1, h2, h3, h4⟩ := hf i hi'
      exact ⟨b, o, cs', by rw [ha], h1, h2, h3, by simpa using h4⟩
    · have := hs.bytes ht
      simp only [List.length_map, List.length_range] at this ⊢
      exact Nat.le_trans (Nat.mul_le_mul_right _ (Nat.le_add_right _ _)) this

end
/-- Its length is within the bulk. -/
theorem bulk_len {H α : Type} {l : List α} {d : DataW H} {ds : List (DataW H)} (h : l = [] ∨ ∃ elems spare, d = .slice elems spare ∧ elems.length = l.length) (hk : Rows.uptoSmall H ds = true) (hd : d ∈ ds) : l.length ≤ 1048576 := by
  rcases h with rfl | ⟨e, s, rfl, hl⟩
  · simp
  · have h1 := bulks.bound hk
    have h2 := bulks.part_le hd
    have h3 := bulks.slice_le e s
    omega
end Go.Proofs.Yteaenhmiomoocaa
