/- Arguments opened: slices of whatever elements as lists, structs by their fields, what is read with its size. Over any program. -/
import Derived.Deep.Slices
import Derived.SizedLaws
import Derived.ProofKit
import Derived.Test.YtejjiiakficafaaFM
namespace Go.Proofs.Ytejjiiakficafaa
open Go.RowKit Go.ChangeShapes Go.WideShapes Go.Deep

/-- What is read is within the form's reach. -/
def Sized {H : Type} (P : Program) (t : TypeId) (d : DataW H) : Prop := ∀ n ∈ d.weights P t, n ≤ reachBytes

/-- From address A on w holds the elements l, each of so many cells. -/
def SlAt {α : Type} (w : World) (A : Option Addr) (size : Nat) (is : World → List Value → α → Prop) (l : List α) : Prop :=
  ∀ i (h : i < l.length), ∃ b o cs, A = some ⟨b, o, none⟩ ∧ b < w.heap.size ∧ cs.length = size ∧ (∀ j, j < size → w.cell? ⟨b, o + i * size + j, none⟩ = cs[j]?) ∧ is w cs l[i]

theorem SlAt.below {α : Type} {w w' : World} {A : Option Addr} {size : Nat} {is : World → List Value → α → Prop} {l : List α} (h : SlAt w A size is l) (hb : Below w.heap.size w w')
    (his : ∀ cs a, is w cs a → is w' cs a) : SlAt w' A size is l := fun i hi => by
  obtain ⟨b, o, cs, hA, hlt, hl, hc, hx⟩ := h i hi
  exact ⟨b, o, cs, hA, Nat.lt_of_lt_of_le hlt hb.size, hl, fun j hj => (hb.cell (p := ⟨b, _, none⟩) hlt).trans (hc j hj), his _ _ hx⟩

section
variable {H : Type} {enc : TypeId × Value → H} {P : Program} {w : World} {base : Nat} {spare : Nat → Bool} {held : Bool} {fuel : Nat} {t : TypeId} {cs : List Value} {x : DataW H × List MemPlace}

theorem lt_of_cell {w : World} {b o : Nat} {v : Value} (h : w.cell? ⟨b, o, none⟩ = some v) : b < w.heap.size := by
  rcases Nat.lt_or_ge b w.heap.size with hlt | hge
  · exact hlt
  · simp [World.cell?, Array.getElem?_eq_none hge] at h

theorem weightsAll_mem {P : Program} {e : TypeId} : ∀ {l : List (DataW H)} {d : DataW H}, d ∈ l → ∀ n ∈ d.weights P e, n ∈ DataW.weightsAll P e l
  | y :: r, d, hd, n, hn => by
    simp only [DataW.weightsAll, List.mem_append]
    rcases List.mem_cons.1 hd with rfl | hd
    · exact Or.inl hn
    · exact Or.inr (weightsAll_mem hd n hn)
theorem Sized.elem {e : TypeId} {elems spare : List (DataW H)} (ht : P.underlying t = some (.slice e)) (h : Sized P t (.slice elems spare)) {d : DataW H} (hd : d ∈ elems) : Sized P e d := fun n hn =>
  h n (by simp only [DataW.weights, ht]; exact List.mem_cons_of_mem _ (List.mem_append_left _ (weightsAll_mem hd n hn)))
theorem Sized.bytes {e : TypeId} {elems spare : List (DataW H)} (ht : P.underlying t = some (.slice e)) (h : Sized P t (.slice elems spare)) : (elems.length + spare.length) * P.bytesOf e ≤ reachBytes :=
  h _ (by simp only [DataW.weights, ht]; exact List.mem_cons_self)
theorem Sized.field {fs : Array Field} {ds : List (DataW H)} (ht : P.underlying t = some (.struct fs)) (h : Sized P t (.agg ds)) {i : Nat} {f : Field} {d : DataW H} (hf : fs[i]? = some f) (hd : ds[i]? = some d) : Sized P f.type d := fun n hn =>
  h n (by simp only [DataW.weights, ht]; exact DataW.weights_mem_each (j := i) (by simp [hf]) hd n hn)
theorem Sized.string {b : List UInt8} (h : Sized (H := H) P t (.lit (.string b))) : b.length ≤ reachBytes := h _ (by simp [DataW.weights])
theorem Sized.arg {ts : List TypeId} {ds : List (DataW H)} (h : (DataW.weightsEach P ts ds).all (· ≤ reachBytes) = true) {j : Nat} {t : TypeId} {d : DataW H} (ht : ts[j]? = some t) (hd : ds[j]? = some d) : Sized P t d := fun n hn => by
  simpa using List.all_eq_true.1 h _ (DataW.weights_mem_each ht hd n hn)

/-- A slice, opened as a list. -/
theorem open_list {α : Type} [Inhabited α] {e : TypeId} (is : World → List Value → α → Prop) (size : Nat) (ht : P.underlying t = some (.slice e)) (hsz : P.cellsOf e = size) (hpos : 0 < size)
    (helem : ∀ fuel cs x, DataW.trod enc P w base spare held fuel e cs = some x → Sized P e x.1 → ∃ a, is w cs a)
    (h : DataW.trod enc P w base spare held fuel t cs = some x) (hs : Sized P t x.1) :
    ∃ (A : Option Addr) (c : Nat) (l : List α), cs = [.slice A l.length c] ∧ l.length ≤ c ∧ SlAt w A size is l ∧ l.length * P.bytesOf e ≤ reachBytes := by
  rcases open_slice ht h with ⟨rfl, rfl⟩ | ⟨a, len, cap, m, n, D, Pl, rfl, hb, hl, hm, hmm, rfl, hx⟩
  · exact ⟨none, 0, [], rfl, Nat.le_refl _, fun i hi => by simp at hi, by simp⟩
  · have hle : len ≤ m := by rw [hmm]; split <;> omega
    have hspot : 0 < len → a.spot = none := fun h0 => by
      obtain ⟨cs', h1, _⟩ := hx 0 (by omega)
      rw [hsz] at h1
      obtain ⟨_, hlen, hcell⟩ := World.cells?_some h1
      have h0 := hcell 0 hpos
      rw [List.getElem?_eq_getElem (by omega)] at h0
      simpa [Addr.add] using World.cell?_spot h0
    obtain ⟨f, hf⟩ := choose_lt (n := len) (p := fun i y => ∃ b o cs', a = ⟨b, o, none⟩ ∧ b < w.heap.size ∧ cs'.length = size ∧ (∀ j, j < size → w.cell? ⟨b, o + i * size + j, none⟩ = cs'[j]?) ∧ is w cs' y) (fun i hi => by
      obtain ⟨cs', h1, h2⟩ := hx i (by omega)
      rw [hsz] at h1
      obtain ⟨_, hlen, hcell⟩ := World.cells?_some h1
      obtain ⟨y, hy⟩ := helem _ _ _ h2 (hs.elem ht (List.mem_map.2 ⟨i, List.mem_range.2 hi, rfl⟩))
      have hsp := hspot (by omega)
      obtain ⟨b, off, spot⟩ := a
      subst hsp
      have h0 := hcell 0 hpos
      rw [List.getElem?_eq_getElem (by omega)] at h0
      refine ⟨y, b, off, cs', rfl, ?_, hlen, fun j hj => ?_, hy⟩
      · rw [add_plain, add_plain] at h0
        exact lt_of_cell h0
      · have := hcell j hj
        rw [add_plain, add_plain] at this
        exact this)
    refine ⟨some a, cap, (List.range len).map f, by simp, by simpa using hl, fun i hi => ?_, ?_⟩
    · have hi' : i < len := by simpa using hi
      obtain ⟨b, o, cs', ha, h1, h2, h3, h4⟩ := hf i hi'
      exact ⟨b, o, cs', by rw [ha], h1, h2, h3, by simpa using h4⟩
    · have := hs.bytes ht
      simp only [List.length_map, List.length_range] at this ⊢
      exact Nat.le_trans (Nat.mul_le_mul_right _ (Nat.le_add_right _ _)) this

/-- A struct, opened by its fields. -/
theorem open_struct {fs : Array Field} (ht : P.underlying t = some (.struct fs)) (h : DataW.trod enc P w base spare held fuel t cs = some x) (hs : Sized P t x.1) :
    ∃ n, cs.length = P.cellsOf t ∧ ∀ (i ty off k : Nat), (fs[i]?).map (fun f => (f.type, f.offset)) = some (ty, off) → P.cellsOf ty = k → ∃ y, DataW.trod enc P w base spare held n ty ((cs.drop off).take k) = some y ∧ Sized P ty y.1 := by
  obtain ⟨xs, n, _, rfl, hl, hlen, hf⟩ := DataW.trod_struct ht h
  refine ⟨n, hl, fun i ty off k hi hk => ?_⟩
  obtain ⟨f, hg, e⟩ := Option.map_eq_some_iff.1 hi
  clear hi
  cases e
  subst hk
  have hlt : i < fs.size := (Array.getElem?_eq_some_iff.1 hg).1
  have h1 := hf i f hg
  rw [List.getElem?_eq_getElem (by omega)] at h1
  exact ⟨xs[i], h1, hs.field ht hg (by simp [List.getElem?_eq_getElem (show i < xs.length by omega)])⟩

theorem cut_eq {cs p : List Value} {a b : Nat} (h : (cs.drop a).take b = p) : cs.drop a = p ++ cs.drop (a + b) := by
  rw [← h, ← List.drop_drop, List.take_append_drop]
theorem cut_end {cs : List Value} {n : Nat} (h : cs.length = n) : cs.drop n = [] := by rw [← h]; simp

theorem open_i64 (ht : P.underlying t = some (.int .i64)) (h : DataW.trod enc P w base spare held fuel t cs = some x) : ∃ n : Int, cs = [.int .i64 n] ∧ okI n := by
  obtain ⟨n, h1, _, h3⟩ := DataW.trod_int ht h
  exact ⟨n, h1, by simpa [Lit.wf, IntKind.min, IntKind.max, IntKind.signed, IntKind.bits, okI] using h3⟩
theorem open_bl (ht : P.underlying t = some .bool) (h : DataW.trod enc P w base spare held fuel t cs = some x) : ∃ b : Bool, cs = [.bool b] := by
  obtain ⟨n, h1, _⟩ := DataW.trod_bool ht h
  exact ⟨n, h1⟩
theorem open_str (ht : P.underlying t = some .string) (h : DataW.trod enc P w base spare held fuel t cs = some x) (hs : Sized P t x.1) : ∃ s : ByteArray, cs = [.string s] ∧ s.size ≤ 140737488351232 := by
  obtain ⟨s, h1, h2, _⟩ := DataW.trod_string ht h
  refine ⟨s, h1, ?_⟩
  rw [h2] at hs
  have := hs.string
  rw [Array.length_toList] at this
  exact this
end
end Go.Proofs.Ytejjiiakficafaa
