/- Entries that came in, opened, with their bulk. -/
import Derived.Test.YtejjiiakficafaaOpen
import Derived.OpenShut
import Derived.Test.YtejjiiakficafaaKn
import Derived.Test.YtejjiiakficafaaBulk
import Derived.Deep.CondSized
namespace Go.Proofs.Ytejjiiakficafaa
open Go.ChangeShapes Go.WideShapes Go.ChangeAt Go.RowKit Go.Deep

theorem Try.laidOut : laidOutB Try.prog = true := by kernel_rfl
theorem Try.own : ownKnob Try.prog.godebug = none := by kernel_rfl
theorem c3 : Try.prog.cellsOf 3 = 1 := by kernel_rfl
theorem c4 : Try.prog.cellsOf 4 = 1 := by kernel_rfl
theorem c9 : Try.prog.cellsOf 9 = 1 := by kernel_rfl
theorem c28 : Try.prog.cellsOf 28 = 1 := by kernel_rfl
theorem c30 : Try.prog.cellsOf 30 = 6 := by kernel_rfl
theorem c34 : Try.prog.cellsOf 34 = 8 := by kernel_rfl
theorem c43 : Try.prog.cellsOf 43 = 3 := by kernel_rfl
theorem b34 : Try.prog.bytesOf 34 = 80 := by kernel_rfl
theorem b43 : Try.prog.bytesOf 43 = 40 := by kernel_rfl

section
variable {H : Type} {enc : TypeId × Value → H} {w : World} {base : Nat} {spare : Nat → Bool} {held : Bool} {fuel : Nat} {cs : List Value} {x : DataW H × List MemPlace}

def isRec (_ : World) (cs : List Value) (r : Rec) : Prop := cs = recV r ∧ r.key.size ≤ 140737488351232 ∧ r.val.size ≤ 140737488351232
theorem open_rec (h : DataW.trod enc Try.prog w base spare held fuel 43 cs = some x) (hs : Sized Try.prog 43 x.1) : ∃ r : Rec, isRec w cs r := by
  obtain ⟨n, hl, hf⟩ := open_struct Try.underlying43 h hs
  obtain ⟨y0, h0, s0⟩ := hf 0 9 0 1 rfl c9
  obtain ⟨y1, h1, s1⟩ := hf 1 9 1 1 rfl c9
  obtain ⟨y2, h2, _⟩ := hf 2 4 2 1 rfl c4
  obtain ⟨a0, e0, z0⟩ := open_str Try.underlying9 h0 s0
  obtain ⟨a1, e1, z1⟩ := open_str Try.underlying9 h1 s1
  obtain ⟨a2, e2⟩ := open_bl Try.underlying4 h2
  rw [c43] at hl
  replace e0 := cut_eq e0
  replace e1 := cut_eq e1
  replace e2 := cut_eq e2
  simp only [Nat.reduceAdd, List.drop_zero, cut_end hl] at e0 e1 e2
  exact ⟨⟨a0, a1, a2⟩, by rw [e0, e1, e2]; rfl, z0, z1⟩

theorem recsAt_of {w : World} {A : Option Addr} {rs : List Rec} (h : SlAt w A 3 isRec rs) (hn : rs.length * 40 ≤ 140737488351232) : RecsAt w A rs := by
  refine ⟨by omega, fun i hi => ?_⟩
  obtain ⟨b, o, cs, hA, hlt, hl, hc, hx, z0, z1⟩ := h i hi
  subst hx
  exact ⟨b, o, hA, hlt, hc 0 (by omega), hc 1 (by omega), hc 2 (by omega), z0, z1⟩


def En.fits (x : En) : Prop := okI x.kind ∧ okI x.n ∧ okI x.b.k ∧ okI x.b.p ∧ okI x.b.ep ∧ okI x.b.s
def isEn (w : World) (cs : List Value) (o : En) : Prop := o.fits ∧ ∃ A c, RecsAt w A o.b.rs ∧ cs = [.int .i64 o.kind, .int .i64 o.n, .int .i64 o.b.k, .int .i64 o.b.p, .int .i64 o.b.ep, .int .i64 o.b.s, .bool o.b.t, .slice A o.b.rs.length c]
theorem open_en (h : DataW.trod enc Try.prog w base spare held fuel 34 cs = some x) (hs : Sized Try.prog 34 x.1) : ∃ o : En, isEn w cs o := by
  obtain ⟨n, hl, hf⟩ := open_struct Try.underlying34 h hs
  obtain ⟨y0, h0, s0⟩ := hf 0 3 0 1 rfl c3
  obtain ⟨y2, h2, s2⟩ := hf 1 3 1 1 rfl c3
  obtain ⟨y1, h1, s1⟩ := hf 2 30 2 6 rfl c30
  obtain ⟨a0, e0, f0⟩ := open_i64 Try.underlying3 h0
  obtain ⟨a2, e2, f2⟩ := open_i64 Try.underlying3 h2
  obtain ⟨m, hl1, hf1⟩ := open_struct Try.underlying30 h1 s1
  obtain ⟨u0, g0, t0⟩ := hf1 0 3 0 1 rfl c3
  obtain ⟨u1, g1, t1⟩ := hf1 1 3 1 1 rfl c3
  obtain ⟨u2, g2, t2⟩ := hf1 2 3 2 1 rfl c3
  obtain ⟨u3, g3, t3⟩ := hf1 3 3 3 1 rfl c3
  obtain ⟨u4, g4, t4⟩ := hf1 4 4 4 1 rfl c4
  obtain ⟨u5, g5, t5⟩ := hf1 5 28 5 1 rfl c28
  obtain ⟨k0, d0, o0⟩ := open_i64 Try.underlying3 g0
  obtain ⟨k1, d1, o1⟩ := open_i64 Try.underlying3 g1
  obtain ⟨k2, d2, o2⟩ := open_i64 Try.underlying3 g2
  obtain ⟨k3, d3, o3⟩ := open_i64 Try.underlying3 g3
  obtain ⟨k4, d4⟩ := open_bl Try.underlying4 g4
  obtain ⟨A, c, rs, d5, _, hrs, hrn⟩ := open_list isRec 3 Try.underlying28 c43 (by omega) (fun _ _ _ => open_rec) g5 t5
  rw [b43] at hrn
  rw [c34] at hl
  rw [c30] at hl1
  replace e0 := cut_eq e0
  replace e2 := cut_eq e2
  have e1 := cut_eq (cs := cs) (a := 2) (b := 6) rfl
  replace d0 := cut_eq d0
  replace d1 := cut_eq d1
  replace d2 := cut_eq d2
  replace d3 := cut_eq d3
  replace d4 := cut_eq d4
  replace d5 := cut_eq d5
  simp only [Nat.reduceAdd, List.drop_zero, cut_end hl, cut_end hl1] at e0 e1 e2 d0 d1 d2 d3 d4 d5
  refine ⟨⟨a0, a2, ⟨k0, k1, k2, k3, k4, rs⟩⟩, ⟨f0, f2, o0, o1, o2, o3⟩, A, c, recsAt_of hrs hrn, ?_⟩
  rw [e0, e2, e1, d0, d1, d2, d3, d4, d5]
  rfl
end

/-- From A on w holds the entries l. -/
def EnsAt (w : World) (A : Option Addr) (l : List En) : Prop :=
  ∀ i (h : i < l.length), ∃ b o A' c', A = some ⟨b, o, none⟩ ∧ b < w.heap.size ∧ RecsAt w A' l[i].b.rs ∧ l[i].fits ∧ w.cell? ⟨b, o + i * 8, none⟩ = some (.int .i64 l[i].kind) ∧ w.cell? ⟨b, o + i * 8 + 1, none⟩ = some (.int .i64 l[i].n) ∧
    w.cell? ⟨b, o + i * 8 + 2, none⟩ = some (.int .i64 l[i].b.k) ∧ w.cell? ⟨b, o + i * 8 + 3, none⟩ = some (.int .i64 l[i].b.p) ∧ w.cell? ⟨b, o + i * 8 + 4, none⟩ = some (.int .i64 l[i].b.ep) ∧ w.cell? ⟨b, o + i * 8 + 5, none⟩ = some (.int .i64 l[i].b.s) ∧
    w.cell? ⟨b, o + i * 8 + 6, none⟩ = some (.bool l[i].b.t) ∧ w.cell? ⟨b, o + i * 8 + 7, none⟩ = some (.slice A' l[i].b.rs.length c')
theorem ensAt_of {w : World} {A : Option Addr} {l : List En} (h : SlAt w A 8 isEn l) : EnsAt w A l := fun i hi => by
  obtain ⟨b, o, cs, hA, hlt, hl, hc, hf, A', c', hr, rfl⟩ := h i hi
  exact ⟨b, o, A', c', hA, hlt, hr, hf, hc 0 (by omega), hc 1 (by omega), hc 2 (by omega), hc 3 (by omega), hc 4 (by omega), hc 5 (by omega), hc 6 (by omega), hc 7 (by omega)⟩
theorem EnsAt.below {w w' : World} {A : Option Addr} {l : List En} (h : EnsAt w A l) (hb : Below w.heap.size w w') : EnsAt w' A l := fun i hi => by
  obtain ⟨b, o, A', c', hA, hlt, hr, hf, c0, c1, c2, c3, c4, c5, c6, c7⟩ := h i hi
  have e : ∀ j, w'.cell? ⟨b, j, none⟩ = w.cell? ⟨b, j, none⟩ := fun j => hb.cell (p := ⟨b, j, none⟩) hlt
  exact ⟨b, o, A', c', hA, Nat.lt_of_lt_of_le hlt hb.size, hr.below hb, hf, by rw [e]; exact c0, by rw [e]; exact c1, by rw [e]; exact c2, by rw [e]; exact c3, by rw [e]; exact c4, by rw [e]; exact c5, by rw [e]; exact c6, by rw [e]; exact c7⟩

section
variable {H : Type} {enc : TypeId × Value → H} {P : Program} {w : World} {base : Nat} {spare : Nat → Bool} {held : Bool} {fuel : Nat} {t : TypeId} {cs : List Value} {x : DataW H × List MemPlace}
/-- A slice, opened as a list. -/
theorem open_listN {α : Type} [Inhabited α] {e : TypeId} (is : World → List Value → α → Prop) (size : Nat) (ht : P.underlying t = some (.slice e)) (hsz : P.cellsOf e = size) (hpos : 0 < size)
    (helem : ∀ fuel cs x, DataW.trod enc P w base spare held fuel e cs = some x → Sized P e x.1 → ∃ a, is w cs a)
    (h : DataW.trod enc P w base spare held fuel t cs = some x) (hs : Sized P t x.1) :
    ∃ (A : Option Addr) (c : Nat) (l : List α), cs = [.slice A l.length c] ∧ l.length ≤ c ∧ SlAt w A size is l ∧ l.length * P.bytesOf e ≤ reachBytes ∧ (l = [] ∨ ∃ elems spare, x.1 = .slice elems spare ∧ elems.length = l.length) := by
  rcases open_slice ht h with ⟨rfl, rfl⟩ | ⟨a, len, cap, m, n, D, Pl, rfl, hb, hl, hm, hmm, rfl, hx⟩
  · exact ⟨none, 0, [], rfl, Nat.le_refl _, fun i hi => by simp at hi, by simp, .inl rfl⟩
  · have hle : len ≤ m := by rw [hmm]; split <;> omega
    have hspot : 0 < len → a.spot = none := fun h0 => by
      obtain ⟨cs', h1, _⟩ := hx 0 (by omega)
      rw [hsz] at h1
      obtain ⟨_, hlen, hcell⟩ := World.cells?_some h1
      have h0 := hcell 0 hpos
      rw [List.getElem?_eq_getElem (by omega)] at h0
      simpa [Addr.add] using World.cell?_spot h0
    obtain ⟨f, hf⟩ := choose_lt (n := len) (p := fun i y => ∃ b o cs', a = ⟨b, o, none⟩ ∧ b < w.heap.size ∧ cs'.length = size ∧ (∀ j, j < size → w.cell? ⟨b, o + i * size + j, none⟩ = cs'[j]?) ∧ is w cs' y) (fun i hi => by
      obtain ⟨cs', h1, h2⟩ := hx i (by omega)
      rw [hsz] at h1
      obtain ⟨_, hlen, hcell⟩ := World.cells?_some h1
      obtain ⟨y, hy⟩ := helem _ _ _ h2 (hs.elem ht (List.mem_map.2 ⟨i, List.mem_range.2 hi, rfl⟩))
      have hsp := hspot (by omega)
      obtain ⟨b, off, spot⟩ := a
      subst hsp
      have h0 := hcell 0 hpos
      rw [List.getElem?_eq_getElem (by omega)] at h0
      refine ⟨y, b, off, cs', rfl, ?_, hlen, fun j hj => ?_, hy⟩
      · rw [add_plain, add_plain] at h0
        exact lt_of_cell h0
      · have := hcell j hj
        rw [add_plain, add_plain] at this
        exact this)
    refine ⟨some a, cap, (List.range len).map f, by simp, by simpa using hl, fun i hi => ?_, ?_, .inr ⟨_, _, rfl, by simp⟩⟩
    · have hi' : i < len := by simpa using hi
      obtain ⟨b, o, cs', ha, h1, h2, h3, h4⟩ := hf i hi'
      exact ⟨b, o, cs', by rw [ha], h1, h2, h3, by simpa using h4⟩
    · have := hs.bytes ht
      simp only [List.length_map, List.length_range] at this ⊢
      exact Nat.le_trans (Nat.mul_le_mul_right _ (Nat.le_add_right _ _)) this

end
/-- Its length is within the bulk. -/
theorem bulk_len {H α : Type} {l : List α} {d : DataW H} {ds : List (DataW H)} (h : l = [] ∨ ∃ elems spare, d = .slice elems spare ∧ elems.length = l.length) (hk : Rows.uptoSmall H ds = true) (hd : d ∈ ds) : l.length ≤ 1048576 := by
  rcases h with rfl | ⟨e, s, rfl, hl⟩
  · simp
  · have h1 := bulks.bound hk
    have h2 := bulks.part_le hd
    have h3 := bulks.slice_le e s
    omega
end Go.Proofs.Ytejjiiakficafaa
