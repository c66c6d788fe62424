/- A program's table beside the document's, of the same state; what a step on both leaves as it was. -/
import Derived.Test.YtjpmdjjihdicdaaGd
import Derived.Test.YtjpmdjjihdicdaaRefR
import Derived.Test.YtjpmdjjihdicdaaSm
import Derived.Test.YtjpmdjjihdicdaaOnce
namespace Go.Proofs.Ytjpmdjjihdicdaa
open Go.RowKit Go.Shelf

structure Both (w : World) (n0 tb mb nn rb : Nat) (gL : Option Nat) (m : List (Int × St)) : Prop where
  tab : Blk w tb [.map (some mb)]
  im : IM Try.prog 3 w mb nn stV m
  ref : ∃ A c vs, RefAt w n0 rb gL (m.map entOf) A c vs
  tl : tb < n0
  ml : mb < n0
  rl : rb < n0
  nl : n0 ≤ w.heap.size
  ne : tb ≠ rb
  good : GoodM m nn

/-- From w to w' nothing is written but the map, the document's box and its row. -/
structure FrS (w w' : World) (mb rb : Nat) (gL : Option Nat) : Prop where
  os : w'.os = w.os
  tape : w'.tape = w.tape
  output : w'.output = w.output
  size : w.heap.size ≤ w'.heap.size
  block : ∀ b, b < w.heap.size → b ≠ mb → b ≠ rb → some b ≠ gL → w'.heap[b]? = w.heap[b]?

theorem FrS.refl (w : World) (mb rb : Nat) (gL : Option Nat) : FrS w w mb rb gL := ⟨rfl, rfl, rfl, Nat.le_refl _, fun _ _ _ _ _ => rfl⟩
theorem FrS.of_below {w w' : World} (h : Below w.heap.size w w') (mb rb : Nat) (gL : Option Nat) : FrS w w' mb rb gL := ⟨h.os, h.tape, h.output, h.size, fun b hb _ _ _ => h.block b hb⟩
theorem FrS.of_grown {w w' : World} {mb : Nat} (h : w.grownBy w' (some mb)) (rb : Nat) (gL : Option Nat) : FrS w w' mb rb gL := ⟨h.os, h.tape, h.output, h.size, fun b hb h1 _ _ => h.block b hb (by simpa using h1)⟩
theorem FrS.of_ref {w w' : World} {rb : Nat} {gL : Option Nat} (h : FrR w w' rb gL) (mb : Nat) : FrS w w' mb rb gL := ⟨h.os, h.tape, h.output, h.size, fun b hb _ h2 h3 => h.block b hb h2 h3⟩
/-- A row that is new, or the elder one. -/
def NewOr (w : World) (gL gL' : Option Nat) : Prop := gL' = gL ∨ ∃ g, gL' = some g ∧ w.heap.size ≤ g
theorem FrS.tr {w w1 w2 : World} {mb rb : Nat} {gL gL' : Option Nat} (h : FrS w w1 mb rb gL) (k : FrS w1 w2 mb rb gL') (hg : NewOr w gL gL') : FrS w w2 mb rb gL :=
  ⟨k.os.trans h.os, k.tape.trans h.tape, k.output.trans h.output, Nat.le_trans h.size k.size, fun b hb h1 h2 h3 =>
    (k.block b (Nat.lt_of_lt_of_le hb h.size) h1 h2 (by
      rcases hg with rfl | ⟨g, rfl, hg⟩
      · exact h3
      · intro e; cases e; omega)).trans (h.block b hb h1 h2 h3)⟩
theorem NewOr.refl (w : World) (gL : Option Nat) : NewOr w gL gL := .inl rfl
theorem NewOr.tr {w w1 : World} {gL gL' gL2 : Option Nat} (h : NewOr w gL gL') (k : NewOr w1 gL' gL2) (hs : w.heap.size ≤ w1.heap.size) : NewOr w gL gL2 := by
  rcases k with rfl | ⟨g, rfl, hg⟩
  · exact h
  · exact .inr ⟨g, rfl, by omega⟩
theorem FrS.below {w0 w w' : World} {mb rb : Nat} {gL : Option Nat} (h : FrS w w' mb rb gL) {B : Nat} (hb : Below B w0 w) (hm : B ≤ mb) (hr : B ≤ rb) (hg : ∀ g, gL = some g → B ≤ g) (hB : B ≤ w.heap.size) : Below B w0 w' :=
  ⟨h.os.trans hb.os, h.tape.trans hb.tape, h.output.trans hb.output, Nat.le_trans hb.size h.size, fun b hbB =>
    (h.block b (by omega) (by omega) (by omega) (by intro e; have := hg b e.symm; omega)).trans (hb.block b hbB)⟩

section
variable {w w' : World} {n0 tb mb nn rb : Nat} {gL : Option Nat} {m : List (Int × St)}
theorem Both.lt (h : Both w n0 tb mb nn rb gL m) {b : Nat} (hb : b = tb ∨ b = mb ∨ b = rb ∨ some b = gL ∨ TyAt w b 93) : b < w.heap.size := by
  have := h.nl
  have := h.tl
  have := h.ml
  obtain ⟨A, c, vs, hr⟩ := h.ref
  rcases hb with rfl | rfl | hb
  · omega
  · omega
  · exact hr.lt hb
theorem Both.keep (h : Both w n0 tb mb nn rb gL m) (hk : ∀ b, b = tb ∨ b = mb ∨ b = rb ∨ some b = gL ∨ TyAt w b 93 → w'.heap[b]? = w.heap[b]?) (hs : w.heap.size ≤ w'.heap.size) : Both w' n0 tb mb nn rb gL m :=
  ⟨h.tab.of_heap (hk _ (.inl rfl)), h.im.of_heap (hk _ (.inr (.inl rfl))), h.ref.imp fun A h => h.imp fun c h => h.imp fun vs hr => hr.keep fun b hb => hk b (.inr (.inr hb)),
    h.tl, h.ml, h.rl, Nat.le_trans h.nl hs, h.ne, h.good⟩
theorem Both.below (h : Both w n0 tb mb nn rb gL m) (hb : Below w.heap.size w w') : Both w' n0 tb mb nn rb gL m :=
  h.keep (fun b hh => hb.block b (h.lt hh)) hb.size
theorem Both.mono' (h : Both w n0 tb mb nn rb gL m) {n' : Nat} (hn : nn ≤ n') : Both w n0 tb mb n' rb gL m :=
  ⟨h.tab, h.im.mono hn, h.ref, h.tl, h.ml, h.rl, h.nl, h.ne, h.good.mono hn⟩
theorem Both.gl (h : Both w n0 tb mb nn rb gL m) {g : Nat} (hg : gL = some g) : n0 ≤ g ∧ g < w.heap.size := by
  obtain ⟨A, c, vs, hr⟩ := h.ref
  exact ⟨hr.base hg, hr.lt (.inr (.inl hg.symm))⟩
theorem IM.ne_ty {α : Type} {enc : α → Value} {P : Program} {K : TypeId} {b n : Nat} {m : List (Int × α)} (h : IM P K w b n enc m) {c : Nat} {T : TypeId} (ht : TyAt w c T) : c ≠ b := by
  rintro rfl
  obtain ⟨es, clock, hb, _⟩ := h
  obtain ⟨cs, fz, e⟩ := ht
  rw [hb] at e
  cases e
theorem RefAt.rowTy {A : Option Addr} {c : Nat} {vs : List Value} {r : List Ent} (h : RefAt w n0 rb gL r A c vs) {g : Nat} (hg : gL = some g) : TyAt w g 92 := ownsRow_ty h.row (by rw [h.own]; exact hg)

/-- What the document's Note asks, and what it leaves of a pair whose map has turned. -/
theorem Both.turned (h : Both w n0 tb mb nn rb gL m) (hg : w.grownBy w' (some mb)) : ∃ A c vs, RefAt w' n0 rb gL (m.map entOf) A c vs := by
  obtain ⟨A, c, vs, hr⟩ := h.ref
  refine ⟨A, c, vs, hr.keep fun b hb => hg.block b (hr.lt hb) ?_⟩
  rintro e
  simp only [Option.some.injEq] at e
  subst e
  rcases hb with rfl | hb | hb
  · exact h.im.ne_ty hr.tabT rfl
  · exact h.im.ne_ty (hr.rowTy hb.symm) rfl
  · exact h.im.ne_ty hb rfl
/-- A pair behind both Notes. -/
theorem Both.noted {w1 w2 : World} {m' : List (Int × St)} {mm : Nat} (h : Both w n0 tb mb nn rb gL m) (hg : w.grownBy w1 (some mb)) (hM : IM Try.prog 3 w1 mb mm stV m') (hgd : GoodM m' mm)
    (hN : NoteAt w1 w2 n0 rb gL (m'.map entOf)) : ∃ gL', Both w2 n0 tb mb mm rb gL' m' ∧ NewOr w gL gL' ∧ FrS w w2 mb rb gL := by
  obtain ⟨gL', A', c', vs', hr, hgl, hf⟩ := hN
  have hml := h.ml
  have htl := h.tl
  have hnl := h.nl
  have hs := hg.size
  have hmr : mb ≠ rb := by
    obtain ⟨A, c, vs, hr0⟩ := h.ref
    exact (h.im.ne_ty hr0.tabT).symm
  have hgb : ∀ g, gL = some g → n0 ≤ g := fun g hh => (h.gl hh).1
  have hT1 : w1.heap[tb]? = w.heap[tb]? := hg.block tb (by omega) (by
    intro e
    simp only [Option.some.injEq] at e
    exact h.im.ne_cell (h.tab.get (j := 0) rfl) e)
  have hT2 : w2.heap[tb]? = w1.heap[tb]? := hf.block tb (by omega) h.ne (by intro e; have := hgb _ e.symm; omega)
  have hM2 : w2.heap[mb]? = w1.heap[mb]? := hf.block mb (by omega) hmr (by intro e; have := hgb _ e.symm; omega)
  refine ⟨gL', ⟨h.tab.of_heap (hT2.trans hT1), hM.of_heap hM2, ⟨A', c', vs', hr⟩, htl, hml, h.rl, Nat.le_trans (Nat.le_trans hnl hs) hf.size, h.ne, hgd⟩, ?_, (FrS.of_grown hg rb gL).tr (FrS.of_ref hf mb) (.inl rfl)⟩
  rcases hgl with rfl | ⟨g, rfl, hgg⟩
  · exact .inl rfl
  · exact .inr ⟨g, rfl, by omega⟩
end

theorem ks_ref {w2 W W' : World} {b n0 rb : Nat} {gL : Option Nat} {r : List Ent} (h : (∀ j, W.cell? ⟨b, j, none⟩ = w2.cell? ⟨b, j, none⟩) ∧ b < W.heap.size) (hN : NoteAt W W' n0 rb gL r) (hr : b ≠ rb) (hg : some b ≠ gL) :
    (∀ j, W'.cell? ⟨b, j, none⟩ = w2.cell? ⟨b, j, none⟩) ∧ b < W'.heap.size := by
  obtain ⟨_, _, _, _, _, _, hf⟩ := hN
  exact ⟨fun j => (World.cell?_of_block (w := W) (w' := W') (a := ⟨b, j, none⟩) (hf.block b h.2 hr hg)).trans (h.1 j), Nat.lt_of_lt_of_le h.2 hf.size⟩
theorem Both.far {w : World} {n0 tb mb nn rb : Nat} {gL : Option Nat} {m : List (Int × St)} (h : Both w n0 tb mb nn rb gL m) {b : Nat} (hb : w.heap.size ≤ b) : b ≠ mb ∧ b ≠ rb ∧ some b ≠ gL := by
  have := h.nl
  have := h.ml
  have := h.rl
  exact ⟨by omega, by omega, fun e => by have := (h.gl e.symm).2; omega⟩
theorem FrS.blk {w w' : World} {mb rb : Nat} {gL : Option Nat} (h : FrS w w' mb rb gL) {b : Nat} {vs : List Value} (hB : Blk w b vs) (hb : b ≠ mb ∧ b ≠ rb ∧ some b ≠ gL) : Blk w' b vs := hB.of_heap (h.block b hB.lt hb.1 hb.2.1 hb.2.2)

/-- From A on W holds as many rows as l has entries, and their batches in rows of theirs; the batches may be written. -/
def SpoilAt (W : World) (base : Nat) (A : Option Addr) (l : List Ent) : Prop :=
  ∀ i (h : i < l.length), ∃ g A' c', A = some ⟨g, 0, none⟩ ∧ TyAt W g 56 ∧ base ≤ g ∧ W.cell? ⟨g, i * 4 + 3, none⟩ = some (.slice A' l[i].last.length c') ∧
    ∀ k, k < l[i].last.length → ∃ b v, A' = some ⟨b, 0, none⟩ ∧ TyAt W b 73 ∧ base ≤ b ∧ W.cell? ⟨b, k * 3 + 2, none⟩ = some v ∧ W.frozen? ⟨b, k * 3 + 2, none⟩ = false
theorem SpoilAt.set {W : World} {base : Nat} {A : Option Addr} {l : List Ent} (h : SpoilAt W base A l) {b : Nat} (ht : TyAt W b 73) (j : Nat) (v : Value) : SpoilAt (W.setCell ⟨b, j, none⟩ v) base A l := fun i hi => by
  obtain ⟨g, A', c', hA, h1, h2, h3, h4⟩ := h i hi
  refine ⟨g, A', c', hA, h1.setCell _ _, h2, ?_, fun k hk => ?_⟩
  · rw [World.cell?_setCell_other _ _ _ _ (by intro e; injection e with e1; exact h1.ne ht (by decide) e1.symm)]
    exact h3
  · obtain ⟨b', v', e, k1, k2, k3, k4⟩ := h4 k hk
    by_cases he : (⟨b, j, none⟩ : Addr) = ⟨b', k * 3 + 2, none⟩
    · cases he
      exact ⟨_, v, e, k1.setCell _ _, k2, World.cell?_setCell_same _ _ _ k3, by rw [World.frozen?_setCell]; exact k4⟩
    · exact ⟨_, v', e, k1.setCell _ _, k2, by rw [World.cell?_setCell_other _ _ _ _ he]; exact k3, by rw [World.frozen?_setCell]; exact k4⟩
theorem SpoilAt.below {W W' : World} {base : Nat} {A : Option Addr} {l : List Ent} (h : SpoilAt W base A l) (hb : Below W.heap.size W W') : SpoilAt W' base A l := fun i hi => by
  obtain ⟨g, A', c', hA, h1, h2, h3, h4⟩ := h i hi
  refine ⟨g, A', c', hA, h1.of_heap (hb.block g h1.lt), h2, by rw [hb.cell (p := ⟨g, _, none⟩) h1.lt]; exact h3, fun k hk => ?_⟩
  obtain ⟨b', v', e, k1, k2, k3, k4⟩ := h4 k hk
  exact ⟨b', v', e, k1.of_heap (hb.block b' k1.lt), k2, by rw [hb.cell (p := ⟨b', _, none⟩) k1.lt]; exact k3, by rw [hb.frozen (p := ⟨b', _, none⟩) k1.lt]; exact k4⟩
theorem dnCells_get' (ds : List Dn) : ∀ k (h : k < ds.length), (dnCells ds)[k * 3]? = some (.int .i64 ds[k].seq) ∧ (dnCells ds)[k * 3 + 1]? = some (.int .i64 ds[k].len) ∧ (dnCells ds)[k * 3 + 2]? = some (.int .i64 ds[k].off) := by
  induction ds with
  | nil => intro k h; simp at h
  | cons d r ih =>
    intro k h
    cases k with
    | zero => exact ⟨rfl, rfl, rfl⟩
    | succ n =>
      obtain ⟨a, b, c⟩ := ih n (by simpa using h)
      have e : ∀ j, (dnCells (d :: r))[(n + 1) * 3 + j]? = (dnCells r)[n * 3 + j]? := fun j => by
        rw [show (n + 1) * 3 + j = 3 + (n * 3 + j) from by omega]
        show (dnL d ++ dnCells r)[3 + (n * 3 + j)]? = _
        rw [List.getElem?_append_right (by simp [dnL])]
        simp [dnL]
      exact ⟨(e 0).trans a, (e 1).trans b, (e 2).trans c⟩
theorem EntsOwn.spoil {W : World} {base : Nat} {A : Option Addr} {n c : Nat} {l : List Ent} (h : EntsOwn W base (.slice A n c) l) : SpoilAt W base A l := fun i hi => by
  obtain ⟨vs, hl, hrow, hin⟩ := h
  obtain ⟨A1, c1, e1, h1⟩ := ownsRow_tells hrow
  cases e1
  obtain ⟨g, rfl, hb, hlt, hc⟩ := h1 (by omega)
  obtain ⟨u, hu⟩ : ∃ u, vs[i]? = some u := ⟨vs[i]'(by omega), by simp [hl, hi]⟩
  have hown := hin i hi u hu
  obtain ⟨A', c', rfl, h2⟩ := ownsRow_tells hown
  refine ⟨g, A', c', rfl, ownsRow_ty hrow rfl, hb, hc _ _ (entCells_get l vs hl.symm i hi _ hu 3 _ rfl), fun k hk => ?_⟩
  obtain ⟨b, rfl, hb2, hlt2, hc2⟩ := h2 (by omega)
  exact ⟨b, _, rfl, ownsRow_ty hown rfl, hb2, hc2 _ _ (dnCells_get' l[i].last k hk).2.2, ownsRow_unf hown _⟩
theorem EntsOwn.ents {W : World} {base : Nat} {A : Option Addr} {n c : Nat} {l : List Ent} (h : EntsOwn W base (.slice A n c) l) : EntsAt W A l := fun i hi => by
  obtain ⟨vs, hl, hrow, hin⟩ := h
  obtain ⟨A1, c1, e1, h1⟩ := ownsRow_tells hrow
  cases e1
  obtain ⟨g, rfl, hb, hlt, hc⟩ := h1 (by omega)
  obtain ⟨u, hu⟩ : ∃ u, vs[i]? = some u := ⟨vs[i]'(by omega), by simp [hl, hi]⟩
  have hown := hin i hi u hu
  obtain ⟨A', c', rfl, h2⟩ := ownsRow_tells hown
  have hg := entCells_get l vs hl.symm i hi _ hu
  refine ⟨g, 0, A', c', rfl, hlt, by rw [Nat.zero_add]; exact hc _ _ (hg 0 _ rfl), by rw [Nat.zero_add]; exact hc _ _ (hg 1 _ rfl), by rw [Nat.zero_add]; exact hc _ _ (hg 2 _ rfl), by rw [Nat.zero_add]; exact hc _ _ (hg 3 _ rfl), fun k hk => ?_⟩
  obtain ⟨b, rfl, hb2, hlt2, hc2⟩ := h2 (by omega)
  obtain ⟨q1, q2, q3⟩ := dnCells_get' l[i].last k hk
  exact ⟨b, 0, rfl, hlt2, by rw [Nat.zero_add]; exact hc2 _ _ q1, by rw [Nat.zero_add]; exact hc2 _ _ q2, by rw [Nat.zero_add]; exact hc2 _ _ q3⟩
theorem EntsOwn.slice {W : World} {base : Nat} {v : Value} {l : List Ent} (h : EntsOwn W base v l) : ∃ A c, v = .slice A l.length c := by
  obtain ⟨vs, hl, hrow, hin⟩ := h
  obtain ⟨A1, c1, e1, h1⟩ := ownsRow_tells hrow
  exact ⟨A1, c1, e1⟩

theorem RecsAt.frS {W W' : World} {A : Option Addr} {rs : List Rec} {mb rb : Nat} {gL : Option Nat} (h : RecsAt W A rs) (hf : FrS W W' mb rb gL) (hne : ∀ b o, rs ≠ [] → A = some ⟨b, o, none⟩ → b ≠ mb ∧ b ≠ rb ∧ some b ≠ gL) : RecsAt W' A rs := by
  refine ⟨h.1, fun i hi => ?_⟩
  obtain ⟨bb, o, hA, hlt, c1, c2, c3, c4⟩ := h.2 i hi
  obtain ⟨n1, n2, n3⟩ := hne bb o (by rintro rfl; simp at hi) hA
  have e : ∀ j, W'.cell? ⟨bb, j, none⟩ = W.cell? ⟨bb, j, none⟩ := fun j => World.cell?_of_block (w := W) (w' := W') (a := ⟨bb, j, none⟩) (hf.block bb hlt n1 n2 n3)
  exact ⟨bb, o, hA, Nat.lt_of_lt_of_le hlt hf.size, by rw [e]; exact c1, by rw [e]; exact c2, by rw [e]; exact c3, c4⟩

set_option maxRecDepth 100000 in
set_option maxHeartbeats 1000000 in
theorem copied_new (k p ep s : Int) (t : Bool) (rs : List Rec) (A : Option Addr) (c : Nat) (w : World) (hc : RecsAt w A rs) :
    Calls Try.prog 11 #[.agg #[.int .i64 k, .int .i64 p, .int .i64 ep, .int .i64 s, .bool t, .slice A rs.length c]] w fun e w' => ∃ A' c', e = .returned (.agg #[.int .i64 k, .int .i64 p, .int .i64 ep, .int .i64 s, .bool t, .slice A' rs.length c']) ∧ RecsAt w' A' rs ∧ (∀ b o, rs ≠ [] → A' = some ⟨b, o, none⟩ → w.heap.size ≤ b) ∧ Below w.heap.size w w' := by
  obtain ⟨i0, hi0, hz0, hz1, hz2⟩ := info_parts info84
  have hone : ∀ u ∈ recCells rs, u.oneCell' = true := by
    intro u hu
    obtain ⟨r, _, hr⟩ := List.mem_flatMap.1 hu
    simp only [recV, List.mem_cons, List.not_mem_nil, or_false] at hr
    rcases hr with rfl | rfl | rfl <;> rfl
  have hbl := hc.1
  go_enter Try.func11, Try.ntmps11
  go_wp2_with (at_builtin; refine wpList_append_srcT rfl _ _ 28 rfl (w.heap.size + 1 + 1) 84 i0 _ 3 40 Try.underlying28 hi0 hz0 hz1 hz2 rfl (by omega) (.slice (some ⟨w.heap.size + 1 + 1, 0, none⟩) 0 0) 0 [] rfl ?hown A rs.length c (recCells rs) rfl ?hsrc hone ?h63 ?hby ?hbase ?nx; case' nx => intro A1 c1 w1 hown hg; have hB0 : Blk w1 w.heap.size [.int .i64 k, .int .i64 p, .int .i64 ep, .int .i64 s, .bool t, .slice A rs.length c] := Blk.grown (by (repeat' (first | (refine Blk.new' _ _ ?_; (simp; done)) | apply Blk.alloc))) hg (by simp [Value.ownBlock]; omega); have hB1 : Blk w1 (w.heap.size + 1) [.int .i64 0, .int .i64 0, .int .i64 0, .int .i64 0, .bool false, .slice none 0 0] := Blk.grown (by (repeat' (first | (refine Blk.new' _ _ ?_; (simp; done)) | apply Blk.alloc))) hg (by simp [Value.ownBlock]); have q0 := hB0.cell; have q1 := hB1.cell; have u0 := hB0.unf; have u1 := hB1.unf)
  case hown => simpa using ownsRow_empty ((w.alloc (.cells #[.int .i64 k, .int .i64 p, .int .i64 ep, .int .i64 s, .bool t, .slice A rs.length c] 30)).alloc (.cells #[.int .i64 0, .int .i64 0, .int .i64 0, .int .i64 0, .bool false, .slice none 0 0] 30)) 84 3 (w.heap.size + 1 + 1) (by simp)
  case hsrc => exact (hc.below (bl_alloc (bl_alloc (bl_alloc (Below.refl _ _) _) _) _)).src
  case h63 => simp only [maxLen]; omega
  case hby => omega
  case hbase => simp
  have hbB : Below w.heap.size w w1 := bl_gr (bl_alloc (bl_alloc (bl_alloc (Below.refl _ _) _) _) _) (g := w.heap.size + 1 + 1) (by simpa [Value.ownBlock] using hg) (by omega)
  simp only [Nat.zero_add, List.nil_append] at hown ⊢
  have hbf := bl_set (bl_set (bl_set (bl_set (bl_set (bl_set (bl_set hbB (p := ⟨w.heap.size, 5, none⟩) (by simp) (.slice A1 rs.length c1)) (p := ⟨w.heap.size + 1, 0, none⟩) (by simp) (.int .i64 k)) (p := ⟨w.heap.size + 1, 1, none⟩) (by simp) (.int .i64 p)) (p := ⟨w.heap.size + 1, 2, none⟩) (by simp) (.int .i64 ep)) (p := ⟨w.heap.size + 1, 3, none⟩) (by simp) (.int .i64 s)) (p := ⟨w.heap.size + 1, 4, none⟩) (by simp) (.bool t)) (p := ⟨w.heap.size + 1, 5, none⟩) (by simp) (.slice A1 rs.length c1)
  refine bodyPost_ret (v := .agg #[.int .i64 k, .int .i64 p, .int .i64 ep, .int .i64 s, .bool t, .slice A1 rs.length c1]) ?_ rfl ⟨A1, c1, rfl, ?_, ?_, hbf⟩
  · simp [results, Try.results11, go_sem, q1]
  · obtain ⟨A2, c2, e2, htl⟩ := ownsRow_tells hown
    cases e2
    refine RecsAt.of_row hbl (fun i hi => (hc.2 i hi).elim fun b h => h.elim fun o h => h.2.2.2.2.2) (fun hn => ?_)
    obtain ⟨g, hA, hb, hlt, hcell⟩ := htl hn
    refine ⟨g, hA, by simpa [World.setCell] using hlt, fun j u hu => ?_⟩
    have hne : ∀ (b o : Nat) (v : Value) (W : World), b < w.heap.size + 1 + 1 → (W.setCell ⟨b, o, none⟩ v).cell? ⟨g, j, none⟩ = W.cell? ⟨g, j, none⟩ := fun b o v W hb' => World.cell?_setCell_other _ _ _ _ (by intro e; injection e; omega)
    rw [hne _ _ _ _ (by omega), hne _ _ _ _ (by omega), hne _ _ _ _ (by omega), hne _ _ _ _ (by omega), hne _ _ _ _ (by omega), hne _ _ _ _ (by omega), hne _ _ _ _ (by omega)]
    exact hcell j u hu
  · intro b o hn hA
    obtain ⟨A2, c2, e2, htl⟩ := ownsRow_tells hown
    cases e2
    obtain ⟨g, hA2, hb, _⟩ := htl (fun e => hn (List.length_eq_zero_iff.1 e))
    rw [hA2] at hA
    cases hA
    omega

/-- A table behind an operation. -/
def stepM (m : List (Int × St)) (x : OpD) : List (Int × St) := if x.note = true then (noteF m x.k x.p x.ep x.s x.t x.rs x.off).2 else m
end Go.Proofs.Ytjpmdjjihdicdaa
