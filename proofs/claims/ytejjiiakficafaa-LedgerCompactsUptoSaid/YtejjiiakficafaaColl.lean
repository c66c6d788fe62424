/- slices.Collect of a state's last batches: a new slice that holds them. -/
import Derived.Test.YtejjiiakficafaaDecide
import Derived.Test.YtejjiiakficafaaAppend
namespace Go.Proofs.Ytejjiiakficafaa
open Go.RowKit Go.Shelf
attribute [local go_sem] Oper.semAt_some

def dnL (d : Dn) : List Value := [.int .i64 d.seq, .int .i64 d.len, .int .i64 d.off]
def dnCells (ds : List Dn) : List Value := ds.flatMap dnL
theorem dnCells_snoc (ds : List Dn) (d : Dn) : dnCells (ds ++ [d]) = dnCells ds ++ dnL d := by simp [dnCells]
theorem info73 : (Try.prog.info? 92).map (fun i => (i.zero, i.size, i.bytes)) = some (some (.agg #[.int .i64 0, .int .i64 0, .int .i64 0]), 3, 24) := by kernel_rfl

theorem ownsRow_base {w : World} {base : Nat} {e : TypeId} {size : Nat} {v : Value} {n : Nat} {xs : List Value} (h : w.ownsRow base e size v n xs) {g : Nat} (hg : v.ownBlock = some g) : base ≤ g := by
  obtain ⟨_, ⟨rfl, _⟩ | ⟨g', cap, cur, rfl, hb, _⟩⟩ := h
  · cases hg
  · simp [Value.ownBlock] at hg; omega
/-- A row of the call's own is no block that is no row. -/
theorem ownsRow_other {w w' : World} {base : Nat} {e : TypeId} {size : Nat} {v : Value} {n : Nat} {xs : List Value} (h : w.ownsRow base e size v n xs) {row : Option Nat} (hg : w.grownBy w' row)
    (hr : ∀ r, row = some r → ∃ o : Obj, w.heap[r]? = some o ∧ o.isCells = false) : w'.ownsRow base e size v n xs := by
  refine h.kept hg ?_
  obtain ⟨_, ⟨e1, h0⟩ | ⟨g, cap, cur, e1, _, hh, _⟩⟩ := h
  · rw [e1]; exact .inl rfl
  · rw [e1]; refine .inr (by rintro e; obtain ⟨o, ho, hc⟩ := hr g e.symm; rw [hh] at ho; cases ho; simp [Obj.isCells] at hc)

theorem bl_set' {B : Nat} {a w w' : World} {row : Option Nat} (h : Below B a w) (hg : w.grownBy w' row) (hr : ∀ g, row = some g → B ≤ g) (v : Value) {b : Nat} (hb : B ≤ b) (hs : B ≤ w.heap.size) : Below B a (w'.setCell ⟨b, 0, none⟩ v) :=
  (h.grown hg hs hr).setCell hb v

/-- The end of a function whose loop over a function went through: no result lies in a cell. -/
theorem finM (f : Func) (tmps : Array Value) (R : Ending → World → Prop) (D : Nat) (v : Value) (w : World) (hv : ∀ W, (results f tmps).run Try.prog W = .ok v W) (hK : w.heap[D]? = some (.deferred (some [])))
    (hR : ∀ W', w.grownBy W' (some D) → R (.returned v) W') :
    LeavesInM Fence.wide 8 Try.prog f tmps R [{ target := .collected D, args := #[] }] .returning w := by
  have hg := grownBy_putObj' w D (.deferred none)
  refine ⟨by simp, .inl ⟨_, _, rfl, run_takeDeferred hK, ?_⟩⟩
  exact ⟨_, hv _, hR _ hg⟩

def CRel (w : World) (pre : List Dn) (W : World) : Prop := ∃ A c, Blk W w.heap.size [.slice A pre.length c] ∧ W.ownsRow (w.heap.size + 1) 92 3 (.slice A pre.length c) pre.length (dnCells pre) ∧ Below w.heap.size w W ∧ w.heap.size + 1 ≤ W.heap.size

set_option maxRecDepth 100000 in
set_option maxHeartbeats 2000000 in
theorem appseq_any (Bs : Nat) (st : St) (w : World) (hS : Blk w Bs (stCells st)) (hl : st.ds.length ≤ 4611686018427387904) :
    Calls Try.prog 74 #[.slice none 0 0, .func (.func 63) #[] #[.pointer (some ⟨Bs, 0, none⟩)]] w fun e w' => ∃ A c, e = .returned (.slice A (lasts st.ds).length c) ∧
      w'.ownsRow (w.heap.size + 1) 92 3 (.slice A (lasts st.ds).length c) (lasts st.ds).length (dnCells (lasts st.ds)) ∧ Below w.heap.size w w' := by
  obtain ⟨i0, hi0, hz0, hz1, hz2⟩ := info_parts info73
  refine (callsIn_wide (n := 8)).1 ?_
  refine callsIn_of_wp_marks Try.func74 rfl trivial ?_ rfl
  refine wpIn_wide.2 ?_
  simp only [Try.ntmps74, List.size_toArray, List.length_cons, List.length_nil, Nat.reduceAdd, Nat.reduceSub, Array.replicate_succ, Array.replicate_zero, List.push_toArray, List.append_toArray, List.nil_append, List.cons_append]
  go_wp2_with fail
  have hlast : (lasts st.ds).length ≤ 5 := by rw [lasts_length]; omega
  have hB0 : Blk (w.alloc (.cells #[.slice none 0 0] 103)) w.heap.size [.slice none 0 0] := Blk.new' _ _ rfl
  have hS0 := hS.alloc (.cells #[.slice none 0 0] 103)
  have hSl := hS.lt
  refine (wpIn_wide (n := 8)).1 ?_
  refine wpIn_rangeFunc_ownH rfl (by omega) (gf := 63) (lb := #[.pointer (some ⟨Bs, 0, none⟩)]) rfl trivial (enters_of Try.func63 (by kernel_rfl) rfl)
    (lasts_stops Fence.wide 7 trivial rfl (by omega) Bs w.heap.size st _ hS0 hSl hl) belowK_t (belowK_b (by simp)) (Below.refl _ _) (fun _ => rfl)
    (CRel w) (fun _ _ _ => False)
    (fun pre A B row hs hg hr => by
      obtain ⟨A1, c1, h1, h2, h3, h4⟩ := hs
      have hne : ∀ b (v : Value) vs, Blk A b (v :: vs) → some b ≠ row := fun b v vs hb => by rintro e; obtain ⟨_, o, ho, hc⟩ := hr _ e.symm; exact hb.ne_other ho hc rfl
      exact ⟨A1, c1, h1.grown hg (hne _ _ _ h1), ownsRow_other h2 hg (fun r e => (hr r e).2), h3.grown hg h3.size (fun k e => by have := (hr k e).1; simp at this; omega), Nat.le_trans h4 hg.size⟩)
    (fun _ _ _ _ _ hs _ _ => hs.elim)
    ⟨none, 0, hB0, World.ownsRow_nil _ _ _ _, bl_alloc (Below.refl _ _) _, by simp⟩
    (fun x a' W => ∃ Bx, w.heap.size < Bx ∧ Blk W Bx [.int .i64 x.seq, .int .i64 x.len, .int .i64 x.off] ∧ a' = { tmps := #[Value.slice none 0 0, Value.func (Fn.func 63) #[] #[Value.pointer (some { block := Bs, off := 0 })], Value.pointer (some { block := w.heap.size, off := 0 }), undef, Value.slice none 0 0, .pointer (some ⟨Bx, 0, none⟩), Value.func (Fn.func 63) #[] #[Value.pointer (some { block := Bs, off := 0 })], .agg #[.int .i64 x.seq, .int .i64 x.len, .int .i64 x.off], undef, undef, undef, undef, undef], defers := [] })
    (fun x a' _ A B row hs hg hr => by obtain ⟨Bx, h1, h2, h3⟩ := hs; exact ⟨Bx, h1, h2.grown hg (by rintro e; obtain ⟨_, o, ho, hc⟩ := hr _ e.symm; exact h2.ne_other ho hc rfl), h3⟩)
    ?assign0 ?body0 ?done0 ?stop0
  case assign0 =>
    rintro l pre x W K hr hK
    simp only [dnV]
    gi_wp2
    obtain ⟨A1, c1, h1, h2, h3, h4⟩ := hr
    exact hK _ _ ((KeepsOthers.alloc _ _).from _) ((Below.refl _ W).alloc (Nat.le_trans (Nat.le_succ _) h4) _) ⟨A1, c1, h1.alloc _, h2.alloc _, bl_alloc h3 _, by simp; omega⟩ ⟨W.heap.size, by omega, Blk.new' _ _ rfl, rfl⟩
  case body0 =>
    rintro l pre x a' W hl hrec ⟨A1, c1, h1, h2, h3, h4⟩ ⟨Bx, hBx, bX, rfl⟩ hlt
    have e0 := h1.cell
    have g0 := h1.unf
    have eX := bX.cell
    have hW := h3.size
    gi_wp2_with (first
    | (gi_at_builtin; refine wpListIn_append_own _ rfl _ _ 103 rfl (w.heap.size + 1) 92 i0 _ 3 24 Try.underlying103 hi0 hz0 hz1 hz2 rfl (by decide) (.slice A1 pre.length c1) pre.length _ rfl (h2.alloc _) ⟨W.heap.size, 0, none⟩ 1 1 [.int .i64 x.seq, .int .i64 x.len, .int .i64 x.off] rfl rfl ?hsrc ?hone ?h63 ?hby ?hba ?nx; case' nx => intro v' w3 hown' hg3 hnil3; obtain ⟨A3, c3, rfl, _⟩ := ownsRow_tells hown'; have hB3 : Blk w3 w.heap.size [.slice A1 pre.length c1] := (h1.alloc _).grown hg3 (by intro e; have := ownsRow_base h2 e.symm; omega); have e3 := hB3.cell; have g3 := hB3.unf; have l3 := hB3.lt; clear hnil3))
    case hsrc => intro j u hu; rw [Addr.add_mid, Nat.zero_add]; exact (Blk.new' _ _ rfl).get hu
    case hone => intro u hu; simp at hu; rcases hu with rfl | rfl | rfl <;> rfl
    case h63 => simp only [maxLen]; omega
    case hby => omega
    case hba => simp; omega
    have hko : KeepsOthers (W.alloc (.cells #[.int .i64 x.seq, .int .i64 x.len, .int .i64 x.off] 92)) w3 := KeepsOthers.of_grownBy hg3 (by
      intro j o hj ho
      obtain ⟨_, ⟨e1, _⟩ | ⟨g, cap, cur, e1, _, hh, _⟩⟩ := h2.alloc (.cells #[.int .i64 x.seq, .int .i64 x.len, .int .i64 x.off] 92)
      · rw [e1] at hj; cases hj
      · rw [e1] at hj; cases hj; rw [hh] at ho; cases ho; rfl)
    have hown4 := ownsRow_tells hown'
    refine ⟨(((KeepsOthers.alloc _ _).trans hko).trans (KeepsOthers.setCell _ _ _)).from _, ?_, A3, c3, ?_, ?_, ?_, ?_⟩
    · exact bl_set' ((Below.refl _ _).alloc hW _) hg3 (fun g hg => by have := ownsRow_base h2 hg; omega) _ (Nat.le_refl _) (by simp; omega)
    · simpa using hB3.set_same 0 (.slice A3 (pre.length + 1) c3)
    · simp only [List.length_append, List.length_cons, List.length_nil, dnCells_snoc]
      exact ownsRow_setCell_below hown' (by simp) _
    · exact bl_set' (bl_alloc h3 _) hg3 (fun g hg => by have := ownsRow_base h2 hg; omega) _ (Nat.le_refl _) (by simp; omega)
    · have := hg3.size; simp [World.setCell] at this ⊢; omega
  case stop0 => rintro D cc pre W hD _ h; exact h.elim
  case done0 =>
    rintro D ys W hD rfl ⟨A1, c1, h1, h2, h3, h4⟩ hK
    have e0 := h1.cell
    go_wp2_with fail
    refine finM _ _ _ D (.slice A1 (lasts st.ds).length c1) _ (fun W => by simp [results, Try.results74, go_sem]) hK ?_
    intro W' hg
    have hDne : ∀ (b : Nat) (v : Value) vs, Blk W b (v :: vs) → some b ≠ some D := fun b v vs hb => by rintro e; cases e; exact hb.ne_other hK rfl rfl
    refine ⟨A1, c1, rfl, ownsRow_other h2 hg (fun r e => by cases e; exact ⟨_, hK, rfl⟩), bl_gr h3 hg (by simp at hD; omega)⟩

set_option maxRecDepth 100000 in
set_option maxHeartbeats 2000000 in
theorem collect_any (Bs : Nat) (st : St) (w : World) (hS : Blk w Bs (stCells st)) (hl : st.ds.length ≤ 4611686018427387904) :
    Calls Try.prog 68 #[.func (.func 63) #[] #[.pointer (some ⟨Bs, 0, none⟩)]] w fun e w' => ∃ A c, e = .returned (.slice A (lasts st.ds).length c) ∧
      w'.ownsRow (w.heap.size + 1) 92 3 (.slice A (lasts st.ds).length c) (lasts st.ds).length (dnCells (lasts st.ds)) ∧ Below w.heap.size w w' := by
  go_enter Try.func68, Try.ntmps68
  go_wp2_with (go_at_call 74; refine (appseq_any Bs st _ hS hl).mono ?_; rintro e w' ⟨A, c, rfl, h1, h2⟩)
  go_ret
  exact ⟨A, c, rfl, h1, h2⟩
end Go.Proofs.Ytejjiiakficafaa
