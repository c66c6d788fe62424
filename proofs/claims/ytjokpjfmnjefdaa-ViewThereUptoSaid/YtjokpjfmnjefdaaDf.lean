/- view.Diff walked. -/
import Derived.Test.YtjokpjfmnjefdaaDd
import Derived.Test.YtjokpjfmnjefdaaVt
import Derived.Test.YtjokpjfmnjefdaaRn
namespace Go.Proofs.Ytjokpjfmnjefdaa
open Go.RowKit Go.Shelf
attribute [local go_sem] Oper.semAt_some

theorem mrgF_mem (l m : List Pr) : ∀ (f i j : Nat) x, x ∈ mrgF l m f i j → (∀ a, x.1 = some a → a < l.length) ∧ (∀ b, x.2 = some b → b < m.length) := by
  intro f
  induction f with
  | zero => intro i j x hx; simp [mrgF] at hx
  | succ f ih =>
    intro i j x hx
    rw [mrgF_succ] at hx
    split at hx
    · rcases List.mem_cons.1 hx with rfl | hx
      · refine ⟨fun a ha => ?_, fun b hb => ?_⟩
        · dsimp only at ha
          split at ha
          · rename_i h; cases ha; simp [tx] at h; exact h.1
          · cases ha
        · dsimp only at hb
          split at hb
          · rename_i h; cases hb; simp [ty] at h; exact h.1
          · cases hb
      · exact ih _ _ _ hx
    · simp at hx

theorem tx_or_ty (l m : List Pr) (i j : Nat) (h : i < l.length ∨ j < m.length) : tx l m i j = true ∨ ty l m i j = true := by
  by_cases h1 : i < l.length
  · by_cases h2 : j < m.length
    · cases e : sb (m.getD j default).key (l.getD i default).key with
      | false => left; unfold tx; rw [e]; simp [h1]
      | true => right; unfold ty; rw [sb_asymm e]; simp [h2]
    · left; simp [tx, h1]; left; omega
  · right; simp [ty]; omega
theorem mrgF_some (l m : List Pr) : ∀ (f i j : Nat) x, x ∈ mrgF l m f i j → x ≠ (none, none) := by
  intro f
  induction f with
  | zero => intro i j x hx; simp [mrgF] at hx
  | succ f ih =>
    intro i j x hx
    rw [mrgF_succ] at hx
    split at hx
    · rename_i hc
      rcases List.mem_cons.1 hx with rfl | hx
      · rcases tx_or_ty l m i j hc with h | h <;> simp [h]
      · exact ih _ _ _ hx
    · simp at hx
theorem mrgF_len (l m : List Pr) : ∀ (f i j : Nat), (mrgF l m f i j).length ≤ f := by
  intro f
  induction f with
  | zero => intro i j; simp [mrgF]
  | succ f ih =>
    intro i j
    rw [mrgF_succ]
    split
    · rw [List.length_cons]; have := ih (if tx l m i j then i + 1 else i) (if ty l m i j then j + 1 else j); omega
    · simp

set_option maxHeartbeats 400000 in
theorem beside_any (A B : Option Addr) (a b c d : Nat) (w : World) :
    Calls Try.prog 37 #[.slice A a c, .slice B b d] w fun e w' => e = .returned (.func (.func 59) #[] #[.pointer (some ⟨w.heap.size, 0, none⟩), .pointer (some ⟨w.heap.size + 1, 0, none⟩)]) ∧ w' = (w.alloc (.cells #[.slice A a c] 26)).alloc (.cells #[.slice B b d] 26) := by
  have hmf : ∀ (fn : Fn) (first cap : Array Value) (w : World), (Instr.makeFunc fn first cap).run Try.prog w = .ok (.func fn first cap) w := fun _ _ _ _ => rfl
  go_enter Try.func37, Try.ntmps37
  go_wp2
  go_ret
  exact ⟨rfl, rfl⟩

/-- A row of the call's own is no block that is no row. -/
theorem ownsRow_other {w w' : World} {base : Nat} {e : TypeId} {size : Nat} {v : Value} {n : Nat} {xs : List Value} (h : w.ownsRow base e size v n xs) {row : Option Nat} (hg : w.grownBy w' row)
    (hr : ∀ r, row = some r → ∃ o : Obj, w.heap[r]? = some o ∧ o.isCells = false) : w'.ownsRow base e size v n xs := by
  refine h.kept hg ?_
  obtain ⟨_, ⟨e1, h0⟩ | ⟨g, cap, cur, e1, _, hh, _⟩⟩ := h
  · rw [e1]; exact .inl rfl
  · rw [e1]; refine .inr (by rintro e; obtain ⟨o, ho, hc⟩ := hr g e.symm; rw [hh] at ho; cases ho; simp [Obj.isCells] at hc)
theorem Blk.ne_other {w : World} {b D : Nat} {v : Value} {vs : List Value} {o : Obj} (h : Blk w b (v :: vs)) (hD : w.heap[D]? = some o) (ho : o.isCells = false) : b ≠ D := by
  rintro rfl
  have h0 := h.get (j := 0) rfl
  cases o <;> simp_all [World.cell?, Obj.isCells]
theorem kept_row {w w' : World} {base : Nat} {e : TypeId} {size : Nat} {v : Value} {n : Nat} {xs : List Value} (h : w.ownsRow base e size v n xs) {row : Option Nat} (hg : w.grownBy w' row)
    (hr : ∀ q, v.ownBlock = some q → some q ≠ row) : w'.ownsRow base e size v n xs := by
  refine h.kept hg ?_
  obtain ⟨_, ⟨e1, h0⟩ | ⟨g, cap, cur, e1, _, hh, _⟩⟩ := h
  · rw [e1]; exact .inl rfl
  · refine .inr ?_
    have := hr g (by rw [e1]; rfl)
    rw [e1]
    exact this

theorem bl_set' {B : Nat} {a w w' : World} {row : Option Nat} (h : Below B a w) (hg : w.grownBy w' row) (hr : ∀ g, row = some g → B ≤ g) (v : Value) {b : Nat} (hb : B ≤ b) (hs : B ≤ w.heap.size) : Below B a (w'.setCell ⟨b, 0, none⟩ v) :=
  (h.grown hg hs hr).setCell hb v
/-- The end of a function whose loop over a function went through: no result lies in a cell. -/
theorem finM (f : Func) (tmps : Array Value) (R : Ending → World → Prop) (D : Nat) (v : Value) (w : World) (hv : ∀ W, (results f tmps).run Try.prog W = .ok v W) (hK : w.heap[D]? = some (.deferred (some [])))
    (hR : ∀ W', w.grownBy W' (some D) → R (.returned v) W') :
    LeavesInM Fence.wide 8 Try.prog f tmps R [{ target := .collected D, args := #[] }] .returning w := by
  have hg := grownBy_putObj' w D (.deferred none)
  refine ⟨by simp, .inl ⟨_, _, rfl, run_takeDeferred hK, ?_⟩⟩
  exact ⟨_, hv _, hR _ hg⟩

def dItem (l m : List Pr) : Option Nat × Option Nat → Ch
  | (some i, some j) => ⟨(m.getD j default).key, (l.getD i default).val, (m.getD j default).val, true, true⟩
  | (some i, none) => ⟨(l.getD i default).key, (l.getD i default).val, ⟨#[]⟩, true, false⟩
  | (none, some j) => ⟨(m.getD j default).key, ⟨#[]⟩, (m.getD j default).val, false, true⟩
  | (none, none) => ⟨⟨#[]⟩, ⟨#[]⟩, ⟨#[]⟩, false, false⟩
def dOne (l m : List Pr) (x : Option Nat × Option Nat) : Option Ch := if chD (dItem l m x) then some (dItem l m x) else none
def diffL (l m : List Pr) : List Ch := (mrg l m 0 0).filterMap (dOne l m)

def DRel (w2 : World) (cs : List Ch) (W : World) : Prop := ∃ A c, Blk W w2.heap.size [.slice A cs.length c] ∧ W.ownsRow (w2.heap.size + 3) 42 5 (.slice A cs.length c) cs.length (cs.flatMap chL) ∧ Below w2.heap.size w2 W ∧ w2.heap.size + 3 ≤ W.heap.size

theorem info42 : (Try.prog.info? 42).map (fun i => (i.zero, i.size, i.bytes)) = some (some (.agg #[.string ⟨#[]⟩, .string ⟨#[]⟩, .string ⟨#[]⟩, .bool false, .bool false]), 5, 56) := by kernel_rfl

set_option maxRecDepth 100000 in
set_option maxHeartbeats 8000000 in
theorem diff_ok (A B : Option Addr) (c d : Nat) (l m : List Pr) (w : World) (hl : LAt w A 3 prL l) (hm : LAt w B 3 prL m) (hcl : l.length ≤ c) (hcm : m.length ≤ d) (hlen : l.length + m.length ≤ 1000000000000) (tl : TabP l) (tm : TabP m) :
    Calls Try.prog 17 #[.slice A l.length c, .slice B m.length d] w fun e w' => ∃ A' c', e = .returned (.tuple #[.slice A' (diffL l m).length c', .int .i64 0]) ∧ LAt w' A' 5 chL (diffL l m) ∧ (diffL l m).length ≤ c' ∧ Below w.heap.size w w' := by
  obtain ⟨i0, hi0, hz0, hz1, hz2⟩ := info_parts info42
  refine (callsIn_wide (n := 8)).1 ?_
  refine callsIn_of_wp_marks Try.func17 rfl trivial ?_ rfl
  refine wpIn_wide.2 ?_
  simp only [Try.ntmps17, List.size_toArray, List.length_cons, List.length_nil, Nat.reduceAdd, Nat.reduceSub, Array.replicate_succ, Array.replicate_zero, List.push_toArray, List.append_toArray, List.nil_append, List.cons_append]
  go_wp2_with fail
  refine (table_any A c l _ hl (by omega)).mono ?_
  rintro e w1 ⟨b1, rfl, hb1, hw1⟩
  obtain rfl : b1 = true := hb1.2 tl
  clear hb1
  go_wp2_with fail
  refine (table_any B d m _ (hm.below hw1) (by omega)).mono ?_
  rintro e w2 ⟨b2, rfl, hb2, hw2⟩
  obtain rfl : b2 = true := hb2.2 tm
  clear hb2
  go_wp2_with fail
  refine (beside_any A B l.length m.length c d _).mono ?_
  rintro e w3 ⟨rfl, rfl⟩
  have hw := bl_tr hw1 hw2
  replace hl := hl.below hw
  replace hm := hm.below hw
  clear hw1 hw2
  go_wp2_with fail
  generalize hV : ((w2.alloc (Obj.cells #[Value.slice none 0 0] 32)).alloc (Obj.cells #[Value.slice A l.length c] 26)).alloc (Obj.cells #[Value.slice B m.length d] 26) = V
  have hVs : V.heap.size = w2.heap.size + 3 := by rw [← hV]; simp
  have hVo : Blk V w2.heap.size [.slice none 0 0] := by rw [← hV]; exact ((Blk.new' _ _ rfl).alloc _).alloc _
  have hVa : Blk V (w2.heap.size + 1) [.slice A l.length c] := by rw [← hV]; exact (Blk.new' _ _ (by simp)).alloc _
  have hVb : Blk V (w2.heap.size + 1 + 1) [.slice B m.length d] := by rw [← hV]; exact (Blk.new' _ _ (by simp))
  have hVw : Below w2.heap.size w2 V := by rw [← hV]; exact bl_alloc (bl_alloc (bl_alloc (Below.refl _ _) _) _) _
  clear hV
  have hseq := beside1_goes A B c d l m (w2.heap.size + 1) (w2.heap.size + 1 + 1) w2 V hl hm (by omega) (by omega) hcl hcm hVw (by omega) (by omega) (by omega) hVa hVb
  refine (wpIn_wide (n := 8)).1 ?_
  refine wpIn_rangeFunc_goes rfl (by omega) (gf := 59) (lb := #[.pointer (some ⟨w2.heap.size + 1, 0, none⟩), .pointer (some ⟨w2.heap.size + 1 + 1, 0, none⟩)]) rfl trivial (enters_of Try.func59 (by kernel_rfl) rfl)
    hseq (Below.refl _ _)
    (fun X Y h k o hk hX _ => by
      have hkl := (Array.getElem?_eq_some_iff.1 hX).1
      rcases h with h | h
      · rw [h.block k hkl (by simp; omega)]; exact hX
      · rw [h.block k hkl (by simp; omega)]; exact hX)
    (fun h k => ⟨h.1.trans k.1, k.2.1.trans h.2.1, k.2.2.trans h.2.2⟩)
    (fun W k o o' hk h hc hw => ⟨belowK_b (n₀ := w2.heap.size) (w := V) (by omega) W k o o' hk h hc hw, World.putObj_heap_other (by omega), World.putObj_heap_other (by omega)⟩)
    (fun _ => rfl)
    (fun pre W => DRel w2 (pre.filterMap (dOne l m)) W)
    (fun pre X Y row hs hg hr => by
      obtain ⟨A1, c1, h1, h2, h3, h4⟩ := hs
      have hne : ∀ b (v : Value) vs, Blk X b (v :: vs) → some b ≠ row := fun b v vs hb => by rintro e; obtain ⟨_, o, ho, hc⟩ := hr _ e.symm; exact hb.ne_other ho hc rfl
      exact ⟨A1, c1, h1.grown hg (hne _ _ _ h1), ownsRow_other h2 hg (fun r e => (hr r e).2), h3.grown hg h3.size (fun k e => by have := (hr k e).1; omega), Nat.le_trans h4 hg.size⟩)
    (fun pre X Y hs hm => by
      obtain ⟨A1, c1, h1, h2, h3, h4⟩ := hs
      have go : ∀ row : Nat, w2.heap.size < row → row < w2.heap.size + 3 → X.grownBy Y (some row) → DRel w2 (pre.filterMap (dOne l m)) Y := fun row hr1 hr2 hg =>
        ⟨A1, c1, h1.grown hg (by simp; omega), kept_row h2 hg (fun q e => by have := ownsRow_base h2 e; simp; omega), h3.grown hg h3.size (fun k e => by cases e; omega), Nat.le_trans h4 hg.size⟩
      rcases hm with hg | hg
      · exact go _ (by omega) (by omega) hg
      · exact go _ (by omega) (by omega) hg)
    ⟨none, 0, hVo, World.ownsRow_nil _ _ _ _, hVw, by omega⟩
    (fun x a' W => a' = { tmps := #[Value.slice A l.length c, Value.slice B m.length d, undef, undef, Value.slice none 0 0, Value.int IntKind.i64 0, Value.pointer (some ⟨w2.heap.size, 0, none⟩), .pointer (x.1.bind (elA A)), .pointer (x.2.bind (elA B)), undef, Value.slice A l.length c, Value.bool true, Value.bool false, Value.bool false, Value.slice B m.length d, Value.bool true, Value.bool false, Value.bool false, Value.slice A l.length c, Value.slice B m.length d, Value.func (Fn.func 59) #[] #[Value.pointer (some ⟨w2.heap.size + 1, 0, none⟩), Value.pointer (some ⟨w2.heap.size + 1 + 1, 0, none⟩)], .pointer (x.1.bind (elA A)), .pointer (x.2.bind (elA B)), undef, undef, undef, undef, undef, undef, undef, undef, undef, undef, undef, undef, undef, undef, undef, undef, undef, undef, undef, undef, undef, undef, undef, undef, undef, undef, undef, undef, undef, undef, undef, undef, undef, undef, undef, undef, undef, undef, undef, undef, undef, undef, undef, undef], defers := [] })
    (fun x a' _ X Y row hs hg hr => hs)
    ?assign0 ?body0 ?done0
  case assign0 =>
    rintro y pre x W K hr hp hK
    simp only [itE]
    gi_wp2
    exact hK _ _ (KeepsFrom.refl _ _) ⟨Below.refl _ _, rfl, rfl⟩ hr rfl
  case body0 =>
    rintro y pre x a' W hy ⟨A1, c1, h1, h2, h3, h4⟩ rfl hp
    have hx : x ∈ mrg l m 0 0 := by obtain ⟨s, hs⟩ := hp; rw [← hs]; simp
    have hv := mrgF_mem l m _ _ _ x hx
    have hpl : pre.length < l.length + m.length := by
      obtain ⟨s, hs⟩ := hp
      have h1 := congrArg List.length hs
      have h2 := mrgF_len l m (l.length - 0 + (m.length - 0)) 0 0
      simp only [List.length_append, List.length_cons, List.length_nil, mrg] at h1
      omega
    have hpf := List.length_filterMap_le (dOne l m) pre
    have e0 := h1.cell
    have g0 := h1.unf
    obtain ⟨xi, xj⟩ := x
    cases xi with
    | some i =>
      cases xj with
      | some j =>
        have hil := hv.1 i rfl
        obtain ⟨b, o, rfl, hbl, ca⟩ := hl i hil
        have a0 : W.cell? ⟨b, o + i * 3, none⟩ = some (.string l[i].key) := (h3.cell (p := ⟨b, o + i * 3, none⟩) hbl).trans (ca 0 _ rfl)
        have a1 : W.cell? ⟨b, o + i * 3 + 1, none⟩ = some (.string l[i].val) := (h3.cell (p := ⟨b, o + i * 3 + 1, none⟩) hbl).trans (ca 1 _ rfl)
        have gl : l.getD i default = l[i] := by simp [List.getD, hil]
        generalize l[i] = px at a0 a1 gl
        clear ca
        have hjl := hv.2 j rfl
        obtain ⟨b2, o2, rfl, hbl2, ca2⟩ := hm j hjl
        have e0' : W.cell? ⟨b2, o2 + j * 3, none⟩ = some (.string m[j].key) := (h3.cell (p := ⟨b2, o2 + j * 3, none⟩) hbl2).trans (ca2 0 _ rfl)
        have e1' : W.cell? ⟨b2, o2 + j * 3 + 1, none⟩ = some (.string m[j].val) := (h3.cell (p := ⟨b2, o2 + j * 3 + 1, none⟩) hbl2).trans (ca2 1 _ rfl)
        have gm : m.getD j default = m[j] := by simp [List.getD, hjl]
        generalize m[j] = py at e0' e1' gm
        clear ca2
        have hd : dItem l m (some i, some j) = ⟨py.key, px.val, py.val, true, true⟩ := by simp only [dItem, gl, gm]
        clear gl
        clear gm
        replace hd := Lib.hid hd
        have hW := h3.size
        clear hl hm hv hx
        simp only [Option.bind_some, Option.bind_none, elA, Option.map_some]
        gi_wp2
        generalize hX : W.alloc (Obj.cells #[Value.string ⟨#[]⟩, Value.string ⟨#[]⟩, Value.string ⟨#[]⟩, Value.bool false, Value.bool false] 42) = X
        have hc0 : Blk X W.heap.size [Value.string ⟨#[]⟩, Value.string ⟨#[]⟩, Value.string ⟨#[]⟩, Value.bool false, Value.bool false] := by rw [← hX]; exact Blk.new' _ _ rfl
        have hWX : Below W.heap.size W X := by rw [← hX]; exact bl_alloc (Below.refl _ _) _
        have hKX : KeepsFrom V.heap.size W X := by rw [← hX]; exact (KeepsOthers.alloc _ _).from _
        have hXs := hWX.size
        replace a0 := ((bcell hWX).1 b (o + i * 3) (Nat.lt_of_lt_of_le hbl hW)).trans a0
        replace a1 := ((bcell hWX).1 b (o + i * 3 + 1) (Nat.lt_of_lt_of_le hbl hW)).trans a1
        replace e0' := ((bcell hWX).1 b2 (o2 + j * 3) (Nat.lt_of_lt_of_le hbl2 hW)).trans e0'
        replace e1' := ((bcell hWX).1 b2 (o2 + j * 3 + 1) (Nat.lt_of_lt_of_le hbl2 hW)).trans e1'
        clear e0 g0 hX
        have hbX : b < X.drew.heap.size := by show b < X.heap.size; omega
        refine regionInH (by kernel_rfl) (by decide +kernel) (fun w' => X.drew.grownBy w' (some W.heap.size)) ?_
        refine wpAnyH.takeT (i := 0) (t := 25) (v := .pointer (some ⟨b, o + i * 3, none⟩)) rfl rfl (by decide +kernel) (by decide +kernel) (by decide +kernel) (fun _ _ _ h => OnlyN.no (by simp) h) (.inl ⟨rfl, fun w' hS => ?_⟩) (World.grownBy.refl _ _) ?_
        · go_simp
        try simp only [List.setIfInBounds_toArray, List.set_cons_zero, List.set_cons_succ]
        refine wpAnyH.takeT (i := 1) (t := 26) (v := .pointer (some ⟨b, o + i * 3, none⟩)) rfl rfl (by decide +kernel) (by decide +kernel) (by decide +kernel) (fun _ _ _ h => OnlyN.no (by simp) h) (.inl ⟨rfl, fun w' hS => ?_⟩) (World.grownBy.refl _ _) ?_
        · go_simp
        try simp only [List.setIfInBounds_toArray, List.set_cons_zero, List.set_cons_succ]
        refine wpAnyH.takeT (i := 2) (t := 27) (v := .pointer (some ⟨b, o + i * 3, none⟩)) rfl rfl (by decide +kernel) (by decide +kernel) (by decide +kernel) (fun _ _ _ h => OnlyN.no (by simp) h) (.inl ⟨rfl, fun w' hS => ?_⟩) (World.grownBy.refl _ _) ?_
        · go_simp
        try simp only [List.setIfInBounds_toArray, List.set_cons_zero, List.set_cons_succ]
        refine wpAnyH.takeT (i := 3) (t := 28) (v := .string px.key) rfl rfl (by decide +kernel) (by decide +kernel) (by decide +kernel) (fun _ _ _ h => OnlyN.no (by simp) h) (.inl ⟨rfl, fun w' hS => ?_⟩) (World.grownBy.refl _ _) ?_
        · have c0 := ((World.cell?_of_block (w := X.drew) (w' := w') (a := ⟨b, o + i * 3, none⟩) (hS.block b hbX (by simp; omega))).trans a0 : w'.cell? ⟨b, o + i * 3, none⟩ = _)
          go_simp
        try simp only [List.setIfInBounds_toArray, List.set_cons_zero, List.set_cons_succ]
        refine wpAnyH.takeT (i := 4) (t := 29) (v := .pointer (some ⟨b, o + i * 3, none⟩)) rfl rfl (by decide +kernel) (by decide +kernel) (by decide +kernel) (fun _ _ _ h => OnlyN.no (by simp) h) (.inl ⟨rfl, fun w' hS => ?_⟩) (World.grownBy.refl _ _) ?_
        · go_simp
        try simp only [List.setIfInBounds_toArray, List.set_cons_zero, List.set_cons_succ]
        refine wpAnyH.takeT (i := 5) (t := 30) (v := .pointer (some ⟨b, o + i * 3, none⟩)) rfl rfl (by decide +kernel) (by decide +kernel) (by decide +kernel) (fun _ _ _ h => OnlyN.no (by simp) h) (.inl ⟨rfl, fun w' hS => ?_⟩) (World.grownBy.refl _ _) ?_
        · go_simp
        try simp only [List.setIfInBounds_toArray, List.set_cons_zero, List.set_cons_succ]
        refine wpAnyH.takeT (i := 6) (t := 31) (v := .pointer (some ⟨b, o + i * 3 + 1, none⟩)) rfl rfl (by decide +kernel) (by decide +kernel) (by decide +kernel) (fun _ _ _ h => OnlyN.no (by simp) h) (.inl ⟨rfl, fun w' hS => ?_⟩) (World.grownBy.refl _ _) ?_
        · go_simp
        try simp only [List.setIfInBounds_toArray, List.set_cons_zero, List.set_cons_succ]
        refine wpAnyH.takeT (i := 7) (t := 32) (v := .string px.val) rfl rfl (by decide +kernel) (by decide +kernel) (by decide +kernel) (fun _ _ _ h => OnlyN.no (by simp) h) (.inl ⟨rfl, fun w' hS => ?_⟩) (World.grownBy.refl _ _) ?_
        · have c0 := ((World.cell?_of_block (w := X.drew) (w' := w') (a := ⟨b, o + i * 3 + 1, none⟩) (hS.block b hbX (by simp; omega))).trans a1 : w'.cell? ⟨b, o + i * 3 + 1, none⟩ = _)
          go_simp
        try simp only [List.setIfInBounds_toArray, List.set_cons_zero, List.set_cons_succ]
        refine wpAnyH.takeT (i := 8) (t := 33) (v := .pointer (some ⟨W.heap.size, 0, none⟩)) rfl rfl (by decide +kernel) (by decide +kernel) (by decide +kernel) (fun _ _ _ h => OnlyN.no (by simp) h) (.inl ⟨rfl, fun w' hS => ?_⟩) (World.grownBy.refl _ _) ?_
        · go_simp
        try simp only [List.setIfInBounds_toArray, List.set_cons_zero, List.set_cons_succ]
        refine wpAnyH.oneStore (i := 9) (k := 0) (v := .string px.key) (by decide +kernel) rfl rfl rfl (t := 9) (x := .tmp 33) (y := .tmp 28) rfl rfl rfl rfl rfl (by kernel_rfl) hc0.drew (by simp) fun Xa hXa gXa => ⟨gr_trg (World.grownBy.refl _ _) gXa, ?_⟩
        have GXa := gr_trg (World.grownBy.refl _ _) gXa
        simp only [List.set_cons_zero, List.set_cons_succ] at hXa
        try simp only [List.setIfInBounds_toArray, List.set_cons_zero, List.set_cons_succ]
        refine wpAnyH.takeT (i := 10) (t := 34) (v := .pointer (some ⟨W.heap.size, 1, none⟩)) rfl rfl (by decide +kernel) (by decide +kernel) (by decide +kernel) (fun _ _ _ h => OnlyN.no (by simp) h) (.inl ⟨rfl, fun w' hS => ?_⟩) GXa ?_
        · go_simp
        try simp only [List.setIfInBounds_toArray, List.set_cons_zero, List.set_cons_succ]
        refine wpAnyH.oneStore (i := 11) (k := 1) (v := .string px.val) (by decide +kernel) rfl rfl rfl (t := 9) (x := .tmp 34) (y := .tmp 32) rfl rfl rfl rfl rfl (by kernel_rfl) hXa (by simp) fun Xb hXb gXb => ⟨gr_trg GXa gXb, ?_⟩
        have GXb := gr_trg GXa gXb
        simp only [List.set_cons_zero, List.set_cons_succ] at hXb
        try simp only [List.setIfInBounds_toArray, List.set_cons_zero, List.set_cons_succ]
        refine wpAnyH.takeT (i := 12) (t := 35) (v := .pointer (some ⟨W.heap.size, 3, none⟩)) rfl rfl (by decide +kernel) (by decide +kernel) (by decide +kernel) (fun _ _ _ h => OnlyN.no (by simp) h) (.inl ⟨rfl, fun w' hS => ?_⟩) GXb ?_
        · go_simp
        try simp only [List.setIfInBounds_toArray, List.set_cons_zero, List.set_cons_succ]
        refine wpAnyH.oneStore (i := 13) (k := 3) (v := .bool true) (by decide +kernel) rfl rfl rfl (t := 4) (x := .tmp 35) (y := .const (.bool true)) rfl rfl rfl rfl rfl (by kernel_rfl) hXb (by simp) fun Xc hXc gXc => ⟨gr_trg GXb gXc, ?_⟩
        have GXc := gr_trg GXb gXc
        simp only [List.set_cons_zero, List.set_cons_succ] at hXc
        try simp only [List.setIfInBounds_toArray, List.set_cons_zero, List.set_cons_succ]
        refine wpAnyH_done (by decide +kernel) ?_ _
        refine ⟨rfl, ?_⟩
        have hXG : W.grownBy Xc (some W.heap.size) := gr_trg (gr_drew (gr_below hWX _)) GXc
        replace e0' : Xc.cell? ⟨b2, o2 + j * 3, none⟩ = _ := (World.cell?_of_block (w := X.drew) (w' := Xc) (a := ⟨b2, o2 + j * 3, none⟩) (GXc.block b2 (by show b2 < X.heap.size; omega) (by simp; omega))).trans e0'
        replace e1' : Xc.cell? ⟨b2, o2 + j * 3 + 1, none⟩ = _ := (World.cell?_of_block (w := X.drew) (w' := Xc) (a := ⟨b2, o2 + j * 3 + 1, none⟩) (GXc.block b2 (by show b2 < X.heap.size; omega) (by simp; omega))).trans e1'
        gi_wp2
        have hbY : b2 < Xc.drew.heap.size := by have := hXG.size; show b2 < Xc.heap.size; omega
        refine regionInH (by kernel_rfl) (by decide +kernel) (fun w' => Xc.drew.grownBy w' (some W.heap.size)) ?_
        refine wpAnyH.takeT (i := 0) (t := 38) (v := .pointer (some ⟨b2, o2 + j * 3, none⟩)) rfl rfl (by decide +kernel) (by decide +kernel) (by decide +kernel) (fun _ _ _ h => OnlyN.no (by simp) h) (.inl ⟨rfl, fun w' hS => ?_⟩) (World.grownBy.refl _ _) ?_
        · go_simp
        try simp only [List.setIfInBounds_toArray, List.set_cons_zero, List.set_cons_succ]
        refine wpAnyH.takeT (i := 1) (t := 39) (v := .pointer (some ⟨b2, o2 + j * 3, none⟩)) rfl rfl (by decide +kernel) (by decide +kernel) (by decide +kernel) (fun _ _ _ h => OnlyN.no (by simp) h) (.inl ⟨rfl, fun w' hS => ?_⟩) (World.grownBy.refl _ _) ?_
        · go_simp
        try simp only [List.setIfInBounds_toArray, List.set_cons_zero, List.set_cons_succ]
        refine wpAnyH.takeT (i := 2) (t := 40) (v := .pointer (some ⟨b2, o2 + j * 3, none⟩)) rfl rfl (by decide +kernel) (by decide +kernel) (by decide +kernel) (fun _ _ _ h => OnlyN.no (by simp) h) (.inl ⟨rfl, fun w' hS => ?_⟩) (World.grownBy.refl _ _) ?_
        · go_simp
        try simp only [List.setIfInBounds_toArray, List.set_cons_zero, List.set_cons_succ]
        refine wpAnyH.takeT (i := 3) (t := 41) (v := .string py.key) rfl rfl (by decide +kernel) (by decide +kernel) (by decide +kernel) (fun _ _ _ h => OnlyN.no (by simp) h) (.inl ⟨rfl, fun w' hS => ?_⟩) (World.grownBy.refl _ _) ?_
        · have c0 := ((World.cell?_of_block (w := Xc.drew) (w' := w') (a := ⟨b2, o2 + j * 3, none⟩) (hS.block b2 hbY (by simp; omega))).trans e0' : w'.cell? ⟨b2, o2 + j * 3, none⟩ = _)
          go_simp
        try simp only [List.setIfInBounds_toArray, List.set_cons_zero, List.set_cons_succ]
        refine wpAnyH.takeT (i := 4) (t := 42) (v := .pointer (some ⟨b2, o2 + j * 3, none⟩)) rfl rfl (by decide +kernel) (by decide +kernel) (by decide +kernel) (fun _ _ _ h => OnlyN.no (by simp) h) (.inl ⟨rfl, fun w' hS => ?_⟩) (World.grownBy.refl _ _) ?_
        · go_simp
        try simp only [List.setIfInBounds_toArray, List.set_cons_zero, List.set_cons_succ]
        refine wpAnyH.takeT (i := 5) (t := 43) (v := .pointer (some ⟨b2, o2 + j * 3, none⟩)) rfl rfl (by decide +kernel) (by decide +kernel) (by decide +kernel) (fun _ _ _ h => OnlyN.no (by simp) h) (.inl ⟨rfl, fun w' hS => ?_⟩) (World.grownBy.refl _ _) ?_
        · go_simp
        try simp only [List.setIfInBounds_toArray, List.set_cons_zero, List.set_cons_succ]
        refine wpAnyH.takeT (i := 6) (t := 44) (v := .pointer (some ⟨b2, o2 + j * 3 + 1, none⟩)) rfl rfl (by decide +kernel) (by decide +kernel) (by decide +kernel) (fun _ _ _ h => OnlyN.no (by simp) h) (.inl ⟨rfl, fun w' hS => ?_⟩) (World.grownBy.refl _ _) ?_
        · go_simp
        try simp only [List.setIfInBounds_toArray, List.set_cons_zero, List.set_cons_succ]
        refine wpAnyH.takeT (i := 7) (t := 45) (v := .string py.val) rfl rfl (by decide +kernel) (by decide +kernel) (by decide +kernel) (fun _ _ _ h => OnlyN.no (by simp) h) (.inl ⟨rfl, fun w' hS => ?_⟩) (World.grownBy.refl _ _) ?_
        · have c0 := ((World.cell?_of_block (w := Xc.drew) (w' := w') (a := ⟨b2, o2 + j * 3 + 1, none⟩) (hS.block b2 hbY (by simp; omega))).trans e1' : w'.cell? ⟨b2, o2 + j * 3 + 1, none⟩ = _)
          go_simp
        try simp only [List.setIfInBounds_toArray, List.set_cons_zero, List.set_cons_succ]
        refine wpAnyH.takeT (i := 8) (t := 46) (v := .pointer (some ⟨W.heap.size, 0, none⟩)) rfl rfl (by decide +kernel) (by decide +kernel) (by decide +kernel) (fun _ _ _ h => OnlyN.no (by simp) h) (.inl ⟨rfl, fun w' hS => ?_⟩) (World.grownBy.refl _ _) ?_
        · go_simp
        try simp only [List.setIfInBounds_toArray, List.set_cons_zero, List.set_cons_succ]
        refine wpAnyH.oneStore (i := 9) (k := 0) (v := .string py.key) (by decide +kernel) rfl rfl rfl (t := 9) (x := .tmp 46) (y := .tmp 41) rfl rfl rfl rfl rfl (by kernel_rfl) hXc.drew (by simp) fun Ya hYa gYa => ⟨gr_trg (World.grownBy.refl _ _) gYa, ?_⟩
        have GYa := gr_trg (World.grownBy.refl _ _) gYa
        simp only [List.set_cons_zero, List.set_cons_succ] at hYa
        try simp only [List.setIfInBounds_toArray, List.set_cons_zero, List.set_cons_succ]
        refine wpAnyH.takeT (i := 10) (t := 47) (v := .pointer (some ⟨W.heap.size, 2, none⟩)) rfl rfl (by decide +kernel) (by decide +kernel) (by decide +kernel) (fun _ _ _ h => OnlyN.no (by simp) h) (.inl ⟨rfl, fun w' hS => ?_⟩) GYa ?_
        · go_simp
        try simp only [List.setIfInBounds_toArray, List.set_cons_zero, List.set_cons_succ]
        refine wpAnyH.oneStore (i := 11) (k := 2) (v := .string py.val) (by decide +kernel) rfl rfl rfl (t := 9) (x := .tmp 47) (y := .tmp 45) rfl rfl rfl rfl rfl (by kernel_rfl) hYa (by simp) fun Yb hYb gYb => ⟨gr_trg GYa gYb, ?_⟩
        have GYb := gr_trg GYa gYb
        simp only [List.set_cons_zero, List.set_cons_succ] at hYb
        try simp only [List.setIfInBounds_toArray, List.set_cons_zero, List.set_cons_succ]
        refine wpAnyH.takeT (i := 12) (t := 48) (v := .pointer (some ⟨W.heap.size, 4, none⟩)) rfl rfl (by decide +kernel) (by decide +kernel) (by decide +kernel) (fun _ _ _ h => OnlyN.no (by simp) h) (.inl ⟨rfl, fun w' hS => ?_⟩) GYb ?_
        · go_simp
        try simp only [List.setIfInBounds_toArray, List.set_cons_zero, List.set_cons_succ]
        refine wpAnyH.oneStore (i := 13) (k := 4) (v := .bool true) (by decide +kernel) rfl rfl rfl (t := 4) (x := .tmp 48) (y := .const (.bool true)) rfl rfl rfl rfl rfl (by kernel_rfl) hYb (by simp) fun Yc hYc gYc => ⟨gr_trg GYb gYc, ?_⟩
        have GYc := gr_trg GYb gYc
        simp only [List.set_cons_zero, List.set_cons_succ] at hYc
        try simp only [List.setIfInBounds_toArray, List.set_cons_zero, List.set_cons_succ]
        refine wpAnyH_done (by decide +kernel) ?_ _
        refine ⟨rfl, ?_⟩
        have hYG : W.grownBy Yc (some W.heap.size) := gr_trg (gr_drew hXG) GYc
        have hG := hYG
        have hC := hYc
        have k1 : Blk Yc w2.heap.size _ := h1.grown hG (by have := h1.lt; simp; omega)
        have k2 := kept_row h2 hG (fun q e => by have := ownsRow_lt h2 e; simp; omega)
        have k3 : Below w2.heap.size w2 Yc := h3.grown hG hW (fun k e => by cases e; omega)
        have kP : Below w2.heap.size W Yc := (Below.refl _ _).grown hG hW (fun k e => by cases e; omega)
        have kK : KeepsOthers W Yc := KeepsOthers.of_grownBy hG (fun j ob e ho => by cases e; have := (Array.getElem?_eq_some_iff.1 ho).1; omega)
        have ka : Yc.heap[w2.heap.size + 1]? = W.heap[w2.heap.size + 1]? := hG.block _ (by omega) (by simp; omega)
        have kb : Yc.heap[w2.heap.size + 1 + 1]? = W.heap[w2.heap.size + 1 + 1]? := hG.block _ (by omega) (by simp; omega)
        have hLs := hG.size
        have c0 := hC.get (j := 0) rfl
        have c1' := hC.get (j := 1) rfl
        have c2' := hC.get (j := 2) rfl
        have c3' := hC.get (j := 3) rfl
        have c4' := hC.get (j := 4) rfl
        have e0 := k1.cell
        have g0 := k1.unf
        have hcl := hC.lt
        clear hWX hXG hc0 a0 a1 e0' e1' hYG
        by_cases hnv : py.val = px.val
        · have e42 : ∀ w, (binOp .neq 42 (.agg #[.string py.key, .string px.val, .string py.val, .bool true, .bool true]) (.agg #[.string py.key, .string px.val, .string px.val, .bool true, .bool true])).run Try.prog w = .ok (.bool false) w := fun w => by rw [run_neq42]; simp [hnv]
          have hone : (pre ++ [(some i, some j)]).filterMap (dOne l m) = pre.filterMap (dOne l m) := by rw [List.filterMap_append]; simp [dOne, hd.out, chD, hnv]
          replace hone := Lib.hid hone
          replace hnv := Lib.hid hnv
          gi_wp2
          refine ⟨kK.from _, ⟨kP, ka, kb⟩, ?_⟩
          show DRel w2 ((pre ++ [(some i, some j)]).filterMap (dOne l m)) _
          rw [hone.out]
          exact ⟨A1, c1, k1, k2, k3, by omega⟩
        · have e42 : ∀ w, (binOp .neq 42 (.agg #[.string py.key, .string px.val, .string py.val, .bool true, .bool true]) (.agg #[.string py.key, .string px.val, .string px.val, .bool true, .bool true])).run Try.prog w = .ok (.bool true) w := fun w => by rw [run_neq42]; simp [hnv]
          have hone : (pre ++ [(some i, some j)]).filterMap (dOne l m) = pre.filterMap (dOne l m) ++ [⟨py.key, px.val, py.val, true, true⟩] := by rw [List.filterMap_append]; simp [dOne, hd.out, chD, hnv]
          replace hone := Lib.hid hone
          clear hnv
          generalize hcs : pre.filterMap (dOne l m) = cs at *
          have hlc : cs.length ≤ 1000000000000 := by omega
          clear hcs
          gi_wp2_with (first | (gi_at_builtin; refine wpListIn_append_own _ rfl _ _ 32 rfl (w2.heap.size + 3) 42 i0 _ 5 56 Try.underlying32 hi0 hz0 hz1 hz2 rfl (by decide) (.slice A1 cs.length c1) cs.length _ rfl (k2.alloc _) ⟨Yc.heap.size, 0, none⟩ 1 1 (chL ⟨py.key, px.val, py.val, true, true⟩) rfl rfl ?hsrc11 ?hone11 ?h6311 ?hby11 ?hba11 ?nx11; case' nx11 => intro v' w4 hown' hg4 hnil4; obtain ⟨A4, c4, rfl, _⟩ := ownsRow_tells hown'; have hB4 : Blk w4 w2.heap.size [.slice A1 cs.length c1] := (k1.alloc _).grown hg4 (by intro e; have := ownsRow_base k2 e.symm; omega); have e4 := hB4.cell; have g4 := hB4.unf; have l4 := hB4.lt; clear hnil4))
          case hsrc11 => intro j u hu; rw [Addr.add_mid, Nat.zero_add]; exact (Blk.new' _ _ rfl).get hu
          case hone11 => exact chL_one _
          case h6311 => simp only [maxLen]; omega
          case hby11 => omega
          case hba11 => simp; omega
          have hko : KeepsOthers (Yc.alloc (.cells (chL ⟨py.key, px.val, py.val, true, true⟩).toArray 42)) w4 := KeepsOthers.of_grownBy hg4 (by
            intro j ob hj ho
            obtain ⟨_, ⟨e1, _⟩ | ⟨g, cap, cur, e1, _, hh, _⟩⟩ := k2.alloc (.cells (chL ⟨py.key, px.val, py.val, true, true⟩).toArray 42)
            · rw [e1] at hj; cases hj
            · rw [e1] at hj; cases hj; rw [hh] at ho; cases ho; rfl)
          have hrow : ∀ q, (Value.slice A1 cs.length c1).ownBlock = some q → w2.heap.size + 3 ≤ q := fun q e => ownsRow_base k2 e
          have w4a : w4.heap[w2.heap.size + 1]? = Yc.heap[w2.heap.size + 1]? := (hg4.block _ (by simp; omega) (fun e => by have := hrow _ e.symm; omega)).trans (Below.heap_alloc _ _ _ (by omega))
          have w4b : w4.heap[w2.heap.size + 1 + 1]? = Yc.heap[w2.heap.size + 1 + 1]? := (hg4.block _ (by simp; omega) (fun e => by have := hrow _ e.symm; omega)).trans (Below.heap_alloc _ _ _ (by omega))
          refine ⟨(((kK.trans (KeepsOthers.alloc _ _)).trans hko).trans (KeepsOthers.setCell _ _ _)).from _, ⟨?_, ?_, ?_⟩, ?_⟩
          · exact bl_set' (kP.trans ((Below.refl _ _).alloc (by omega) _)) hg4 (fun g hg => by have := hrow g hg; omega) _ (Nat.le_refl _) (by simp; omega)
          · exact (Below.heap_setCell _ _ _ _ (by simp)).trans (w4a.trans ka)
          · exact (Below.heap_setCell _ _ _ _ (by simp; omega)).trans (w4b.trans kb)
          · show DRel w2 ((pre ++ [(some i, some j)]).filterMap (dOne l m)) _
            rw [hone.out]
            refine ⟨A4, c4, ?_, ?_, ?_, ?_⟩
            · simpa using hB4.set_same 0 (.slice A4 (cs.length + 1) c4)
            · simp only [List.length_append, List.length_cons, List.length_nil, List.flatMap_append, List.flatMap_cons, List.flatMap_nil, List.append_nil]
              exact ownsRow_setCell_below hown' (by simp) _
            · exact bl_set' (bl_alloc k3 _) hg4 (fun g hg => by have := hrow g hg; omega) _ (Nat.le_refl _) (by simp; omega)
            · have := hg4.size; simp [World.setCell] at this ⊢; omega
      | none =>
        have hil := hv.1 i rfl
        obtain ⟨b, o, rfl, hbl, ca⟩ := hl i hil
        have a0 : W.cell? ⟨b, o + i * 3, none⟩ = some (.string l[i].key) := (h3.cell (p := ⟨b, o + i * 3, none⟩) hbl).trans (ca 0 _ rfl)
        have a1 : W.cell? ⟨b, o + i * 3 + 1, none⟩ = some (.string l[i].val) := (h3.cell (p := ⟨b, o + i * 3 + 1, none⟩) hbl).trans (ca 1 _ rfl)
        have gl : l.getD i default = l[i] := by simp [List.getD, hil]
        generalize l[i] = px at a0 a1 gl
        clear ca
        have hd : dItem l m (some i, none) = ⟨px.key, px.val, ⟨#[]⟩, true, false⟩ := by simp only [dItem, gl]
        clear gl
        replace hd := Lib.hid hd
        have hW := h3.size
        clear hl hm hv hx
        simp only [Option.bind_some, Option.bind_none, elA, Option.map_some]
        gi_wp2
        generalize hX : W.alloc (Obj.cells #[Value.string ⟨#[]⟩, Value.string ⟨#[]⟩, Value.string ⟨#[]⟩, Value.bool false, Value.bool false] 42) = X
        have hc0 : Blk X W.heap.size [Value.string ⟨#[]⟩, Value.string ⟨#[]⟩, Value.string ⟨#[]⟩, Value.bool false, Value.bool false] := by rw [← hX]; exact Blk.new' _ _ rfl
        have hWX : Below W.heap.size W X := by rw [← hX]; exact bl_alloc (Below.refl _ _) _
        have hKX : KeepsFrom V.heap.size W X := by rw [← hX]; exact (KeepsOthers.alloc _ _).from _
        have hXs := hWX.size
        replace a0 := ((bcell hWX).1 b (o + i * 3) (Nat.lt_of_lt_of_le hbl hW)).trans a0
        replace a1 := ((bcell hWX).1 b (o + i * 3 + 1) (Nat.lt_of_lt_of_le hbl hW)).trans a1
        clear e0 g0 hX
        have hbX : b < X.drew.heap.size := by show b < X.heap.size; omega
        refine regionInH (by kernel_rfl) (by decide +kernel) (fun w' => X.drew.grownBy w' (some W.heap.size)) ?_
        refine wpAnyH.takeT (i := 0) (t := 25) (v := .pointer (some ⟨b, o + i * 3, none⟩)) rfl rfl (by decide +kernel) (by decide +kernel) (by decide +kernel) (fun _ _ _ h => OnlyN.no (by simp) h) (.inl ⟨rfl, fun w' hS => ?_⟩) (World.grownBy.refl _ _) ?_
        · go_simp
        try simp only [List.setIfInBounds_toArray, List.set_cons_zero, List.set_cons_succ]
        refine wpAnyH.takeT (i := 1) (t := 26) (v := .pointer (some ⟨b, o + i * 3, none⟩)) rfl rfl (by decide +kernel) (by decide +kernel) (by decide +kernel) (fun _ _ _ h => OnlyN.no (by simp) h) (.inl ⟨rfl, fun w' hS => ?_⟩) (World.grownBy.refl _ _) ?_
        · go_simp
        try simp only [List.setIfInBounds_toArray, List.set_cons_zero, List.set_cons_succ]
        refine wpAnyH.takeT (i := 2) (t := 27) (v := .pointer (some ⟨b, o + i * 3, none⟩)) rfl rfl (by decide +kernel) (by decide +kernel) (by decide +kernel) (fun _ _ _ h => OnlyN.no (by simp) h) (.inl ⟨rfl, fun w' hS => ?_⟩) (World.grownBy.refl _ _) ?_
        · go_simp
        try simp only [List.setIfInBounds_toArray, List.set_cons_zero, List.set_cons_succ]
        refine wpAnyH.takeT (i := 3) (t := 28) (v := .string px.key) rfl rfl (by decide +kernel) (by decide +kernel) (by decide +kernel) (fun _ _ _ h => OnlyN.no (by simp) h) (.inl ⟨rfl, fun w' hS => ?_⟩) (World.grownBy.refl _ _) ?_
        · have c0 := ((World.cell?_of_block (w := X.drew) (w' := w') (a := ⟨b, o + i * 3, none⟩) (hS.block b hbX (by simp; omega))).trans a0 : w'.cell? ⟨b, o + i * 3, none⟩ = _)
          go_simp
        try simp only [List.setIfInBounds_toArray, List.set_cons_zero, List.set_cons_succ]
        refine wpAnyH.takeT (i := 4) (t := 29) (v := .pointer (some ⟨b, o + i * 3, none⟩)) rfl rfl (by decide +kernel) (by decide +kernel) (by decide +kernel) (fun _ _ _ h => OnlyN.no (by simp) h) (.inl ⟨rfl, fun w' hS => ?_⟩) (World.grownBy.refl _ _) ?_
        · go_simp
        try simp only [List.setIfInBounds_toArray, List.set_cons_zero, List.set_cons_succ]
        refine wpAnyH.takeT (i := 5) (t := 30) (v := .pointer (some ⟨b, o + i * 3, none⟩)) rfl rfl (by decide +kernel) (by decide +kernel) (by decide +kernel) (fun _ _ _ h => OnlyN.no (by simp) h) (.inl ⟨rfl, fun w' hS => ?_⟩) (World.grownBy.refl _ _) ?_
        · go_simp
        try simp only [List.setIfInBounds_toArray, List.set_cons_zero, List.set_cons_succ]
        refine wpAnyH.takeT (i := 6) (t := 31) (v := .pointer (some ⟨b, o + i * 3 + 1, none⟩)) rfl rfl (by decide +kernel) (by decide +kernel) (by decide +kernel) (fun _ _ _ h => OnlyN.no (by simp) h) (.inl ⟨rfl, fun w' hS => ?_⟩) (World.grownBy.refl _ _) ?_
        · go_simp
        try simp only [List.setIfInBounds_toArray, List.set_cons_zero, List.set_cons_succ]
        refine wpAnyH.takeT (i := 7) (t := 32) (v := .string px.val) rfl rfl (by decide +kernel) (by decide +kernel) (by decide +kernel) (fun _ _ _ h => OnlyN.no (by simp) h) (.inl ⟨rfl, fun w' hS => ?_⟩) (World.grownBy.refl _ _) ?_
        · have c0 := ((World.cell?_of_block (w := X.drew) (w' := w') (a := ⟨b, o + i * 3 + 1, none⟩) (hS.block b hbX (by simp; omega))).trans a1 : w'.cell? ⟨b, o + i * 3 + 1, none⟩ = _)
          go_simp
        try simp only [List.setIfInBounds_toArray, List.set_cons_zero, List.set_cons_succ]
        refine wpAnyH.takeT (i := 8) (t := 33) (v := .pointer (some ⟨W.heap.size, 0, none⟩)) rfl rfl (by decide +kernel) (by decide +kernel) (by decide +kernel) (fun _ _ _ h => OnlyN.no (by simp) h) (.inl ⟨rfl, fun w' hS => ?_⟩) (World.grownBy.refl _ _) ?_
        · go_simp
        try simp only [List.setIfInBounds_toArray, List.set_cons_zero, List.set_cons_succ]
        refine wpAnyH.oneStore (i := 9) (k := 0) (v := .string px.key) (by decide +kernel) rfl rfl rfl (t := 9) (x := .tmp 33) (y := .tmp 28) rfl rfl rfl rfl rfl (by kernel_rfl) hc0.drew (by simp) fun Xa hXa gXa => ⟨gr_trg (World.grownBy.refl _ _) gXa, ?_⟩
        have GXa := gr_trg (World.grownBy.refl _ _) gXa
        simp only [List.set_cons_zero, List.set_cons_succ] at hXa
        try simp only [List.setIfInBounds_toArray, List.set_cons_zero, List.set_cons_succ]
        refine wpAnyH.takeT (i := 10) (t := 34) (v := .pointer (some ⟨W.heap.size, 1, none⟩)) rfl rfl (by decide +kernel) (by decide +kernel) (by decide +kernel) (fun _ _ _ h => OnlyN.no (by simp) h) (.inl ⟨rfl, fun w' hS => ?_⟩) GXa ?_
        · go_simp
        try simp only [List.setIfInBounds_toArray, List.set_cons_zero, List.set_cons_succ]
        refine wpAnyH.oneStore (i := 11) (k := 1) (v := .string px.val) (by decide +kernel) rfl rfl rfl (t := 9) (x := .tmp 34) (y := .tmp 32) rfl rfl rfl rfl rfl (by kernel_rfl) hXa (by simp) fun Xb hXb gXb => ⟨gr_trg GXa gXb, ?_⟩
        have GXb := gr_trg GXa gXb
        simp only [List.set_cons_zero, List.set_cons_succ] at hXb
        try simp only [List.setIfInBounds_toArray, List.set_cons_zero, List.set_cons_succ]
        refine wpAnyH.takeT (i := 12) (t := 35) (v := .pointer (some ⟨W.heap.size, 3, none⟩)) rfl rfl (by decide +kernel) (by decide +kernel) (by decide +kernel) (fun _ _ _ h => OnlyN.no (by simp) h) (.inl ⟨rfl, fun w' hS => ?_⟩) GXb ?_
        · go_simp
        try simp only [List.setIfInBounds_toArray, List.set_cons_zero, List.set_cons_succ]
        refine wpAnyH.oneStore (i := 13) (k := 3) (v := .bool true) (by decide +kernel) rfl rfl rfl (t := 4) (x := .tmp 35) (y := .const (.bool true)) rfl rfl rfl rfl rfl (by kernel_rfl) hXb (by simp) fun Xc hXc gXc => ⟨gr_trg GXb gXc, ?_⟩
        have GXc := gr_trg GXb gXc
        simp only [List.set_cons_zero, List.set_cons_succ] at hXc
        try simp only [List.setIfInBounds_toArray, List.set_cons_zero, List.set_cons_succ]
        refine wpAnyH_done (by decide +kernel) ?_ _
        refine ⟨rfl, ?_⟩
        have hXG : W.grownBy Xc (some W.heap.size) := gr_trg (gr_drew (gr_below hWX _)) GXc
        have hG := hXG
        have hC := hXc
        have k1 : Blk Xc w2.heap.size _ := h1.grown hG (by have := h1.lt; simp; omega)
        have k2 := kept_row h2 hG (fun q e => by have := ownsRow_lt h2 e; simp; omega)
        have k3 : Below w2.heap.size w2 Xc := h3.grown hG hW (fun k e => by cases e; omega)
        have kP : Below w2.heap.size W Xc := (Below.refl _ _).grown hG hW (fun k e => by cases e; omega)
        have kK : KeepsOthers W Xc := KeepsOthers.of_grownBy hG (fun j ob e ho => by cases e; have := (Array.getElem?_eq_some_iff.1 ho).1; omega)
        have ka : Xc.heap[w2.heap.size + 1]? = W.heap[w2.heap.size + 1]? := hG.block _ (by omega) (by simp; omega)
        have kb : Xc.heap[w2.heap.size + 1 + 1]? = W.heap[w2.heap.size + 1 + 1]? := hG.block _ (by omega) (by simp; omega)
        have hLs := hG.size
        have c0 := hC.get (j := 0) rfl
        have c1' := hC.get (j := 1) rfl
        have c2' := hC.get (j := 2) rfl
        have c3' := hC.get (j := 3) rfl
        have c4' := hC.get (j := 4) rfl
        have e0 := k1.cell
        have g0 := k1.unf
        have hcl := hC.lt
        clear hWX hXG hc0 a0 a1
        have e42 : ∀ w, (binOp .neq 42 (.agg #[.string px.key, .string px.val, .string ⟨#[]⟩, .bool true, .bool false]) (.agg #[.string px.key, .string px.val, .string px.val, .bool true, .bool true])).run Try.prog w = .ok (.bool true) w := fun w => by rw [run_neq42]; simp
        have hone : (pre ++ [(some i, none)]).filterMap (dOne l m) = pre.filterMap (dOne l m) ++ [⟨px.key, px.val, ⟨#[]⟩, true, false⟩] := by rw [List.filterMap_append]; simp [dOne, hd.out, chD]
        replace hone := Lib.hid hone
        generalize hcs : pre.filterMap (dOne l m) = cs at *
        have hlc : cs.length ≤ 1000000000000 := by omega
        clear hcs
        gi_wp2_with (first | (gi_at_builtin; refine wpListIn_append_own _ rfl _ _ 32 rfl (w2.heap.size + 3) 42 i0 _ 5 56 Try.underlying32 hi0 hz0 hz1 hz2 rfl (by decide) (.slice A1 cs.length c1) cs.length _ rfl (k2.alloc _) ⟨Xc.heap.size, 0, none⟩ 1 1 (chL ⟨px.key, px.val, ⟨#[]⟩, true, false⟩) rfl rfl ?hsrc10 ?hone10 ?h6310 ?hby10 ?hba10 ?nx10; case' nx10 => intro v' w4 hown' hg4 hnil4; obtain ⟨A4, c4, rfl, _⟩ := ownsRow_tells hown'; have hB4 : Blk w4 w2.heap.size [.slice A1 cs.length c1] := (k1.alloc _).grown hg4 (by intro e; have := ownsRow_base k2 e.symm; omega); have e4 := hB4.cell; have g4 := hB4.unf; have l4 := hB4.lt; clear hnil4))
        case hsrc10 => intro j u hu; rw [Addr.add_mid, Nat.zero_add]; exact (Blk.new' _ _ rfl).get hu
        case hone10 => exact chL_one _
        case h6310 => simp only [maxLen]; omega
        case hby10 => omega
        case hba10 => simp; omega
        have hko : KeepsOthers (Xc.alloc (.cells (chL ⟨px.key, px.val, ⟨#[]⟩, true, false⟩).toArray 42)) w4 := KeepsOthers.of_grownBy hg4 (by
          intro j ob hj ho
          obtain ⟨_, ⟨e1, _⟩ | ⟨g, cap, cur, e1, _, hh, _⟩⟩ := k2.alloc (.cells (chL ⟨px.key, px.val, ⟨#[]⟩, true, false⟩).toArray 42)
          · rw [e1] at hj; cases hj
          · rw [e1] at hj; cases hj; rw [hh] at ho; cases ho; rfl)
        have hrow : ∀ q, (Value.slice A1 cs.length c1).ownBlock = some q → w2.heap.size + 3 ≤ q := fun q e => ownsRow_base k2 e
        have w4a : w4.heap[w2.heap.size + 1]? = Xc.heap[w2.heap.size + 1]? := (hg4.block _ (by simp; omega) (fun e => by have := hrow _ e.symm; omega)).trans (Below.heap_alloc _ _ _ (by omega))
        have w4b : w4.heap[w2.heap.size + 1 + 1]? = Xc.heap[w2.heap.size + 1 + 1]? := (hg4.block _ (by simp; omega) (fun e => by have := hrow _ e.symm; omega)).trans (Below.heap_alloc _ _ _ (by omega))
        refine ⟨(((kK.trans (KeepsOthers.alloc _ _)).trans hko).trans (KeepsOthers.setCell _ _ _)).from _, ⟨?_, ?_, ?_⟩, ?_⟩
        · exact bl_set' (kP.trans ((Below.refl _ _).alloc (by omega) _)) hg4 (fun g hg => by have := hrow g hg; omega) _ (Nat.le_refl _) (by simp; omega)
        · exact (Below.heap_setCell _ _ _ _ (by simp)).trans (w4a.trans ka)
        · exact (Below.heap_setCell _ _ _ _ (by simp; omega)).trans (w4b.trans kb)
        · show DRel w2 ((pre ++ [(some i, none)]).filterMap (dOne l m)) _
          rw [hone.out]
          refine ⟨A4, c4, ?_, ?_, ?_, ?_⟩
          · simpa using hB4.set_same 0 (.slice A4 (cs.length + 1) c4)
          · simp only [List.length_append, List.length_cons, List.length_nil, List.flatMap_append, List.flatMap_cons, List.flatMap_nil, List.append_nil]
            exact ownsRow_setCell_below hown' (by simp) _
          · exact bl_set' (bl_alloc k3 _) hg4 (fun g hg => by have := hrow g hg; omega) _ (Nat.le_refl _) (by simp; omega)
          · have := hg4.size; simp [World.setCell] at this ⊢; omega
    | none =>
      cases xj with
      | some j =>
        have hjl := hv.2 j rfl
        obtain ⟨b2, o2, rfl, hbl2, ca2⟩ := hm j hjl
        have e0' : W.cell? ⟨b2, o2 + j * 3, none⟩ = some (.string m[j].key) := (h3.cell (p := ⟨b2, o2 + j * 3, none⟩) hbl2).trans (ca2 0 _ rfl)
        have e1' : W.cell? ⟨b2, o2 + j * 3 + 1, none⟩ = some (.string m[j].val) := (h3.cell (p := ⟨b2, o2 + j * 3 + 1, none⟩) hbl2).trans (ca2 1 _ rfl)
        have gm : m.getD j default = m[j] := by simp [List.getD, hjl]
        generalize m[j] = py at e0' e1' gm
        clear ca2
        have hd : dItem l m (none, some j) = ⟨py.key, ⟨#[]⟩, py.val, false, true⟩ := by simp only [dItem, gm]
        clear gm
        replace hd := Lib.hid hd
        have hW := h3.size
        clear hl hm hv hx
        simp only [Option.bind_some, Option.bind_none, elA, Option.map_some]
        gi_wp2
        generalize hX : W.alloc (Obj.cells #[Value.string ⟨#[]⟩, Value.string ⟨#[]⟩, Value.string ⟨#[]⟩, Value.bool false, Value.bool false] 42) = X
        have hc0 : Blk X W.heap.size [Value.string ⟨#[]⟩, Value.string ⟨#[]⟩, Value.string ⟨#[]⟩, Value.bool false, Value.bool false] := by rw [← hX]; exact Blk.new' _ _ rfl
        have hWX : Below W.heap.size W X := by rw [← hX]; exact bl_alloc (Below.refl _ _) _
        have hKX : KeepsFrom V.heap.size W X := by rw [← hX]; exact (KeepsOthers.alloc _ _).from _
        have hXs := hWX.size
        replace e0' := ((bcell hWX).1 b2 (o2 + j * 3) (Nat.lt_of_lt_of_le hbl2 hW)).trans e0'
        replace e1' := ((bcell hWX).1 b2 (o2 + j * 3 + 1) (Nat.lt_of_lt_of_le hbl2 hW)).trans e1'
        clear e0 g0 hX
        have hXG : W.grownBy X (some W.heap.size) := gr_below hWX _
        gi_wp2
        have hbY : b2 < X.drew.heap.size := by have := hXG.size; show b2 < X.heap.size; omega
        refine regionInH (by kernel_rfl) (by decide +kernel) (fun w' => X.drew.grownBy w' (some W.heap.size)) ?_
        refine wpAnyH.takeT (i := 0) (t := 38) (v := .pointer (some ⟨b2, o2 + j * 3, none⟩)) rfl rfl (by decide +kernel) (by decide +kernel) (by decide +kernel) (fun _ _ _ h => OnlyN.no (by simp) h) (.inl ⟨rfl, fun w' hS => ?_⟩) (World.grownBy.refl _ _) ?_
        · go_simp
        try simp only [List.setIfInBounds_toArray, List.set_cons_zero, List.set_cons_succ]
        refine wpAnyH.takeT (i := 1) (t := 39) (v := .pointer (some ⟨b2, o2 + j * 3, none⟩)) rfl rfl (by decide +kernel) (by decide +kernel) (by decide +kernel) (fun _ _ _ h => OnlyN.no (by simp) h) (.inl ⟨rfl, fun w' hS => ?_⟩) (World.grownBy.refl _ _) ?_
        · go_simp
        try simp only [List.setIfInBounds_toArray, List.set_cons_zero, List.set_cons_succ]
        refine wpAnyH.takeT (i := 2) (t := 40) (v := .pointer (some ⟨b2, o2 + j * 3, none⟩)) rfl rfl (by decide +kernel) (by decide +kernel) (by decide +kernel) (fun _ _ _ h => OnlyN.no (by simp) h) (.inl ⟨rfl, fun w' hS => ?_⟩) (World.grownBy.refl _ _) ?_
        · go_simp
        try simp only [List.setIfInBounds_toArray, List.set_cons_zero, List.set_cons_succ]
        refine wpAnyH.takeT (i := 3) (t := 41) (v := .string py.key) rfl rfl (by decide +kernel) (by decide +kernel) (by decide +kernel) (fun _ _ _ h => OnlyN.no (by simp) h) (.inl ⟨rfl, fun w' hS => ?_⟩) (World.grownBy.refl _ _) ?_
        · have c0 := ((World.cell?_of_block (w := X.drew) (w' := w') (a := ⟨b2, o2 + j * 3, none⟩) (hS.block b2 hbY (by simp; omega))).trans e0' : w'.cell? ⟨b2, o2 + j * 3, none⟩ = _)
          go_simp
        try simp only [List.setIfInBounds_toArray, List.set_cons_zero, List.set_cons_succ]
        refine wpAnyH.takeT (i := 4) (t := 42) (v := .pointer (some ⟨b2, o2 + j * 3, none⟩)) rfl rfl (by decide +kernel) (by decide +kernel) (by decide +kernel) (fun _ _ _ h => OnlyN.no (by simp) h) (.inl ⟨rfl, fun w' hS => ?_⟩) (World.grownBy.refl _ _) ?_
        · go_simp
        try simp only [List.setIfInBounds_toArray, List.set_cons_zero, List.set_cons_succ]
        refine wpAnyH.takeT (i := 5) (t := 43) (v := .pointer (some ⟨b2, o2 + j * 3, none⟩)) rfl rfl (by decide +kernel) (by decide +kernel) (by decide +kernel) (fun _ _ _ h => OnlyN.no (by simp) h) (.inl ⟨rfl, fun w' hS => ?_⟩) (World.grownBy.refl _ _) ?_
        · go_simp
        try simp only [List.setIfInBounds_toArray, List.set_cons_zero, List.set_cons_succ]
        refine wpAnyH.takeT (i := 6) (t := 44) (v := .pointer (some ⟨b2, o2 + j * 3 + 1, none⟩)) rfl rfl (by decide +kernel) (by decide +kernel) (by decide +kernel) (fun _ _ _ h => OnlyN.no (by simp) h) (.inl ⟨rfl, fun w' hS => ?_⟩) (World.grownBy.refl _ _) ?_
        · go_simp
        try simp only [List.setIfInBounds_toArray, List.set_cons_zero, List.set_cons_succ]
        refine wpAnyH.takeT (i := 7) (t := 45) (v := .string py.val) rfl rfl (by decide +kernel) (by decide +kernel) (by decide +kernel) (fun _ _ _ h => OnlyN.no (by simp) h) (.inl ⟨rfl, fun w' hS => ?_⟩) (World.grownBy.refl _ _) ?_
        · have c0 := ((World.cell?_of_block (w := X.drew) (w' := w') (a := ⟨b2, o2 + j * 3 + 1, none⟩) (hS.block b2 hbY (by simp; omega))).trans e1' : w'.cell? ⟨b2, o2 + j * 3 + 1, none⟩ = _)
          go_simp
        try simp only [List.setIfInBounds_toArray, List.set_cons_zero, List.set_cons_succ]
        refine wpAnyH.takeT (i := 8) (t := 46) (v := .pointer (some ⟨W.heap.size, 0, none⟩)) rfl rfl (by decide +kernel) (by decide +kernel) (by decide +kernel) (fun _ _ _ h => OnlyN.no (by simp) h) (.inl ⟨rfl, fun w' hS => ?_⟩) (World.grownBy.refl _ _) ?_
        · go_simp
        try simp only [List.setIfInBounds_toArray, List.set_cons_zero, List.set_cons_succ]
        refine wpAnyH.oneStore (i := 9) (k := 0) (v := .string py.key) (by decide +kernel) rfl rfl rfl (t := 9) (x := .tmp 46) (y := .tmp 41) rfl rfl rfl rfl rfl (by kernel_rfl) hc0.drew (by simp) fun Ya hYa gYa => ⟨gr_trg (World.grownBy.refl _ _) gYa, ?_⟩
        have GYa := gr_trg (World.grownBy.refl _ _) gYa
        simp only [List.set_cons_zero, List.set_cons_succ] at hYa
        try simp only [List.setIfInBounds_toArray, List.set_cons_zero, List.set_cons_succ]
        refine wpAnyH.takeT (i := 10) (t := 47) (v := .pointer (some ⟨W.heap.size, 2, none⟩)) rfl rfl (by decide +kernel) (by decide +kernel) (by decide +kernel) (fun _ _ _ h => OnlyN.no (by simp) h) (.inl ⟨rfl, fun w' hS => ?_⟩) GYa ?_
        · go_simp
        try simp only [List.setIfInBounds_toArray, List.set_cons_zero, List.set_cons_succ]
        refine wpAnyH.oneStore (i := 11) (k := 2) (v := .string py.val) (by decide +kernel) rfl rfl rfl (t := 9) (x := .tmp 47) (y := .tmp 45) rfl rfl rfl rfl rfl (by kernel_rfl) hYa (by simp) fun Yb hYb gYb => ⟨gr_trg GYa gYb, ?_⟩
        have GYb := gr_trg GYa gYb
        simp only [List.set_cons_zero, List.set_cons_succ] at hYb
        try simp only [List.setIfInBounds_toArray, List.set_cons_zero, List.set_cons_succ]
        refine wpAnyH.takeT (i := 12) (t := 48) (v := .pointer (some ⟨W.heap.size, 4, none⟩)) rfl rfl (by decide +kernel) (by decide +kernel) (by decide +kernel) (fun _ _ _ h => OnlyN.no (by simp) h) (.inl ⟨rfl, fun w' hS => ?_⟩) GYb ?_
        · go_simp
        try simp only [List.setIfInBounds_toArray, List.set_cons_zero, List.set_cons_succ]
        refine wpAnyH.oneStore (i := 13) (k := 4) (v := .bool true) (by decide +kernel) rfl rfl rfl (t := 4) (x := .tmp 48) (y := .const (.bool true)) rfl rfl rfl rfl rfl (by kernel_rfl) hYb (by simp) fun Yc hYc gYc => ⟨gr_trg GYb gYc, ?_⟩
        have GYc := gr_trg GYb gYc
        simp only [List.set_cons_zero, List.set_cons_succ] at hYc
        try simp only [List.setIfInBounds_toArray, List.set_cons_zero, List.set_cons_succ]
        refine wpAnyH_done (by decide +kernel) ?_ _
        refine ⟨rfl, ?_⟩
        have hYG : W.grownBy Yc (some W.heap.size) := gr_trg (gr_drew hXG) GYc
        have hG := hYG
        have hC := hYc
        have k1 : Blk Yc w2.heap.size _ := h1.grown hG (by have := h1.lt; simp; omega)
        have k2 := kept_row h2 hG (fun q e => by have := ownsRow_lt h2 e; simp; omega)
        have k3 : Below w2.heap.size w2 Yc := h3.grown hG hW (fun k e => by cases e; omega)
        have kP : Below w2.heap.size W Yc := (Below.refl _ _).grown hG hW (fun k e => by cases e; omega)
        have kK : KeepsOthers W Yc := KeepsOthers.of_grownBy hG (fun j ob e ho => by cases e; have := (Array.getElem?_eq_some_iff.1 ho).1; omega)
        have ka : Yc.heap[w2.heap.size + 1]? = W.heap[w2.heap.size + 1]? := hG.block _ (by omega) (by simp; omega)
        have kb : Yc.heap[w2.heap.size + 1 + 1]? = W.heap[w2.heap.size + 1 + 1]? := hG.block _ (by omega) (by simp; omega)
        have hLs := hG.size
        have c0 := hC.get (j := 0) rfl
        have c1' := hC.get (j := 1) rfl
        have c2' := hC.get (j := 2) rfl
        have c3' := hC.get (j := 3) rfl
        have c4' := hC.get (j := 4) rfl
        have e0 := k1.cell
        have g0 := k1.unf
        have hcl := hC.lt
        clear hWX hXG hc0 e0' e1' hYG
        have e42 : ∀ w, (binOp .neq 42 (.agg #[.string py.key, .string ⟨#[]⟩, .string py.val, .bool false, .bool true]) (.agg #[.string py.key, .string ⟨#[]⟩, .string ⟨#[]⟩, .bool false, .bool false])).run Try.prog w = .ok (.bool true) w := fun w => by rw [run_neq42]; simp
        have hone : (pre ++ [(none, some j)]).filterMap (dOne l m) = pre.filterMap (dOne l m) ++ [⟨py.key, ⟨#[]⟩, py.val, false, true⟩] := by rw [List.filterMap_append]; simp [dOne, hd.out, chD]
        replace hone := Lib.hid hone
        generalize hcs : pre.filterMap (dOne l m) = cs at *
        have hlc : cs.length ≤ 1000000000000 := by omega
        clear hcs
        gi_wp2_with (first | (gi_at_builtin; refine wpListIn_append_own _ rfl _ _ 32 rfl (w2.heap.size + 3) 42 i0 _ 5 56 Try.underlying32 hi0 hz0 hz1 hz2 rfl (by decide) (.slice A1 cs.length c1) cs.length _ rfl (k2.alloc _) ⟨Yc.heap.size, 0, none⟩ 1 1 (chL ⟨py.key, ⟨#[]⟩, py.val, false, true⟩) rfl rfl ?hsrc01 ?hone01 ?h6301 ?hby01 ?hba01 ?nx01; case' nx01 => intro v' w4 hown' hg4 hnil4; obtain ⟨A4, c4, rfl, _⟩ := ownsRow_tells hown'; have hB4 : Blk w4 w2.heap.size [.slice A1 cs.length c1] := (k1.alloc _).grown hg4 (by intro e; have := ownsRow_base k2 e.symm; omega); have e4 := hB4.cell; have g4 := hB4.unf; have l4 := hB4.lt; clear hnil4))
        case hsrc01 => intro j u hu; rw [Addr.add_mid, Nat.zero_add]; exact (Blk.new' _ _ rfl).get hu
        case hone01 => exact chL_one _
        case h6301 => simp only [maxLen]; omega
        case hby01 => omega
        case hba01 => simp; omega
        have hko : KeepsOthers (Yc.alloc (.cells (chL ⟨py.key, ⟨#[]⟩, py.val, false, true⟩).toArray 42)) w4 := KeepsOthers.of_grownBy hg4 (by
          intro j ob hj ho
          obtain ⟨_, ⟨e1, _⟩ | ⟨g, cap, cur, e1, _, hh, _⟩⟩ := k2.alloc (.cells (chL ⟨py.key, ⟨#[]⟩, py.val, false, true⟩).toArray 42)
          · rw [e1] at hj; cases hj
          · rw [e1] at hj; cases hj; rw [hh] at ho; cases ho; rfl)
        have hrow : ∀ q, (Value.slice A1 cs.length c1).ownBlock = some q → w2.heap.size + 3 ≤ q := fun q e => ownsRow_base k2 e
        have w4a : w4.heap[w2.heap.size + 1]? = Yc.heap[w2.heap.size + 1]? := (hg4.block _ (by simp; omega) (fun e => by have := hrow _ e.symm; omega)).trans (Below.heap_alloc _ _ _ (by omega))
        have w4b : w4.heap[w2.heap.size + 1 + 1]? = Yc.heap[w2.heap.size + 1 + 1]? := (hg4.block _ (by simp; omega) (fun e => by have := hrow _ e.symm; omega)).trans (Below.heap_alloc _ _ _ (by omega))
        refine ⟨(((kK.trans (KeepsOthers.alloc _ _)).trans hko).trans (KeepsOthers.setCell _ _ _)).from _, ⟨?_, ?_, ?_⟩, ?_⟩
        · exact bl_set' (kP.trans ((Below.refl _ _).alloc (by omega) _)) hg4 (fun g hg => by have := hrow g hg; omega) _ (Nat.le_refl _) (by simp; omega)
        · exact (Below.heap_setCell _ _ _ _ (by simp)).trans (w4a.trans ka)
        · exact (Below.heap_setCell _ _ _ _ (by simp; omega)).trans (w4b.trans kb)
        · show DRel w2 ((pre ++ [(none, some j)]).filterMap (dOne l m)) _
          rw [hone.out]
          refine ⟨A4, c4, ?_, ?_, ?_, ?_⟩
          · simpa using hB4.set_same 0 (.slice A4 (cs.length + 1) c4)
          · simp only [List.length_append, List.length_cons, List.length_nil, List.flatMap_append, List.flatMap_cons, List.flatMap_nil, List.append_nil]
            exact ownsRow_setCell_below hown' (by simp) _
          · exact bl_set' (bl_alloc k3 _) hg4 (fun g hg => by have := hrow g hg; omega) _ (Nat.le_refl _) (by simp; omega)
          · have := hg4.size; simp [World.setCell] at this ⊢; omega
      | none =>
        exact absurd rfl (mrgF_some l m _ _ _ _ hx)
  case done0 =>
    rintro D W hD ⟨A1, c1, h1, h2, h3, h4⟩ hK
    have e0 := h1.cell
    go_wp2_with fail
    refine finM _ _ _ D (.tuple #[.slice A1 (diffL l m).length c1, .int .i64 0]) _ (fun W => by simp [results, Try.results17, go_sem, diffL]) hK ?_
    intro W' hg
    have h5 := ownsRow_other h2 hg (fun r e => by cases e; exact ⟨_, hK, rfl⟩)
    exact ⟨A1, c1, rfl, LAt.of_own chL_len h5 rfl, ownsRow_cap h5, bl_tr hw (bl_gr h3 hg (by omega))⟩
end Go.Proofs.Ytjokpjfmnjefdaa
