/- slices.Values, Collect: the elements of a slice, collected in a new one; at ints and at strings. -/
import Derived.Test.YtbjjhnlifgbpmaaAt
import Derived.Shelf.RegionOpen
import Derived.RangeFuncBound
import Derived.RangeFuncCalls
import Derived.RangeFuncNested
import Derived.RangeFuncOne
import Derived.TacticsInMore
namespace Go.Proofs.Ytbjjhnlifgbpmaa
open Go.RowKit Go.Shelf
attribute [local go_sem] Oper.semAt_some

theorem Blk.ne_other {w : World} {b D : Nat} {v : Value} {vs : List Value} {o : Obj} (h : Blk w b (v :: vs)) (hD : w.heap[D]? = some o) (ho : o.isCells = false) : b ≠ D := by
  rintro rfl
  have h0 := h.get (j := 0) rfl
  cases o <;> simp_all [World.cell?, Obj.isCells]
/-- The end of a function whose loop over a function went through: no result lies in a cell. -/
theorem finM (f : Func) (tmps : Array Value) (R : Ending → World → Prop) (D : Nat) (v : Value) (w : World) (hv : ∀ W, (results f tmps).run Try.prog W = .ok v W) (hK : w.heap[D]? = some (.deferred (some [])))
    (hR : ∀ W', w.grownBy W' (some D) → R (.returned v) W') :
    LeavesInM Fence.wide 8 Try.prog f tmps R [{ target := .collected D, args := #[] }] .returning w := by
  have hg := grownBy_putObj' w D (.deferred none)
  refine ⟨by simp, .inl ⟨_, _, rfl, run_takeDeferred hK, ?_⟩⟩
  exact ⟨_, hv _, hR _ hg⟩

def encI (x : Int) : List Value := [.int .i64 x]
theorem encI_len (x : Int) : (encI x).length = 1 := rfl
theorem encI_one (x : Int) : ∀ u ∈ encI x, u.oneCell' = true := by intro u hu; simp [encI] at hu; subst hu; rfl
theorem infoI : (Try.prog.info? 3).map (fun i => (i.zero, i.size, i.bytes)) = some (some (.int .i64 0), 1, 8) := by kernel_rfl
theorem valuesI_any (v : Value) (A : Option Addr) (n c : Nat) (hv : v = .slice A n c) (w : World) :
    Calls Try.prog 31 #[v] w fun e w' => e = .returned (.func (.func 48) #[] #[.pointer (some ⟨w.heap.size, 0, none⟩)]) ∧ w' = w.alloc (.cells #[v] 37) := by
  subst hv
  go_enter Try.func31, Try.ntmps31
  go_wp2
  go_ret
  exact ⟨rfl, rfl⟩

set_option maxRecDepth 100000 in
set_option maxHeartbeats 2000000 in
theorem vals_inI (F : Fence) (n : Nat) (hf : F.fn 48) (hro : F.round = none) (hn : 1 ≤ n) (l0 Bs n₀ : Nat) (A : Option Addr) (c : Nat) (l : List Int) (J Jx : List Int → World → Prop)
    (hY : ∀ pre x W, J pre W → pre.length < l.length → YieldAt F (n - 1) Try.prog l0 #[.int .i64 x] W fun e W' =>
      (e = .returned (.bool true) ∧ J (pre ++ [x]) W' ∧ Below n₀ W W') ∨ (e = .returned (.bool false) ∧ Jx (pre ++ [x]) W'))
    (W : World) (hS : Blk W Bs [.slice A l.length c]) (hD : LAt W A 1 encI l) (hlt : Bs < n₀) (hA : LBel n₀ A l) (hl : l.length ≤ 140737488351232) (h0 : J [] W) :
    CallsIn F n Try.prog 48 #[.func (.yield l0) #[] #[], .pointer (some ⟨Bs, 0, none⟩)] W fun e W' => (∃ v, e = .returned v) ∧
      ((∃ ys, ys = l ∧ J ys W') ∨ (∃ pre, pre <+: l ∧ Jx pre W')) := by
  have q := hS.cell
  refine callsIn_of_wp Try.func48 rfl hf ?_ hro
  simp only [Try.ntmps48, List.size_toArray, List.length_cons, List.length_nil, Nat.reduceAdd, Nat.reduceSub, Array.replicate_succ, Array.replicate_zero, List.push_toArray, List.append_toArray, List.nil_append, List.cons_append]
  gi_wp2
  gi_loopw [7] (fun i wr => ∃ k : Nat, i = .int .i64 (k : Int) ∧ k ≤ l.length ∧ Blk wr Bs [.slice A l.length c] ∧ LAt wr A 1 encI l ∧ J (l.take k) wr)
    (fun i _ => l.length - (intOf i).toNat)
  case atStart => exact ⟨0, rfl, Nat.zero_le _, hS, hD, by simpa using h0⟩
  case round =>
    obtain ⟨k, rfl, hk, hS1, hD1, hJ⟩ := hrel
    by_cases hkl : k < l.length
    · have hT := Lib.hid (List.take_succ_eq_append_getElem hkl)
      obtain ⟨fn, tmps, assign, body, hy, hR⟩ := hY _ l[k] wr hJ (by rw [List.length_take]; omega)
      have HY := Lib.hid hy
      clear hy
      obtain ⟨b, o, rfl, hbl, d0⟩ := hD1 k hkl
      have d1 := d0 0 _ rfl
      simp only [Nat.mul_one, Nat.add_zero] at d1
      clear d0
      have hy := HY.out
      have hj0 : (0 : Int) ≤ (k : Int) := by omega
      gi_wp2
      refine hR.mono ?_
      rintro e W3 (⟨rfl, hJ3, hk3⟩ | ⟨rfl, hJx3⟩)
      · gi_wp2
        go_roundw
        case rel => exact ⟨k + 1, by go_num, by omega, hS1.below hk3 hlt, hD1.low hk3 hA, by rw [hT.out]; exact hJ3⟩
        case measure => simp [intOf]; omega
      · gi_wp2
        refine bodyPost_ret (results_none rfl _ _ _) rfl ?_
        refine ⟨⟨_, rfl⟩, .inr ⟨_, ?_, hJx3⟩⟩
        rw [← hT.out]
        exact List.take_prefix _ _
    · obtain rfl : k = l.length := by omega
      gi_wp2
      go_end0
      exact ⟨⟨_, rfl⟩, .inl ⟨_, List.take_length .., hJ⟩⟩

theorem vals_stopsI (F : Fence) (n : Nat) (hf : F.fn 48) (hro : F.round = none) (hn : 1 ≤ n) (Bs n₀ : Nat) (A : Option Addr) (c : Nat) (l : List Int) (w : World) (hS : Blk w Bs [.slice A l.length c]) (hD : LAt w A 1 encI l) (hlt : Bs < n₀) (hA : LBel n₀ A l)
    (hl : l.length ≤ 140737488351232) :
    SeqStopsK F n Try.prog 48 #[.pointer (some ⟨Bs, 0, none⟩)] (fun x : Int => #[.int .i64 x]) (Below n₀) (fun ys => ys = l) (fun pre => pre <+: l) l.length w := fun l0 J Jx W hW _ _ hY h0 =>
  vals_inI F n hf hro hn l0 Bs n₀ A c l J Jx hY W (hS.below hW hS.lt) (hD.below hW) hlt hA hl h0

def CRelI (w : World) (pre : List Int) (W : World) : Prop := ∃ A c, Blk W w.heap.size [.slice A pre.length c] ∧ W.ownsRow (w.heap.size + 1) 3 1 (.slice A pre.length c) pre.length (pre.flatMap encI) ∧ Below w.heap.size w W ∧ w.heap.size + 1 ≤ W.heap.size

set_option maxRecDepth 100000 in
set_option maxHeartbeats 2000000 in
theorem appseqI_any (Bs : Nat) (A : Option Addr) (c : Nat) (l : List Int) (w : World) (hS : Blk w Bs [.slice A l.length c]) (hD : LAt w A 1 encI l) (hl : l.length * 8 ≤ 140737488351232) :
    Calls Try.prog 55 #[.slice none 0 0, .func (.func 48) #[] #[.pointer (some ⟨Bs, 0, none⟩)]] w fun e w' => ∃ A c, e = .returned (.slice A l.length c) ∧
      w'.ownsRow (w.heap.size + 1) 3 1 (.slice A l.length c) l.length (l.flatMap encI) ∧ Below w.heap.size w w' := by
  obtain ⟨i0, hi0, hz0, hz1, hz2⟩ := info_parts infoI
  refine (callsIn_wide (n := 8)).1 ?_
  refine callsIn_of_wp_marks Try.func55 rfl trivial ?_ rfl
  refine wpIn_wide.2 ?_
  simp only [Try.ntmps55, List.size_toArray, List.length_cons, List.length_nil, Nat.reduceAdd, Nat.reduceSub, Array.replicate_succ, Array.replicate_zero, List.push_toArray, List.append_toArray, List.nil_append, List.cons_append]
  go_wp2_with fail
  have hB0 : Blk (w.alloc (.cells #[.slice none 0 0] 37)) w.heap.size [.slice none 0 0] := Blk.new' _ _ rfl
  have hS0 := hS.alloc (.cells #[.slice none 0 0] 37)
  have hD0 := hD.below (bl_alloc (Below.refl _ _) (.cells #[.slice none 0 0] 37))
  have hSl := hS.lt
  refine (wpIn_wide (n := 8)).1 ?_
  refine wpIn_rangeFunc_ownH rfl (by omega) (gf := 48) (lb := #[.pointer (some ⟨Bs, 0, none⟩)]) rfl trivial (enters_of Try.func48 (by kernel_rfl) rfl)
    (vals_stopsI Fence.wide 7 trivial rfl (by omega) Bs w.heap.size A c l _ hS0 hD0 hSl hD.bel (by omega)) belowK_t (belowK_b (by simp)) (Below.refl _ _) (fun _ => rfl)
    (CRelI w) (fun _ _ _ => False)
    (fun pre A B row hs hg hr => by
      obtain ⟨A1, c1, h1, h2, h3, h4⟩ := hs
      have hne : ∀ b (v : Value) vs, Blk A b (v :: vs) → some b ≠ row := fun b v vs hb => by rintro e; obtain ⟨_, o, ho, hc⟩ := hr _ e.symm; exact hb.ne_other ho hc rfl
      exact ⟨A1, c1, h1.grown hg (hne _ _ _ h1), ownsRow_other h2 hg (fun r e => (hr r e).2), h3.grown hg h3.size (fun k e => by have := (hr k e).1; simp at this; omega), Nat.le_trans h4 hg.size⟩)
    (fun _ _ _ _ _ hs _ _ => hs.elim)
    ⟨none, 0, hB0, World.ownsRow_nil _ _ _ _, bl_alloc (Below.refl _ _) _, by simp⟩
    (fun x a' W => a' = { tmps := #[Value.slice none 0 0, Value.func (Fn.func 48) #[] #[Value.pointer (some { block := Bs, off := 0 })], Value.pointer (some { block := w.heap.size, off := 0 }), undef, Value.slice none 0 0, .int .i64 x, Value.func (Fn.func 48) #[] #[Value.pointer (some { block := Bs, off := 0 })], .int .i64 x, undef, undef, undef, undef, undef], defers := [] })
    (fun x a' _ A B row hs hg hr => hs)
    ?assign0 ?body0 ?done0 ?stop0
  case assign0 =>
    rintro l1 pre x W K hr hK
    gi_wp2
    exact hK _ _ ((KeepsOthers.refl _).from _) (Below.refl _ W) hr rfl
  case body0 =>
    rintro l1 pre x a' W hl1 hrec ⟨A1, c1, h1, h2, h3, h4⟩ rfl hlt
    have e0 := h1.cell
    have g0 := h1.unf
    have hW := h3.size
    gi_wp2_with (first
    | (gi_at_builtin; refine wpListIn_append_own _ rfl _ _ 37 rfl (w.heap.size + 1) 3 i0 _ 1 8 Try.underlying37 hi0 hz0 hz1 hz2 rfl (by decide) (.slice A1 pre.length c1) pre.length _ rfl (h2.alloc _) ⟨W.heap.size, 0, none⟩ 1 1 [.int .i64 x] rfl rfl ?hsrc ?hone ?h63 ?hby ?hba ?nx; case' nx => intro v' w3 hown' hg3 hnil3; obtain ⟨A3, c3, rfl, _⟩ := ownsRow_tells hown'; have hB3 := (h1.alloc (.cells #[.int .i64 x] 3)).grown hg3 (by intro e; have := ownsRow_base h2 e.symm; omega); have q3 := hB3.cell; have u3 := hB3.unf))
    case hsrc => intro j u hu; rw [Addr.add_mid, Nat.zero_add]; exact (Blk.new' _ _ rfl).get hu
    case hone => intro u hu; simp at hu; rcases hu with rfl; rfl
    case h63 => simp only [maxLen]; omega
    case hby => omega
    case hba => simp; omega
    have hko : KeepsOthers (W.alloc (.cells #[.int .i64 x] 3)) w3 := KeepsOthers.of_grownBy hg3 (by
      intro j o hj ho
      obtain ⟨_, ⟨e1, _⟩ | ⟨g, cap, cur, e1, _, hh, _⟩⟩ := h2.alloc (.cells #[.int .i64 x] 3)
      · rw [e1] at hj; cases hj
      · rw [e1] at hj; cases hj; rw [hh] at ho; cases ho; rfl)
    refine ⟨(((KeepsOthers.alloc _ _).trans hko).trans (KeepsOthers.setCell _ _ _)).from _, ?_, A3, c3, ?_, ?_, ?_, ?_⟩
    · exact bl_set' ((Below.refl _ _).alloc hW _) hg3 (fun g hg => by have := ownsRow_base h2 hg; omega) _ (Nat.le_refl _) (by simp; omega)
    · simpa using hB3.set_same 0 (.slice A3 (pre.length + 1) c3)
    · simp only [List.length_append, List.length_cons, List.length_nil, List.flatMap_append, List.flatMap_cons, List.flatMap_nil, encI, List.append_nil]
      exact ownsRow_setCell_below hown' (by simp) _
    · exact bl_set' (bl_alloc h3 _) hg3 (fun g hg => by have := ownsRow_base h2 hg; omega) _ (Nat.le_refl _) (by simp; omega)
    · have := hg3.size; simp [World.setCell] at this ⊢; omega
  case stop0 => rintro D cc pre W hD _ h; exact h.elim
  case done0 =>
    rintro D ys W hDl rfl ⟨A1, c1, h1, h2, h3, h4⟩ hK
    have e0 := h1.cell
    go_wp2_with fail
    refine finM _ _ _ D (.slice A1 ys.length c1) _ (fun W => by first | rfl | kernel_rfl | simp [results, Try.f55, go_sem]) hK ?_
    intro W' hg
    exact ⟨A1, c1, rfl, ownsRow_other h2 hg (fun r e => by cases e; exact ⟨_, hK, rfl⟩), bl_gr h3 hg (by simp at hDl; omega)⟩

theorem collectI_any (Bs : Nat) (A : Option Addr) (c : Nat) (l : List Int) (w : World) (hS : Blk w Bs [.slice A l.length c]) (hD : LAt w A 1 encI l) (hl : l.length * 8 ≤ 140737488351232) :
    Calls Try.prog 47 #[.func (.func 48) #[] #[.pointer (some ⟨Bs, 0, none⟩)]] w fun e w' => ∃ A c, e = .returned (.slice A l.length c) ∧
      w'.ownsRow (w.heap.size + 1) 3 1 (.slice A l.length c) l.length (l.flatMap encI) ∧ Below w.heap.size w w' := by
  go_enter Try.func47, Try.ntmps47
  go_wp2_with (go_at_call 55; refine (appseqI_any Bs A c l _ hS hD hl).mono ?_; rintro e w' ⟨A, c, rfl, h1, h2⟩)
  go_ret
  exact ⟨A, c, rfl, h1, h2⟩

def encS (x : ByteArray) : List Value := [.string x]
theorem encS_len (x : ByteArray) : (encS x).length = 1 := rfl
theorem encS_one (x : ByteArray) : ∀ u ∈ encS x, u.oneCell' = true := by intro u hu; simp [encS] at hu; subst hu; rfl
theorem infoS : (Try.prog.info? 9).map (fun i => (i.zero, i.size, i.bytes)) = some (some (.string ⟨#[]⟩), 1, 16) := by kernel_rfl
theorem valuesS_any (v : Value) (A : Option Addr) (n c : Nat) (hv : v = .slice A n c) (w : World) :
    Calls Try.prog 43 #[v] w fun e w' => e = .returned (.func (.func 54) #[] #[.pointer (some ⟨w.heap.size, 0, none⟩)]) ∧ w' = w.alloc (.cells #[v] 22) := by
  subst hv
  go_enter Try.func43, Try.ntmps43
  go_wp2
  go_ret
  exact ⟨rfl, rfl⟩

set_option maxRecDepth 100000 in
set_option maxHeartbeats 2000000 in
theorem vals_inS (F : Fence) (n : Nat) (hf : F.fn 54) (hro : F.round = none) (hn : 1 ≤ n) (l0 Bs n₀ : Nat) (A : Option Addr) (c : Nat) (l : List ByteArray) (J Jx : List ByteArray → World → Prop)
    (hY : ∀ pre x W, J pre W → pre.length < l.length → YieldAt F (n - 1) Try.prog l0 #[.string x] W fun e W' =>
      (e = .returned (.bool true) ∧ J (pre ++ [x]) W' ∧ Below n₀ W W') ∨ (e = .returned (.bool false) ∧ Jx (pre ++ [x]) W'))
    (W : World) (hS : Blk W Bs [.slice A l.length c]) (hD : LAt W A 1 encS l) (hlt : Bs < n₀) (hA : LBel n₀ A l) (hl : l.length ≤ 140737488351232) (h0 : J [] W) :
    CallsIn F n Try.prog 54 #[.func (.yield l0) #[] #[], .pointer (some ⟨Bs, 0, none⟩)] W fun e W' => (∃ v, e = .returned v) ∧
      ((∃ ys, ys = l ∧ J ys W') ∨ (∃ pre, pre <+: l ∧ Jx pre W')) := by
  have q := hS.cell
  refine callsIn_of_wp Try.func54 rfl hf ?_ hro
  simp only [Try.ntmps54, List.size_toArray, List.length_cons, List.length_nil, Nat.reduceAdd, Nat.reduceSub, Array.replicate_succ, Array.replicate_zero, List.push_toArray, List.append_toArray, List.nil_append, List.cons_append]
  gi_wp2
  gi_loopw [7] (fun i wr => ∃ k : Nat, i = .int .i64 (k : Int) ∧ k ≤ l.length ∧ Blk wr Bs [.slice A l.length c] ∧ LAt wr A 1 encS l ∧ J (l.take k) wr)
    (fun i _ => l.length - (intOf i).toNat)
  case atStart => exact ⟨0, rfl, Nat.zero_le _, hS, hD, by simpa using h0⟩
  case round =>
    obtain ⟨k, rfl, hk, hS1, hD1, hJ⟩ := hrel
    by_cases hkl : k < l.length
    · have hT := Lib.hid (List.take_succ_eq_append_getElem hkl)
      obtain ⟨fn, tmps, assign, body, hy, hR⟩ := hY _ l[k] wr hJ (by rw [List.length_take]; omega)
      have HY := Lib.hid hy
      clear hy
      obtain ⟨b, o, rfl, hbl, d0⟩ := hD1 k hkl
      have d1 := d0 0 _ rfl
      simp only [Nat.mul_one, Nat.add_zero] at d1
      clear d0
      have hy := HY.out
      have hj0 : (0 : Int) ≤ (k : Int) := by omega
      gi_wp2
      refine hR.mono ?_
      rintro e W3 (⟨rfl, hJ3, hk3⟩ | ⟨rfl, hJx3⟩)
      · gi_wp2
        go_roundw
        case rel => exact ⟨k + 1, by go_num, by omega, hS1.below hk3 hlt, hD1.low hk3 hA, by rw [hT.out]; exact hJ3⟩
        case measure => simp [intOf]; omega
      · gi_wp2
        refine bodyPost_ret (results_none rfl _ _ _) rfl ?_
        refine ⟨⟨_, rfl⟩, .inr ⟨_, ?_, hJx3⟩⟩
        rw [← hT.out]
        exact List.take_prefix _ _
    · obtain rfl : k = l.length := by omega
      gi_wp2
      go_end0
      exact ⟨⟨_, rfl⟩, .inl ⟨_, List.take_length .., hJ⟩⟩

theorem vals_stopsS (F : Fence) (n : Nat) (hf : F.fn 54) (hro : F.round = none) (hn : 1 ≤ n) (Bs n₀ : Nat) (A : Option Addr) (c : Nat) (l : List ByteArray) (w : World) (hS : Blk w Bs [.slice A l.length c]) (hD : LAt w A 1 encS l) (hlt : Bs < n₀) (hA : LBel n₀ A l)
    (hl : l.length ≤ 140737488351232) :
    SeqStopsK F n Try.prog 54 #[.pointer (some ⟨Bs, 0, none⟩)] (fun x : ByteArray => #[.string x]) (Below n₀) (fun ys => ys = l) (fun pre => pre <+: l) l.length w := fun l0 J Jx W hW _ _ hY h0 =>
  vals_inS F n hf hro hn l0 Bs n₀ A c l J Jx hY W (hS.below hW hS.lt) (hD.below hW) hlt hA hl h0

def CRelS (w : World) (pre : List ByteArray) (W : World) : Prop := ∃ A c, Blk W w.heap.size [.slice A pre.length c] ∧ W.ownsRow (w.heap.size + 1) 9 1 (.slice A pre.length c) pre.length (pre.flatMap encS) ∧ Below w.heap.size w W ∧ w.heap.size + 1 ≤ W.heap.size

set_option maxRecDepth 100000 in
set_option maxHeartbeats 2000000 in
theorem appseqS_any (Bs : Nat) (A : Option Addr) (c : Nat) (l : List ByteArray) (w : World) (hS : Blk w Bs [.slice A l.length c]) (hD : LAt w A 1 encS l) (hl : l.length * 16 ≤ 140737488351232) :
    Calls Try.prog 67 #[.slice none 0 0, .func (.func 54) #[] #[.pointer (some ⟨Bs, 0, none⟩)]] w fun e w' => ∃ A c, e = .returned (.slice A l.length c) ∧
      w'.ownsRow (w.heap.size + 1) 9 1 (.slice A l.length c) l.length (l.flatMap encS) ∧ Below w.heap.size w w' := by
  obtain ⟨i0, hi0, hz0, hz1, hz2⟩ := info_parts infoS
  refine (callsIn_wide (n := 8)).1 ?_
  refine callsIn_of_wp_marks Try.func67 rfl trivial ?_ rfl
  refine wpIn_wide.2 ?_
  simp only [Try.ntmps67, List.size_toArray, List.length_cons, List.length_nil, Nat.reduceAdd, Nat.reduceSub, Array.replicate_succ, Array.replicate_zero, List.push_toArray, List.append_toArray, List.nil_append, List.cons_append]
  go_wp2_with fail
  have hB0 : Blk (w.alloc (.cells #[.slice none 0 0] 22)) w.heap.size [.slice none 0 0] := Blk.new' _ _ rfl
  have hS0 := hS.alloc (.cells #[.slice none 0 0] 22)
  have hD0 := hD.below (bl_alloc (Below.refl _ _) (.cells #[.slice none 0 0] 22))
  have hSl := hS.lt
  refine (wpIn_wide (n := 8)).1 ?_
  refine wpIn_rangeFunc_ownH rfl (by omega) (gf := 54) (lb := #[.pointer (some ⟨Bs, 0, none⟩)]) rfl trivial (enters_of Try.func54 (by kernel_rfl) rfl)
    (vals_stopsS Fence.wide 7 trivial rfl (by omega) Bs w.heap.size A c l _ hS0 hD0 hSl hD.bel (by omega)) belowK_t (belowK_b (by simp)) (Below.refl _ _) (fun _ => rfl)
    (CRelS w) (fun _ _ _ => False)
    (fun pre A B row hs hg hr => by
      obtain ⟨A1, c1, h1, h2, h3, h4⟩ := hs
      have hne : ∀ b (v : Value) vs, Blk A b (v :: vs) → some b ≠ row := fun b v vs hb => by rintro e; obtain ⟨_, o, ho, hc⟩ := hr _ e.symm; exact hb.ne_other ho hc rfl
      exact ⟨A1, c1, h1.grown hg (hne _ _ _ h1), ownsRow_other h2 hg (fun r e => (hr r e).2), h3.grown hg h3.size (fun k e => by have := (hr k e).1; simp at this; omega), Nat.le_trans h4 hg.size⟩)
    (fun _ _ _ _ _ hs _ _ => hs.elim)
    ⟨none, 0, hB0, World.ownsRow_nil _ _ _ _, bl_alloc (Below.refl _ _) _, by simp⟩
    (fun x a' W => a' = { tmps := #[Value.slice none 0 0, Value.func (Fn.func 54) #[] #[Value.pointer (some { block := Bs, off := 0 })], Value.pointer (some { block := w.heap.size, off := 0 }), undef, Value.slice none 0 0, .string x, Value.func (Fn.func 54) #[] #[Value.pointer (some { block := Bs, off := 0 })], .string x, undef, undef, undef, undef, undef], defers := [] })
    (fun x a' _ A B row hs hg hr => hs)
    ?assign0 ?body0 ?done0 ?stop0
  case assign0 =>
    rintro l1 pre x W K hr hK
    gi_wp2
    exact hK _ _ ((KeepsOthers.refl _).from _) (Below.refl _ W) hr rfl
  case body0 =>
    rintro l1 pre x a' W hl1 hrec ⟨A1, c1, h1, h2, h3, h4⟩ rfl hlt
    have e0 := h1.cell
    have g0 := h1.unf
    have hW := h3.size
    gi_wp2_with (first
    | (gi_at_builtin; refine wpListIn_append_own _ rfl _ _ 22 rfl (w.heap.size + 1) 9 i0 _ 1 16 Try.underlying22 hi0 hz0 hz1 hz2 rfl (by decide) (.slice A1 pre.length c1) pre.length _ rfl (h2.alloc _) ⟨W.heap.size, 0, none⟩ 1 1 [.string x] rfl rfl ?hsrc ?hone ?h63 ?hby ?hba ?nx; case' nx => intro v' w3 hown' hg3 hnil3; obtain ⟨A3, c3, rfl, _⟩ := ownsRow_tells hown'; have hB3 := (h1.alloc (.cells #[.string x] 9)).grown hg3 (by intro e; have := ownsRow_base h2 e.symm; omega); have q3 := hB3.cell; have u3 := hB3.unf))
    case hsrc => intro j u hu; rw [Addr.add_mid, Nat.zero_add]; exact (Blk.new' _ _ rfl).get hu
    case hone => intro u hu; simp at hu; rcases hu with rfl; rfl
    case h63 => simp only [maxLen]; omega
    case hby => omega
    case hba => simp; omega
    have hko : KeepsOthers (W.alloc (.cells #[.string x] 9)) w3 := KeepsOthers.of_grownBy hg3 (by
      intro j o hj ho
      obtain ⟨_, ⟨e1, _⟩ | ⟨g, cap, cur, e1, _, hh, _⟩⟩ := h2.alloc (.cells #[.string x] 9)
      · rw [e1] at hj; cases hj
      · rw [e1] at hj; cases hj; rw [hh] at ho; cases ho; rfl)
    refine ⟨(((KeepsOthers.alloc _ _).trans hko).trans (KeepsOthers.setCell _ _ _)).from _, ?_, A3, c3, ?_, ?_, ?_, ?_⟩
    · exact bl_set' ((Below.refl _ _).alloc hW _) hg3 (fun g hg => by have := ownsRow_base h2 hg; omega) _ (Nat.le_refl _) (by simp; omega)
    · simpa using hB3.set_same 0 (.slice A3 (pre.length + 1) c3)
    · simp only [List.length_append, List.length_cons, List.length_nil, List.flatMap_append, List.flatMap_cons, List.flatMap_nil, encS, List.append_nil]
      exact ownsRow_setCell_below hown' (by simp) _
    · exact bl_set' (bl_alloc h3 _) hg3 (fun g hg => by have := ownsRow_base h2 hg; omega) _ (Nat.le_refl _) (by simp; omega)
    · have := hg3.size; simp [World.setCell] at this ⊢; omega
  case stop0 => rintro D cc pre W hD _ h; exact h.elim
  case done0 =>
    rintro D ys W hDl rfl ⟨A1, c1, h1, h2, h3, h4⟩ hK
    have e0 := h1.cell
    go_wp2_with fail
    refine finM _ _ _ D (.slice A1 ys.length c1) _ (fun W => by first | rfl | kernel_rfl | simp [results, Try.f67, go_sem]) hK ?_
    intro W' hg
    exact ⟨A1, c1, rfl, ownsRow_other h2 hg (fun r e => by cases e; exact ⟨_, hK, rfl⟩), bl_gr h3 hg (by simp at hDl; omega)⟩

theorem collectS_any (Bs : Nat) (A : Option Addr) (c : Nat) (l : List ByteArray) (w : World) (hS : Blk w Bs [.slice A l.length c]) (hD : LAt w A 1 encS l) (hl : l.length * 16 ≤ 140737488351232) :
    Calls Try.prog 52 #[.func (.func 54) #[] #[.pointer (some ⟨Bs, 0, none⟩)]] w fun e w' => ∃ A c, e = .returned (.slice A l.length c) ∧
      w'.ownsRow (w.heap.size + 1) 9 1 (.slice A l.length c) l.length (l.flatMap encS) ∧ Below w.heap.size w w' := by
  go_enter Try.func52, Try.ntmps52
  go_wp2_with (go_at_call 67; refine (appseqS_any Bs A c l _ hS hD hl).mono ?_; rintro e w' ⟨A, c, rfl, h1, h2⟩)
  go_ret
  exact ⟨A, c, rfl, h1, h2⟩
end Go.Proofs.Ytbjjhnlifgbpmaa
