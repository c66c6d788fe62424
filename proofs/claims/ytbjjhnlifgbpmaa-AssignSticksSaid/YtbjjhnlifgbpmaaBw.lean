/- slices.Backward of shares; what each name had first. -/
import Derived.Test.YtbjjhnlifgbpmaaVs
import Derived.Test.YtbjjhnlifgbpmaaEn
import Derived.Test.YtbjjhnlifgbpmaaSM
namespace Go.Proofs.Ytbjjhnlifgbpmaa
open Go.RowKit Go.Shelf
attribute [local go_sem] Oper.semAt_some

/-- The places of n things, from the last one down. -/
def bk (n : Nat) : List Nat := (List.range n).reverse
theorem bk_length (n : Nat) : (bk n).length = n := by simp [bk]
theorem bk_get (n j : Nat) (h : j < n) : (bk n)[j]'(by simpa [bk] using h) = n - 1 - j := by simp [bk]
theorem bk_take (n j : Nat) (h : j < n) : (bk n).take (j + 1) = (bk n).take j ++ [n - 1 - j] := by
  rw [List.take_succ_eq_append_getElem (by rw [bk_length]; exact h), bk_get n j h]

/-- Below n₀ nothing but blocks b2 and b5 turns. -/
def KB (n₀ b2 b5 : Nat) (W W' : World) : Prop := W.heap.size ≤ W'.heap.size ∧ ∀ b, b < n₀ → b ≠ b2 → b ≠ b5 → W'.heap[b]? = W.heap[b]?
theorem KB.tr {n₀ b2 b5 : Nat} {A B C : World} (h : KB n₀ b2 b5 A B) (k : KB n₀ b2 b5 B C) : KB n₀ b2 b5 A C := ⟨Nat.le_trans h.1 k.1, fun b h1 h2 h3 => (k.2 b h1 h2 h3).trans (h.2 b h1 h2 h3)⟩
theorem KB.put {n₀ b2 b5 : Nat} (W : World) (l : Nat) (o' : Obj) (hl : n₀ ≤ l) : KB n₀ b2 b5 W (W.putObj l o') := by
  have hg := grownBy_putObj' W l o'
  refine ⟨hg.size, fun b h1 _ _ => ?_⟩
  by_cases hb : b < W.heap.size
  · exact hg.block b hb (by simp; omega)
  · have hs : (W.putObj l o').heap.size = W.heap.size := by simp [World.putObj]
    rw [Array.getElem?_eq_none (by omega), Array.getElem?_eq_none (by omega)]
theorem KB.refl {n₀ b2 b5 : Nat} (W : World) : KB n₀ b2 b5 W W := ⟨Nat.le_refl _, fun _ _ _ _ => rfl⟩
theorem KB.alloc {n₀ b2 b5 : Nat} (W : World) (o : Obj) (h : n₀ ≤ W.heap.size) : KB n₀ b2 b5 W (W.alloc o) := ⟨by simp, fun b hb _ _ => Below.heap_alloc W o b (by omega)⟩

theorem backward_any (v : Value) (A : Option Addr) (n c : Nat) (hv : v = .slice A n c) (w : World) :
    Calls Try.prog 23 #[v] w fun e w' => e = .returned (.func (.func 44) #[] #[.pointer (some ⟨w.heap.size, 0, none⟩)]) ∧ w' = w.alloc (.cells #[v] 23) := by
  subst hv
  go_enter Try.func23, Try.ntmps23
  go_wp2
  go_ret
  exact ⟨rfl, rfl⟩
def shV (o : Ou) : Value := .agg #[.string o.m, o.r.v]
theorem LAt.keep {α : Type} {k : Nat} {enc : α → List Value} {w w' : World} {A : Option Addr} {l : List α} {n₀ : Nat} (h : LAt w A k enc l) (hA : LBel n₀ A l) (hs : w.heap.size ≤ w'.heap.size) (hb : ∀ b, b < n₀ → w'.heap[b]? = w.heap[b]?) : LAt w' A k enc l := fun i hi => by
  obtain ⟨b, o, e, hlt⟩ := hA (by rintro rfl; simp at hi)
  obtain ⟨b', o', e', hl2, hc⟩ := h i hi
  rw [e] at e'; cases e'
  exact ⟨b, o, e, Nat.lt_of_lt_of_le hl2 hs, fun j u hu => (World.cell?_of_block (w := w) (a := ⟨b, o + i * k + j, none⟩) (hb b hlt)).trans (hc j u hu)⟩

set_option maxRecDepth 100000 in
set_option maxHeartbeats 2000000 in
theorem back_in (F : Fence) (n : Nat) (h44 : F.fn 44) (hro : F.round = none) (hn : 1 ≤ n) (l Bs n₁ n₀ b2 : Nat) (A : Option Addr) (c : Nat) (ds : List Ou) (J Jx : List Nat → World → Prop)
    (hY : ∀ pre x W, J pre W → pre.length < ds.length → YieldAt F (n - 1) Try.prog l #[.int .i64 (x : Nat), shV (ds.getD x default)] W fun e W' =>
      (e = .returned (.bool true) ∧ J (pre ++ [x]) W' ∧ KB n₀ b2 b2 W W') ∨ (e = .returned (.bool false) ∧ Jx (pre ++ [x]) W'))
    (W : World) (hS : Blk W Bs [.slice A ds.length c]) (hD : LAt W A 2 ouL ds) (hDl : LBel n₁ A ds) (hlt : Bs < n₀ ∧ Bs ≠ b2) (h1 : n₁ ≤ n₀ ∧ n₁ ≤ b2) (hl : ds.length ≤ 140737488351232) (h0 : J [] W) :
    CallsIn F n Try.prog 44 #[.func (.yield l) #[] #[], .pointer (some ⟨Bs, 0, none⟩)] W fun e W' => (∃ v, e = .returned v) ∧
      ((∃ ys, ys = bk ds.length ∧ J ys W') ∨ (∃ pre, pre <+: bk ds.length ∧ Jx pre W')) := by
  have q := hS.cell
  refine callsIn_of_wp Try.func44 rfl h44 ?_ hro
  simp only [Try.ntmps44, List.size_toArray, List.length_cons, List.length_nil, Nat.reduceAdd, Nat.reduceSub, Array.replicate_succ, Array.replicate_zero, List.push_toArray, List.append_toArray, List.nil_append, List.cons_append]
  gi_wp2
  gi_loopw [3] (fun i wr => ∃ k : Nat, i = .int .i64 ((k : Int) - 1) ∧ k ≤ ds.length ∧ Blk wr Bs [.slice A ds.length c] ∧ LAt wr A 2 ouL ds ∧ J ((bk ds.length).take (ds.length - k)) wr)
    (fun i _ => (intOf i + 1).toNat)
  case atStart => exact ⟨ds.length, rfl, Nat.le_refl _, hS, hD, by simpa using h0⟩
  case round =>
    obtain ⟨k, rfl, hk, hS1, hD1, hJ⟩ := hrel
    have q1 := hS1.cell
    have l1 := hS1.lt
    cases k with
    | zero =>
      rw [show (((0 : Nat) : Int) - 1) = -1 from rfl]
      gi_wp2
      go_end0
      exact ⟨⟨_, rfl⟩, .inl ⟨_, List.take_of_length_le (by rw [bk_length]; omega), hJ⟩⟩
    | succ j =>
      rw [show (((j + 1 : Nat) : Int) - 1) = (j : Int) from by omega]
      have hT := Lib.hid (show (bk ds.length).take (ds.length - j) = (bk ds.length).take (ds.length - (j + 1)) ++ [j] from by
        have := bk_take ds.length (ds.length - (j + 1)) (by omega)
        rw [show ds.length - (j + 1) + 1 = ds.length - j from by omega, show ds.length - 1 - (ds.length - (j + 1)) = j from by omega] at this
        exact this)
      obtain ⟨fn, tmps, assign, body, hy, hR⟩ := hY _ j wr hJ (by rw [List.length_take, bk_length]; omega)
      have HY := Lib.hid hy
      clear hy
      obtain ⟨b, o, rfl, hbl, d0⟩ := hD1 j (by omega)
      have d1 := d0 0 _ rfl
      have d2 := d0 1 _ rfl
      simp only [Nat.add_zero] at d1
      have hget : ds.getD j default = ds[j] := by rw [List.getD_eq_getElem?_getD, List.getElem?_eq_getElem (by omega)]; rfl
      have hy := HY.out
      rw [hget] at hy
      simp only [shV] at hy
      have hj0 : (0 : Int) ≤ (j : Int) := by omega
      clear hget d0
      gi_wp2
      refine hR.mono ?_
      rintro e W3 (⟨rfl, hJ3, hk3⟩ | ⟨rfl, hJx3⟩)
      · gi_wp2
        go_roundw
        case rel => exact ⟨j, by go_num, by omega, hS1.of_heap (hk3.2 _ hlt.1 hlt.2 hlt.2), hD1.keep hDl hk3.1 (fun b hb => hk3.2 b (by omega) (by omega) (by omega)), by rw [hT.out]; exact hJ3⟩
        case measure => simp [intOf]
      · gi_wp2
        refine bodyPost_ret (results_none rfl _ _ _) rfl ?_
        refine ⟨⟨_, rfl⟩, .inr ⟨_, ?_, hJx3⟩⟩
        rw [← hT.out]
        exact List.take_prefix _ _

theorem back_stops (F : Fence) (n : Nat) (h44 : F.fn 44) (hro : F.round = none) (hn : 1 ≤ n) (Bs n₁ n₀ b2 : Nat) (A : Option Addr) (c : Nat) (ds : List Ou) (w : World) (hS : Blk w Bs [.slice A ds.length c]) (hD : LAt w A 2 ouL ds) (hDl : LBel n₁ A ds) (hlt : Bs < n₀ ∧ Bs ≠ b2)
    (h1 : n₁ ≤ n₀ ∧ n₁ ≤ b2) (hl : ds.length ≤ 140737488351232) :
    SeqStopsK F n Try.prog 44 #[.pointer (some ⟨Bs, 0, none⟩)] (fun x : Nat => #[.int .i64 (x : Nat), shV (ds.getD x default)]) (KB n₀ b2 b2) (fun ys => ys = bk ds.length) (fun pre => pre <+: bk ds.length) ds.length w := fun l J Jx W hW _ _ hY h0 =>
  back_in F n h44 hro hn l Bs n₁ n₀ b2 A c ds J Jx hY W (hS.below hW hS.lt) (hD.below hW) hDl hlt h1 hl h0

/-- What each name had, told by the shares from the last one on. -/
def fmL (ds : List Ou) (pre : List Nat) : List (ByteArray × Rw3) := pre.foldl (fun m j => putS m (ds.getD j default).m (ds.getD j default).r) []
theorem fmL_snoc (ds : List Ou) (pre : List Nat) (j : Nat) : fmL ds (pre ++ [j]) = putS (fmL ds pre) (ds.getD j default).m (ds.getD j default).r := by simp [fmL, List.foldl_append]
end Go.Proofs.Ytbjjhnlifgbpmaa
