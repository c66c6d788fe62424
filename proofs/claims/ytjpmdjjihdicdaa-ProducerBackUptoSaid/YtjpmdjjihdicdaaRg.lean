/- The program's right (32): may an entry be? The iterator goes backward over the batches. -/
import Derived.Test.YtjpmdjjihdicdaaRi
import Derived.Test.YtjpmdjjihdicdaaColl
namespace Go.Proofs.Ytjpmdjjihdicdaa
open Go.RowKit Go.Shelf
attribute [local go_sem] Oper.semAt_some

theorem in_any (n a b : Int) (w : World) : Calls Try.prog 51 #[.int .i64 n, .int .i64 a, .int .i64 b] w fun e w' => e = .returned (.bool (decide (a ≤ n) && decide (n ≤ b))) ∧ w = w' := by
  by_cases h : a ≤ n
  all_goals
    go_enter Try.func51, Try.ntmps51
    go_wp2
    go_ret
    exact ⟨ret_bool (by simp [h] <;> omega), rfl⟩

theorem backward_any (v : Value) (A : Option Addr) (n c : Nat) (hv : v = .slice A n c) (w : World) :
    Calls Try.prog 52 #[v] w fun e w' => e = .returned (.func (.func 58) #[] #[.pointer (some ⟨w.heap.size, 0, none⟩)]) ∧ w' = w.alloc (.cells #[v] 54) := by
  subst hv
  go_enter Try.func52, Try.ntmps52
  go_wp2
  go_ret
  exact ⟨rfl, rfl⟩

/-- The places of n things, from the last one down. -/
def bk (n : Nat) : List Nat := (List.range n).reverse
theorem bk_length (n : Nat) : (bk n).length = n := by simp [bk]
theorem bk_get (n j : Nat) (h : j < n) : (bk n)[j]'(by simpa [bk] using h) = n - 1 - j := by simp [bk]
theorem bk_take (n j : Nat) (h : j < n) : (bk n).take (j + 1) = (bk n).take j ++ [n - 1 - j] := by
  rw [List.take_succ_eq_append_getElem (by rw [bk_length]; exact h), bk_get n j h]

/-- From A on, below n₀, w holds the batches ds. -/
def DnsB (w : World) (n₀ : Nat) (A : Option Addr) (ds : List Dn) : Prop :=
  ∀ i (h : i < ds.length), ∃ b o, A = some ⟨b, o, none⟩ ∧ b < n₀ ∧ b < w.heap.size ∧ w.cell? ⟨b, o + i * 3, none⟩ = some (.int .i64 ds[i].seq) ∧ w.cell? ⟨b, o + i * 3 + 1, none⟩ = some (.int .i64 ds[i].len) ∧ w.cell? ⟨b, o + i * 3 + 2, none⟩ = some (.int .i64 ds[i].off)
theorem DnsAt.lowB {w w' : World} {n₀ : Nat} {A : Option Addr} {ds : List Dn} (h : DnsAt w A ds) (hb : Below w.heap.size w w') (hn : w.heap.size ≤ n₀) : DnsB w' n₀ A ds := fun i hi => by
  obtain ⟨b, o, hA, hlt, c1, c2, c3⟩ := h i hi
  have e : ∀ j, w'.cell? ⟨b, j, none⟩ = w.cell? ⟨b, j, none⟩ := fun j => hb.cell (p := ⟨b, j, none⟩) hlt
  exact ⟨b, o, hA, by omega, Nat.lt_of_lt_of_le hlt hb.size, by rw [e]; exact c1, by rw [e]; exact c2, by rw [e]; exact c3⟩
theorem DnsB.below {w w' : World} {n₀ : Nat} {A : Option Addr} {ds : List Dn} (h : DnsB w n₀ A ds) (hb : Below n₀ w w') : DnsB w' n₀ A ds := fun i hi => by
  obtain ⟨b, o, hA, hlt, hl2, c1, c2, c3⟩ := h i hi
  have e : ∀ j, w'.cell? ⟨b, j, none⟩ = w.cell? ⟨b, j, none⟩ := fun j => hb.cell (p := ⟨b, j, none⟩) hlt
  exact ⟨b, o, hA, hlt, Nat.lt_of_lt_of_le hl2 hb.size, by rw [e]; exact c1, by rw [e]; exact c2, by rw [e]; exact c3⟩

theorem DnsB.keep {w w' : World} {n₀ : Nat} {A : Option Addr} {ds : List Dn} (h : DnsB w n₀ A ds) (hs : w.heap.size ≤ w'.heap.size) (hb : ∀ b, b < n₀ → w'.heap[b]? = w.heap[b]?) : DnsB w' n₀ A ds := fun i hi => by
  obtain ⟨b, o, hA, hlt, hl2, c1, c2, c3⟩ := h i hi
  have e : ∀ j, w'.cell? ⟨b, j, none⟩ = w.cell? ⟨b, j, none⟩ := fun j => World.cell?_of_block (w := w) (w' := w') (a := ⟨b, j, none⟩) (hb b hlt)
  exact ⟨b, o, hA, hlt, Nat.lt_of_lt_of_le hl2 hs, by rw [e]; exact c1, by rw [e]; exact c2, by rw [e]; exact c3⟩

/-- Below n₀ nothing but blocks b2 and b5 turns. -/
def KB (n₀ b2 b5 : Nat) (W W' : World) : Prop := W.heap.size ≤ W'.heap.size ∧ ∀ b, b < n₀ → b ≠ b2 → b ≠ b5 → W'.heap[b]? = W.heap[b]?
theorem KB.tr {n₀ b2 b5 : Nat} {A B C : World} (h : KB n₀ b2 b5 A B) (k : KB n₀ b2 b5 B C) : KB n₀ b2 b5 A C := ⟨Nat.le_trans h.1 k.1, fun b h1 h2 h3 => (k.2 b h1 h2 h3).trans (h.2 b h1 h2 h3)⟩
theorem KB.put {n₀ b2 b5 : Nat} (W : World) (l : Nat) (o' : Obj) (hl : n₀ ≤ l) : KB n₀ b2 b5 W (W.putObj l o') := by
  have hg := grownBy_putObj' W l o'
  refine ⟨hg.size, fun b h1 _ _ => ?_⟩
  by_cases hb : b < W.heap.size
  · exact hg.block b hb (by simp; omega)
  · have hs : (W.putObj l o').heap.size = W.heap.size := by simp [World.putObj]
    rw [Array.getElem?_eq_none (by omega), Array.getElem?_eq_none (by omega)]
theorem KB.refl {n₀ b2 b5 : Nat} (W : World) : KB n₀ b2 b5 W W := ⟨Nat.le_refl _, fun _ _ _ _ => rfl⟩
theorem KB.alloc {n₀ b2 b5 : Nat} (W : World) (o : Obj) (h : n₀ ≤ W.heap.size) : KB n₀ b2 b5 W (W.alloc o) := ⟨by simp, fun b hb _ _ => Below.heap_alloc W o b (by omega)⟩
theorem KB.set2 {n₀ b2 b5 : Nat} (W : World) (u v : Value) : KB n₀ b2 b5 W ((W.setCell ⟨b2, 0, none⟩ u).setCell ⟨b5, 0, none⟩ v) :=
  ⟨by simp [World.setCell], fun b _ h2 h3 => (Below.heap_setCell _ _ _ _ h3).trans (Below.heap_setCell _ _ _ _ h2)⟩

set_option maxRecDepth 100000 in
set_option maxHeartbeats 2000000 in
theorem back_in (F : Fence) (n : Nat) (h58 : F.fn 58) (hro : F.round = none) (hn : 1 ≤ n) (l Bs n₁ n₀ b2 b5 : Nat) (A : Option Addr) (c : Nat) (ds : List Dn) (J Jx : List Nat → World → Prop)
    (hY : ∀ pre x W, J pre W → pre.length < ds.length → YieldAt F (n - 1) Try.prog l #[.int .i64 (x : Nat), dnV (ds.getD x dn0)] W fun e W' =>
      (e = .returned (.bool true) ∧ J (pre ++ [x]) W' ∧ KB n₀ b2 b5 W W') ∨ (e = .returned (.bool false) ∧ Jx (pre ++ [x]) W'))
    (W : World) (hS : Blk W Bs [.slice A ds.length c]) (hD : DnsB W n₁ A ds) (hlt : Bs < n₀ ∧ Bs ≠ b2 ∧ Bs ≠ b5) (h1 : n₁ ≤ n₀ ∧ n₁ ≤ b2 ∧ n₁ ≤ b5) (hl : ds.length ≤ 140737488351232) (h0 : J [] W) :
    CallsIn F n Try.prog 58 #[.func (.yield l) #[] #[], .pointer (some ⟨Bs, 0, none⟩)] W fun e W' => (∃ v, e = .returned v) ∧
      ((∃ ys, ys = bk ds.length ∧ J ys W') ∨ (∃ pre, pre <+: bk ds.length ∧ Jx pre W')) := by
  have q := hS.cell
  refine callsIn_of_wp Try.func58 rfl h58 ?_ hro
  simp only [Try.ntmps58, List.size_toArray, List.length_cons, List.length_nil, Nat.reduceAdd, Nat.reduceSub, Array.replicate_succ, Array.replicate_zero, List.push_toArray, List.append_toArray, List.nil_append, List.cons_append]
  gi_wp2
  gi_loopw [3] (fun i wr => ∃ k : Nat, i = .int .i64 ((k : Int) - 1) ∧ k ≤ ds.length ∧ Blk wr Bs [.slice A ds.length c] ∧ DnsB wr n₁ A ds ∧ J ((bk ds.length).take (ds.length - k)) wr)
    (fun i _ => (intOf i + 1).toNat)
  case atStart => exact ⟨ds.length, rfl, Nat.le_refl _, hS, hD, by simpa using h0⟩
  case round =>
    obtain ⟨k, rfl, hk, hS1, hD1, hJ⟩ := hrel
    have q1 := hS1.cell
    have l1 := hS1.lt
    cases k with
    | zero =>
      rw [show (((0 : Nat) : Int) - 1) = -1 from rfl]
      gi_wp2
      go_end0
      exact ⟨⟨_, rfl⟩, .inl ⟨_, List.take_of_length_le (by rw [bk_length]; omega), hJ⟩⟩
    | succ j =>
      rw [show (((j + 1 : Nat) : Int) - 1) = (j : Int) from by omega]
      have hT := Lib.hid (show (bk ds.length).take (ds.length - j) = (bk ds.length).take (ds.length - (j + 1)) ++ [j] from by
        have := bk_take ds.length (ds.length - (j + 1)) (by omega)
        rw [show ds.length - (j + 1) + 1 = ds.length - j from by omega, show ds.length - 1 - (ds.length - (j + 1)) = j from by omega] at this
        exact this)
      obtain ⟨fn, tmps, assign, body, hy, hR⟩ := hY _ j wr hJ (by rw [List.length_take, bk_length]; omega)
      have HY := Lib.hid hy
      clear hy
      obtain ⟨b, o, rfl, hbn, hbl, d0, d1, d2⟩ := hD1 j (by omega)
      have hget : ds.getD j dn0 = ds[j] := by rw [List.getD_eq_getElem?_getD, List.getElem?_eq_getElem (by omega)]; rfl
      have hy := HY.out
      rw [hget] at hy
      simp only [dnV] at hy
      have hj0 : (0 : Int) ≤ (j : Int) := by omega
      clear hget
      gi_wp2
      refine hR.mono ?_
      rintro e W3 (⟨rfl, hJ3, hk3⟩ | ⟨rfl, hJx3⟩)
      · gi_wp2
        go_roundw
        case rel => exact ⟨j, by go_num, by omega, hS1.of_heap (hk3.2 _ hlt.1 hlt.2.1 hlt.2.2), hD1.keep hk3.1 (fun b hb => hk3.2 b (by omega) (by omega) (by omega)), by rw [hT.out]; exact hJ3⟩
        case measure => simp [intOf]
      · gi_wp2
        refine bodyPost_ret (results_none rfl _ _ _) rfl ?_
        refine ⟨⟨_, rfl⟩, .inr ⟨_, ?_, hJx3⟩⟩
        rw [← hT.out]
        exact List.take_prefix _ _

theorem back_stops (F : Fence) (n : Nat) (h58 : F.fn 58) (hro : F.round = none) (hn : 1 ≤ n) (Bs n₁ n₀ b2 b5 : Nat) (A : Option Addr) (c : Nat) (ds : List Dn) (w : World) (hS : Blk w Bs [.slice A ds.length c]) (hD : DnsB w n₁ A ds) (hlt : Bs < n₀ ∧ Bs ≠ b2 ∧ Bs ≠ b5)
    (h1 : n₁ ≤ n₀ ∧ n₁ ≤ b2 ∧ n₁ ≤ b5) (hle : n₀ ≤ w.heap.size) (hl : ds.length ≤ 140737488351232) :
    SeqStopsK F n Try.prog 58 #[.pointer (some ⟨Bs, 0, none⟩)] (fun x : Nat => #[.int .i64 (x : Nat), dnV (ds.getD x dn0)]) (KB n₀ b2 b5) (fun ys => ys = bk ds.length) (fun pre => pre <+: bk ds.length) ds.length w := fun l J Jx W hW _ _ hY h0 =>
  back_in F n h58 hro hn l Bs n₁ n₀ b2 b5 A c ds J Jx hY W (hS.below hW hS.lt) (hD.below (hW.mono (by omega))) hlt h1 hl h0
end Go.Proofs.Ytjpmdjjihdicdaa
