/- producer: New, none, lasts and its iterator, put: what they do. -/
import Derived.Test.YtejjiiakficafaaRows
import Derived.Test.YtejjiiakficafaaBase
import Derived.Test.YtejjiiakficafaaPure
namespace Go.Proofs.Ytejjiiakficafaa
open Go.RowKit Go.Shelf
attribute [local go_sem] Oper.semAt_some

def stCells (st : St) : List Value := [.int .i64 st.epoch, .int .i64 st.next, .int .i64 (gd st.ds 0).seq, .int .i64 (gd st.ds 0).len, .int .i64 (gd st.ds 0).off, .int .i64 (gd st.ds 1).seq, .int .i64 (gd st.ds 1).len, .int .i64 (gd st.ds 1).off, .int .i64 (gd st.ds 2).seq, .int .i64 (gd st.ds 2).len, .int .i64 (gd st.ds 2).off, .int .i64 (gd st.ds 3).seq, .int .i64 (gd st.ds 3).len, .int .i64 (gd st.ds 3).off, .int .i64 (gd st.ds 4).seq, .int .i64 (gd st.ds 4).len, .int .i64 (gd st.ds 4).off, .int .i64 (st.ds.length : Nat)]
def stV (st : St) : Value := .agg (stCells st).toArray
def dnV (d : Dn) : Value := .agg #[.int .i64 d.seq, .int .i64 d.len, .int .i64 d.off]

set_option maxHeartbeats 400000 in
theorem num_any (a : Int) (w : World) :
    Calls Try.prog 14 #[.int .i64 a] w fun e w' => e = .returned (.int .i64 a) ∧ w = w' := by
  go_enter Try.func14, Try.ntmps14
  go_wp2
  go_ret
  exact ⟨rfl, rfl⟩

set_option maxHeartbeats 400000 in
theorem none_nil (w : World) :
    Calls Try.prog 44 #[.pointer none] w fun e w' => e = .returned (.bool true) ∧ w = w' := by
  go_enter Try.func44, Try.ntmps44
  go_wp2
  go_ret
  exact ⟨rfl, rfl⟩

set_option maxHeartbeats 400000 in
theorem none_any (b : Nat) (m : Option Nat) (w : World) (h : w.cell? ⟨b, 0, none⟩ = some (.map m)) :
    Calls Try.prog 44 #[.pointer (some ⟨b, 0, none⟩)] w fun e w' => e = .returned (.bool m.isNone) ∧ w = w' := by
  have e1 : ∀ w : World, (binOp .eql 86 (.map m) (.map none)).run Try.prog w = .ok (.bool m.isNone) w := fun w => by rw [run_eql_map_nil w 86 3 95 m Try.underlying86]
  go_enter Try.func44, Try.ntmps44
  go_wp2
  go_ret
  exact ⟨rfl, rfl⟩

set_option maxHeartbeats 400000 in
theorem new_any (w : World) :
    Calls Try.prog 21 #[] w fun e w' => e = .returned (.pointer (some ⟨w.heap.size + 1, 0, none⟩)) ∧ w' = (w.alloc (.map #[] 0)).alloc (.cells #[.map (some w.heap.size)] 88) := by
  have hmm := @run_makeMap Try.prog
  go_enter Try.func21, Try.ntmps21
  go_wp2
  go_ret
  exact ⟨rfl, rfl⟩

set_option maxHeartbeats 400000 in
theorem lasts_any (st : St) (w : World) :
    Calls Try.prog 45 #[stV st] w fun e w' => e = .returned (.func (.func 63) #[] #[.pointer (some ⟨w.heap.size, 0, none⟩)]) ∧ w' = w.alloc (.cells (stCells st).toArray 95) := by
  have hmf : ∀ (fn : Fn) (first cap : Array Value) (w : World), (Instr.makeFunc fn first cap).run Try.prog w = .ok (.func fn first cap) w := fun _ _ _ _ => rfl
  simp only [stV, stCells]
  go_enter Try.func45, Try.ntmps45
  go_wp2
  go_ret
  exact ⟨rfl, rfl⟩

theorem stCells_ring (st : St) (i : Nat) (h : i < 5) : (stCells st)[2 + i * 3]? = some (.int .i64 (gd st.ds i).seq) ∧ (stCells st)[2 + i * 3 + 1]? = some (.int .i64 (gd st.ds i).len) ∧ (stCells st)[2 + i * 3 + 2]? = some (.int .i64 (gd st.ds i).off) := by
  obtain rfl | rfl | rfl | rfl | rfl : i = 0 ∨ i = 1 ∨ i = 2 ∨ i = 3 ∨ i = 4 := by omega
  all_goals exact ⟨rfl, rfl, rfl⟩
theorem stCells_at (st : St) (k : Nat) (h : k < st.ds.length) (h5 : st.ds.length - 5 ≤ k) :
    (stCells st)[2 + k % 5 * 3]? = some (.int .i64 st.ds[k].seq) ∧ (stCells st)[2 + k % 5 * 3 + 1]? = some (.int .i64 st.ds[k].len) ∧ (stCells st)[2 + k % 5 * 3 + 2]? = some (.int .i64 st.ds[k].off) := by
  have := stCells_ring st (k % 5) (by omega)
  rwa [gd_get st.ds k h (by omega)] at this

theorem take_drop_snoc (l : List Dn) (k a : Nat) (h : k < l.length) (ha : a ≤ k) : (l.take (k + 1)).drop a = (l.take k).drop a ++ [l[k]] := by
  rw [List.take_succ_eq_append_getElem h, List.drop_append_of_le_length (by simp; omega)]

set_option maxRecDepth 100000 in
set_option maxHeartbeats 1000000 in
theorem lasts1_in (F : Fence) (n : Nat) (h46 : F.fn 63) (hro : F.round = none) (hn : 1 ≤ n) (l Bs n₀ : Nat) (st : St) (J Jx : List Dn → World → Prop)
    (hY : ∀ pre x W, J pre W → pre.length < (lasts st.ds).length → YieldAt F (n - 1) Try.prog l #[dnV x] W fun e W' =>
      (e = .returned (.bool true) ∧ J (pre ++ [x]) W' ∧ Below n₀ W W') ∨ (e = .returned (.bool false) ∧ Jx (pre ++ [x]) W'))
    (W : World) (hS : Blk W Bs (stCells st)) (hlt : Bs < n₀) (hl : st.ds.length ≤ 4611686018427387904) (h0 : J [] W) :
    CallsIn F n Try.prog 63 #[.func (.yield l) #[] #[], .pointer (some ⟨Bs, 0, none⟩)] W fun e W' => (∃ v, e = .returned v) ∧
      ((∃ ys, ys = lasts st.ds ∧ J ys W') ∨ (∃ pre, pre <+: lasts st.ds ∧ Jx pre W')) := by
  have q := hS.cell
  simp only [stCells] at q
  refine callsIn_of_wp Try.func63 rfl h46 ?_ hro
  simp only [Try.ntmps63, List.size_toArray, List.length_cons, List.length_nil, Nat.reduceAdd, Nat.reduceSub, Array.replicate_succ, Array.replicate_zero, List.push_toArray, List.append_toArray, List.nil_append, List.cons_append]
  gi_wp2
  all_goals
    gi_loopw [3] (fun i wr => ∃ k : Nat, i = .int .i64 (k : Int) ∧ st.ds.length - 5 ≤ k ∧ k ≤ st.ds.length ∧ Blk wr Bs (stCells st) ∧ J ((st.ds.take k).drop (st.ds.length - 5)) wr)
      (fun i _ => st.ds.length - (intOf i).toNat)
    case atStart =>
      exact ⟨st.ds.length - 5, congrArg _ (by omega), by omega, by omega, hS, by rw [List.drop_eq_nil_of_le (by simp)]; exact h0⟩
    case round =>
      obtain ⟨k, rfl, hk5, hk, hS1, hJ⟩ := hrel
      have q17 : wr.cell? ⟨Bs, 17, none⟩ = some (.int .i64 (st.ds.length : Nat)) := hS1.get rfl
      by_cases hlt : k < st.ds.length
      · have HT := Lib.hid (take_drop_snoc st.ds k (st.ds.length - 5) hlt hk5)
        obtain ⟨fn, tmps, assign, body, hy, hR⟩ := hY _ st.ds[k] wr hJ (by rw [lasts_length]; simp; omega)
        have HY := Lib.hid hy
        clear hy
        obtain ⟨e0, e1, e2⟩ := stCells_at st k hlt hk5
        have d0 := hS1.get e0
        have d1 := hS1.get e1
        have d2 := hS1.get e2
        clear e0 e1 e2
        have hy := HY.out
        simp only [dnV] at hy
        gi_wp2
        refine hR.mono ?_
        rintro e W3 (⟨rfl, hJ3, hk3⟩ | ⟨rfl, hJx3⟩)
        · gi_wp2
          go_roundw
          case rel => exact ⟨k + 1, by go_num, by omega, by omega, hS1.below hk3 ‹_›, by rw [HT.out]; exact hJ3⟩
          case measure => simp [intOf]; omega
        · gi_wp2
          refine bodyPost_ret (results_none rfl _ _ _) rfl ?_
          refine ⟨⟨_, rfl⟩, .inr ⟨_, ?_, hJx3⟩⟩
          rw [← HT.out]
          exact ⟨(st.ds.drop (k + 1)).drop (st.ds.length - 5 - (k + 1)), by rw [lasts, show st.ds.length - 5 - (k + 1) = 0 from by omega, List.drop_zero, ← List.drop_append_of_le_length (by simp; omega), List.take_append_drop]⟩
      · obtain rfl : k = st.ds.length := by omega
        gi_wp2
        go_end0
        exact ⟨⟨_, rfl⟩, .inl ⟨_, by rw [List.take_length]; rfl, hJ⟩⟩

theorem stCells_put (st : St) (d : Dn) :
    ((((stCells st).set (2 + st.ds.length % 5 * 3) (.int .i64 d.seq)).set (2 + st.ds.length % 5 * 3 + 1) (.int .i64 d.len)).set (2 + st.ds.length % 5 * 3 + 2) (.int .i64 d.off)).set 17 (.int .i64 ((st.ds.length : Int) + 1)) = stCells { st with ds := st.ds ++ [d] } := by
  have h5 : st.ds.length % 5 < 5 := by omega
  simp only [stCells, gd_snoc _ _ _ (show 0 < 5 by omega), gd_snoc _ _ _ (show 1 < 5 by omega), gd_snoc _ _ _ (show 2 < 5 by omega), gd_snoc _ _ _ (show 3 < 5 by omega), gd_snoc _ _ _ (show 4 < 5 by omega), List.length_append, List.length_cons, List.length_nil]
  generalize st.ds.length % 5 = i at h5
  obtain rfl | rfl | rfl | rfl | rfl : i = 0 ∨ i = 1 ∨ i = 2 ∨ i = 3 ∨ i = 4 := by omega
  all_goals simp [List.set]

theorem lasts_stops (F : Fence) (n : Nat) (h46 : F.fn 63) (hro : F.round = none) (hn : 1 ≤ n) (Bs n₀ : Nat) (st : St) (w : World) (hS : Blk w Bs (stCells st)) (hlt : Bs < n₀) (hl : st.ds.length ≤ 4611686018427387904) :
    SeqStopsK F n Try.prog 63 #[.pointer (some ⟨Bs, 0, none⟩)] (fun d : Dn => #[dnV d]) (Below n₀) (fun ys => ys = lasts st.ds) (fun pre => pre <+: lasts st.ds) (lasts st.ds).length w := fun l J Jx W hW _ _ hY h0 =>
  lasts1_in F n h46 hro hn l Bs n₀ st J Jx hY W (hS.below hW hS.lt) hlt hl h0

set_option maxRecDepth 100000 in
set_option maxHeartbeats 1000000 in
theorem put_any (st : St) (d : Dn) (Bs : Nat) (w : World) (hS : Blk w Bs (stCells st)) (hl : st.ds.length ≤ 4611686018427387904) :
    Calls Try.prog 69 #[.pointer (some ⟨Bs, 0, none⟩), dnV d] w fun e w' => e = .returned (.tuple #[]) ∧ Blk w' Bs (stCells { st with ds := st.ds ++ [d] }) ∧ w.grownBy w' (some Bs) := by
  have q17 : w.cell? ⟨Bs, 17, none⟩ = some (.int .i64 (st.ds.length : Nat)) := hS.get rfl
  have hu := hS.unf
  have hlt := hS.lt
  simp only [dnV]
  obtain ⟨e0, e1, e2⟩ := stCells_ring st (st.ds.length % 5) (by omega)
  have d0 := hS.get e0
  have d1 := hS.get e1
  have d2 := hS.get e2
  clear e0 e1 e2
  go_enter Try.func69, Try.ntmps69
  go_wp2_with fail
  go_region
  go_wp2
  go_end0
  refine ⟨rfl, blk_eq ((((((hS.set_same _ _).set_same _ _).set_same _ _).set_same _ _).alloc _).drew) ?_, ?_⟩
  · exact stCells_put st d
  · exact gr_drew (gr_alloc (gr_set (gr_set (gr_set (gr_set (World.grownBy.refl _ _) _ _) _ _) _ _) _ _) _)

end Go.Proofs.Ytejjiiakficafaa
