/- No table, and one that nobody made. -/
import Derived.Test.YtjpmdjjihdicdaaEnts
namespace Go.Proofs.Ytjpmdjjihdicdaa
open Go.RowKit Go.Shelf
attribute [local go_sem] Oper.semAt_some

/-- No table. -/
def NoTab (v : Value) (w : World) : Prop := v = .pointer none ∨ ∃ b, v = .pointer (some ⟨b, 0, none⟩) ∧ Blk w b [.map none]
theorem NoTab.below {v : Value} {w w' : World} (h : NoTab v w) (hb : Below w.heap.size w w') : NoTab v w' := by
  rcases h with h | ⟨b, h, hB⟩
  · exact .inl h
  · exact .inr ⟨b, h, hB.below hb hB.lt⟩
theorem none_no {v : Value} {w : World} (h : NoTab v w) : Calls Try.prog 24 #[v] w fun e w' => e = .returned (.bool true) ∧ w = w' := by
  rcases h with rfl | ⟨b, rfl, hB⟩
  · exact none_nil w
  · exact none_any b none w (hB.get (j := 0) rfl)

set_option maxRecDepth 100000 in
set_option maxHeartbeats 2000000 in
theorem decide_no (v : Value) (k p ep s : Int) (t : Bool) (A : Option Addr) (n c : Nat) (w : World) (h : NoTab v w) :
    Calls Try.prog 12 #[v, .agg #[.int .i64 k, .int .i64 p, .int .i64 ep, .int .i64 s, .bool t, .slice A n c]] w fun e w' =>
      e = .returned (.tuple #[.int .i64 0, .bool false, .int .i64 1]) ∧ Below w.heap.size w w' := by
  replace h := Lib.hid h
  refine (callsIn_wide (n := 8)).1 ?_
  refine callsIn_of_wp_marks Try.func12 rfl trivial ?_ rfl
  refine wpIn_wide.2 ?_
  simp only [Try.ntmps12, List.size_toArray, List.length_cons, List.length_nil, Nat.reduceAdd, Nat.reduceSub, Array.replicate_succ, Array.replicate_zero, List.push_toArray, List.append_toArray, List.nil_append, List.cons_append]
  go_wp2_with fail
  refine (none_no (h.out.below ?_)).mono ?_
  · (repeat' (first | exact Below.refl _ _ | apply bl_alloc))
  rintro e w' ⟨rfl, rfl⟩
  go_wp2_with fail
  refine ⟨.tuple #[.int .i64 0, .bool false, .int .i64 1], ?_, rfl, ?_⟩
  · simp [results, Try.results12, go_sem]
  · repeat' (first | exact Below.refl _ _ | apply bl_alloc | (refine bl_set ?_ (by simp <;> omega) _))

set_option maxRecDepth 100000 in
set_option maxHeartbeats 2000000 in
theorem note_no (v : Value) (k p ep s off : Int) (t : Bool) (A : Option Addr) (n c : Nat) (w : World) (h : NoTab v w) :
    Calls Try.prog 14 #[v, .agg #[.int .i64 k, .int .i64 p, .int .i64 ep, .int .i64 s, .bool t, .slice A n c], .int .i64 off] w fun e w' =>
      e = .returned (.int .i64 1) ∧ Below w.heap.size w w' := by
  replace h := Lib.hid h
  go_enter Try.func14, Try.ntmps14
  go_wp2_with fail
  refine (none_no (h.out.below ?_)).mono ?_
  · (repeat' (first | exact Below.refl _ _ | apply bl_alloc))
  rintro e w' ⟨rfl, rfl⟩
  go_wp2_with fail
  go_ret
  exact ⟨rfl, by repeat' (first | exact Below.refl _ _ | apply bl_alloc)⟩

set_option maxRecDepth 100000 in
set_option maxHeartbeats 2000000 in
theorem entries_no (v : Value) (w : World) (h : NoTab v w) :
    Calls Try.prog 17 #[v] w fun e w' => e = .returned (.slice none 0 0) ∧ Below w.heap.size w w' := by
  replace h := Lib.hid h
  go_enter Try.func17, Try.ntmps17
  go_wp2_with fail
  refine (none_no (h.out.below ?_)).mono ?_
  · (repeat' (first | exact Below.refl _ _ | apply bl_alloc))
  rintro e w' ⟨rfl, rfl⟩
  go_wp2_with fail
  go_ret
  exact ⟨rfl, by repeat' (first | exact Below.refl _ _ | apply bl_alloc)⟩
end Go.Proofs.Ytjpmdjjihdicdaa
