/- view: may, table (and slices.ContainsFunc, slices.IndexFunc as it calls them). -/
import Derived.Test.YtjokpjfmnjefdaaVd
namespace Go.Proofs.Ytjokpjfmnjefdaa
open Go.RowKit Go.Shelf Go.Maps
attribute [local go_sem] Oper.semAt_some

/-- May rows be? -/
def MayR (l : List Rw) : Prop := RisR l ∧ ∀ x, l.head? = some x → 0 ≤ x.off
/-- Is it a table? -/
def TabP (l : List Pr) : Prop := RisP l ∧ ∀ x ∈ l, 0 ≤ x.off

set_option maxRecDepth 100000 in
set_option maxHeartbeats 2000000 in
theorem may_any (A : Option Addr) (c : Nat) (l : List Rw) (w : World) (hl : LAt w A 6 rwL l) (hll : l.length ≤ 4611686018427387904) :
    Calls Try.prog 32 #[.slice A l.length c] w fun e w' => ∃ b : Bool, e = .returned (.bool b) ∧ (b = true ↔ MayR l) ∧ Below w.heap.size w w' := by
  go_enter Try.func32, Try.ntmps32
  go_wp2_with fail
  refine (risingR_any A c l w hl hll).mono ?_
  rintro e w1 ⟨b, rfl, hb, hw⟩
  replace hb := Lib.hid hb
  replace hl := Lib.hid hl
  cases b with
  | false =>
    go_wp2_with fail
    go_ret
    exact ⟨false, rfl, ⟨fun h => absurd h (by simp), fun h => hb.out.2 h.1⟩, hw⟩
  | true =>
    cases l with
    | nil =>
      have hz : ((List.length ([] : List Rw) : Nat) : Int) = 0 := rfl
      go_wp2_with fail
      go_ret
      exact ⟨true, rfl, ⟨fun _ => ⟨hb.out.1 (by trivial), fun x h => by simp at h⟩, fun _ => rfl⟩, hw⟩
    | cons x r =>
      obtain ⟨bb, o, rfl, hbl, ca⟩ := (hl.out.below hw) 0 (by simp)
      have a0 : w1.cell? ⟨bb, o, none⟩ = some (.int .i64 x.off) := by have := ca 0 _ rfl; simpa using this
      have hz : (((List.length (x :: r) : Nat) : Int) == 0) = false := by rw [beq_eq_false_iff_ne]; simp only [List.length_cons]; omega
      have hz2 : (0 : Int) < ((List.length (x :: r) : Nat) : Int) := by simp only [List.length_cons]; omega
      generalize hn : List.length (x :: r) = n at hz hz2
      by_cases hx : 0 ≤ x.off
      · have hd : decide (0 ≤ x.off) = true := by simpa using hx
        go_wp2_with fail
        go_ret
        exact ⟨true, rfl, ⟨fun _ => ⟨hb.out.1 (by trivial), fun y h => by simp at h; rw [← h]; exact hx⟩, fun _ => rfl⟩, hw⟩
      · have hd : decide (0 ≤ x.off) = false := by simpa using hx
        have hx2 := Lib.hid hx
        clear hx
        go_wp2_with fail
        go_ret
        exact ⟨false, rfl, ⟨fun h => absurd h (by simp), fun h => absurd (h.2 x rfl) (by have := hx2.out; omega)⟩, hw⟩

set_option maxHeartbeats 400000 in
theorem table1_any (p : Pr) (w : World) :
    Calls Try.prog 58 #[.agg #[.string p.key, .string p.val, .int .i64 p.off]] w fun e w' => e = .returned (.bool (decide (p.off < 0))) ∧ Below w.heap.size w w' := by
  go_enter Try.func58, Try.ntmps58
  go_wp2
  go_ret
  exact ⟨rfl, bl_alloc (Below.refl _ _) _⟩

set_option maxRecDepth 100000 in
set_option maxHeartbeats 2000000 in
theorem index_any (A : Option Addr) (c : Nat) (l : List Pr) (w : World) (hl : LAt w A 3 prL l) (hll : l.length ≤ 4611686018427387904) :
    Calls Try.prog 60 #[.slice A l.length c, .func (.func 58) #[] #[]] w fun e w' => ∃ k : Int, e = .returned (.int .i64 k) ∧ (0 ≤ k ↔ ∃ x ∈ l, x.off < 0) ∧ Below w.heap.size w w' := by
  go_enter Try.func60, Try.ntmps60
  go_wp2_with fail
  go_loopw [8] (fun u wr => ∃ i : Nat, u = .int .i64 i ∧ i ≤ l.length ∧ (∀ j (h : j < l.length), j < i → 0 ≤ l[j].off) ∧ Below w.heap.size w wr) (fun u _ => l.length - (intOf u).toNat)
  case atStart => exact ⟨0, rfl, Nat.zero_le _, fun j h hj => by omega, Below.refl _ _⟩
  case round =>
    obtain ⟨i, rfl, hi, hr, hb⟩ := hrel
    by_cases hlt : i < l.length
    · obtain ⟨b, o, rfl, hbl, ca⟩ := (hl.below hb) i hlt
      have hmm := Lib.hid (show ∀ x, l[i] = x → (x ∈ l) ∧ (¬ x.off < 0 → ∀ j (h : j < l.length), j < i + 1 → 0 ≤ l[j].off) from fun x hx => by
        subst hx
        refine ⟨List.getElem_mem _, fun hn j h hj => ?_⟩
        by_cases e : j = i
        · subst e; omega
        · exact hr j h (by omega))
      have hm2 := Lib.hid (hmm.out l[i] rfl)
      generalize l[i] = x at ca hm2
      have a0 : wr.cell? ⟨b, o + i * 3, none⟩ = some (.string x.key) := ca 0 _ rfl
      have a1 := ca 1 _ rfl
      have a2 := ca 2 _ rfl
      have hltI : (i : Int) < (l.length : Int) := by omega
      clear ca hmm hr
      by_cases hx : x.off < 0
      · have hd : decide (x.off < 0) = true := by simpa using hx
        go_wp2_with (go_at_call 58; refine (table1_any x _).mono ?_; rw [hd]; rintro e w2 ⟨rfl, b2⟩)
        go_ret
        exact ⟨i, rfl, ⟨fun _ => ⟨x, hm2.out.1, hx⟩, fun _ => by omega⟩, bl_tr hb b2⟩
      · have hd : decide (x.off < 0) = false := by simpa using hx
        go_wp2_with (go_at_call 58; refine (table1_any x _).mono ?_; rw [hd]; rintro e w2 ⟨rfl, b2⟩)
        exact ⟨⟨i + 1, by go_num, by omega, hm2.out.2 hx, bl_tr hb b2⟩, by simp [intOf]; omega⟩
    · obtain rfl : i = l.length := by omega
      go_wp2_with fail
      go_ret
      refine ⟨-1, rfl, ⟨fun h => absurd h (by omega), fun ⟨x, hx, hn⟩ => ?_⟩, hb⟩
      obtain ⟨j, hj, rfl⟩ := List.getElem_of_mem hx
      exact absurd hn (by have := hr j hj hj; omega)

set_option maxHeartbeats 1000000 in
theorem contains_any (A : Option Addr) (c : Nat) (l : List Pr) (w : World) (hl : LAt w A 3 prL l) (hll : l.length ≤ 4611686018427387904) :
    Calls Try.prog 57 #[.slice A l.length c, .func (.func 58) #[] #[]] w fun e w' => ∃ b : Bool, e = .returned (.bool b) ∧ (b = true ↔ ∃ x ∈ l, x.off < 0) ∧ Below w.heap.size w w' := by
  go_enter Try.func57, Try.ntmps57
  go_wp2_with fail
  refine (index_any A c l w hl hll).mono ?_
  rintro e w1 ⟨k, rfl, hk, hw⟩
  replace hk := Lib.hid hk
  replace hl := Lib.hid hl
  by_cases h0 : 0 ≤ k
  · have hd : decide (0 ≤ k) = true := by simpa using h0
    go_wp2_with fail
    go_ret
    exact ⟨true, rfl, ⟨fun _ => hk.out.1 h0, fun _ => rfl⟩, hw⟩
  · have hd : decide (0 ≤ k) = false := by simpa using h0
    have h02 := Lib.hid h0
    clear h0
    go_wp2_with fail
    go_ret
    exact ⟨false, rfl, ⟨fun h => absurd h (by simp), fun h => absurd (hk.out.2 h) (by have := h02.out; omega)⟩, hw⟩

set_option maxHeartbeats 1000000 in
theorem table_any (A : Option Addr) (c : Nat) (l : List Pr) (w : World) (hl : LAt w A 3 prL l) (hll : l.length ≤ 4611686018427387904) :
    Calls Try.prog 36 #[.slice A l.length c] w fun e w' => ∃ b : Bool, e = .returned (.bool b) ∧ (b = true ↔ TabP l) ∧ Below w.heap.size w w' := by
  go_enter Try.func36, Try.ntmps36
  go_wp2_with fail
  refine (risingP_any A c l w hl hll).mono ?_
  rintro e w1 ⟨b, rfl, hb, hw⟩
  replace hb := Lib.hid hb
  replace hl := Lib.hid hl
  cases b with
  | false =>
    go_wp2_with fail
    go_ret
    exact ⟨false, rfl, ⟨fun h => absurd h (by simp), fun h => hb.out.2 h.1⟩, hw⟩
  | true =>
    go_wp2_with fail
    refine (contains_any A c l w1 (hl.out.below hw) hll).mono ?_
    rintro e w2 ⟨b, rfl, hb2, hw2⟩
    replace hb2 := Lib.hid hb2
    cases b with
    | true =>
      go_wp2_with fail
      go_ret
      exact ⟨false, rfl, ⟨fun h => absurd h (by simp), fun h => by
        obtain ⟨x, hx, hn⟩ := hb2.out.1 (by trivial)
        have := h.2 x hx
        omega⟩, bl_tr hw hw2⟩
    | false =>
      go_wp2_with fail
      go_ret
      exact ⟨true, rfl, ⟨fun _ => ⟨hb.out.1 (by trivial), fun x hx => by
        apply Decidable.byContradiction
        intro hn
        have := hb2.out.2 ⟨x, hx, by omega⟩
        simp at this⟩, fun _ => rfl⟩, bl_tr hw hw2⟩
end Go.Proofs.Ytjokpjfmnjefdaa
