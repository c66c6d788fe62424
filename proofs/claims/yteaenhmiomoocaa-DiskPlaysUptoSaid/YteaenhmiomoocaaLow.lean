/- disk: the small functions: none, Blocks, Down, Dirty, Cut, operation; num. -/
import Derived.Test.YteaenhmiomoocaaDk
namespace Go.Proofs.Yteaenhmiomoocaa
open Go.RowKit Go.Shelf Go.Maps
attribute [local go_sem] Oper.semAt_some

/-- The box, its power and its fuse turned. -/
theorem DkAt.pow {w : World} {h nb : Nat} {us : List (Int × Value)} {d : Dsk} (D : DkAt w h nb us d) (o : Bool) (f : Int) : DkAt ((w.setCell ⟨h + 3, 3, none⟩ (.bool o)).setCell ⟨h + 3, 4, none⟩ (.int .i64 f)) h nb us { d with off := o, fuse := f } := by
  have hb := (D.box.set_same 3 (.bool o)).set_same 4 (.int .i64 f)
  have hk : ∀ b, b ≠ h + 3 → ((w.setCell ⟨h + 3, 3, none⟩ (.bool o)).setCell ⟨h + 3, 4, none⟩ (.int .i64 f)).heap[b]? = w.heap[b]? := fun b hb => (Below.heap_setCell _ _ _ b (by simpa using hb)).trans (Below.heap_setCell _ _ _ b (by simpa using hb))
  exact ⟨hb, D.txt.of_heap (hk _ (by omega)), D.bad.of_heap (hk _ (by omega)), D.ver.of_heap (hk _ (by omega)), D.keys, fun i v hv => by
    obtain ⟨l, A, c, h1, h2, h3⟩ := D.rows i v hv
    exact ⟨l, A, c, h1, h2, ownsRow_keep h3 fun g hg => hk g (by have := ownsRow_base h3 hg; omega)⟩, D.sep⟩
theorem DkAt.pow1 {w : World} {h nb : Nat} {us : List (Int × Value)} {d : Dsk} (D : DkAt w h nb us d) (f : Int) : DkAt (w.setCell ⟨h + 3, 4, none⟩ (.int .i64 f)) h nb us { d with fuse := f } := by
  have hb := D.box.set_same 4 (.int .i64 f)
  have hk : ∀ b, b ≠ h + 3 → (w.setCell ⟨h + 3, 4, none⟩ (.int .i64 f)).heap[b]? = w.heap[b]? := fun b hb => Below.heap_setCell _ _ _ b (by simpa using hb)
  exact ⟨hb, D.txt.of_heap (hk _ (by omega)), D.bad.of_heap (hk _ (by omega)), D.ver.of_heap (hk _ (by omega)), D.keys, fun i v hv => by
    obtain ⟨l, A, c, h1, h2, h3⟩ := D.rows i v hv
    exact ⟨l, A, c, h1, h2, ownsRow_keep h3 fun g hg => hk g (by have := ownsRow_base h3 hg; omega)⟩, D.sep⟩
theorem FrD.set {w w' : World} {h : Nat} {us us' : List (Int × Value)} (F : FrD w w' h us us') (_hl : h + 3 < w.heap.size) {b : Nat} (hb : h ≤ b ∧ b ≤ h + 3) (j : Nat) (v : Value) : FrD w (w'.setCell ⟨b, j, none⟩ v) h us us' :=
  ⟨F.os, F.tape, F.output, by simpa [World.setCell] using F.size, fun b' hb' hh hu => (Below.heap_setCell _ _ _ b' (by simp; omega)).trans (F.block b' hb' hh hu), F.sub⟩
theorem FrD.pow {w : World} {h nb : Nat} {us : List (Int × Value)} {d : Dsk} (D : DkAt w h nb us d) (a b : Value) : FrD w ((w.setCell ⟨h + 3, 3, none⟩ a).setCell ⟨h + 3, 4, none⟩ b) h us us :=
  ((FrD.refl _ _ _).set D.lt (by omega) _ _).set D.lt (by omega) _ _
theorem FrD.pow1 {w : World} {h nb : Nat} {us : List (Int × Value)} {d : Dsk} (D : DkAt w h nb us d) (a : Value) : FrD w (w.setCell ⟨h + 3, 4, none⟩ a) h us us :=
  (FrD.refl _ _ _).set D.lt (by omega) _ _

set_option maxHeartbeats 400000 in
theorem num_any (a : Int) (w : World) :
    Calls Try.prog 10 #[.int .i64 a] w fun e w' => e = .returned (.int .i64 a) ∧ w = w' := by
  go_enter Try.func10, Try.ntmps10
  go_wp2
  go_ret
  exact ⟨rfl, rfl⟩

set_option maxHeartbeats 400000 in
theorem none_nil (w : World) :
    Calls Try.prog 23 #[.pointer none] w fun e w' => e = .returned (.bool true) ∧ w = w' := by
  go_enter Try.func23, Try.ntmps23
  go_wp2
  go_ret
  exact ⟨rfl, rfl⟩

set_option maxHeartbeats 400000 in
theorem none_any (b : Nat) (A : Option Addr) (n c : Nat) (w : World) (h : w.cell? ⟨b, 0, none⟩ = some (.slice A n c)) :
    Calls Try.prog 23 #[.pointer (some ⟨b, 0, none⟩)] w fun e w' => e = .returned (.bool (n == 0)) ∧ w = w' := by
  have hn : (((n : Nat) : Int) == 0) = (n == 0) := by rw [Bool.eq_iff_iff]; simp
  go_enter Try.func23, Try.ntmps23
  go_wp2
  go_ret
  exact ⟨rfl, rfl⟩
theorem none_zero (b : Nat) (A : Option Addr) (c : Nat) (w : World) (h : w.cell? ⟨b, 0, none⟩ = some (.slice A 0 c)) :
    Calls Try.prog 23 #[.pointer (some ⟨b, 0, none⟩)] w fun e w' => e = .returned (.bool true) ∧ w = w' := none_any b A 0 c w h
theorem none_pos {w : World} {h nb : Nat} {us : List (Int × Value)} {d : Dsk} (D : DkAt w h nb us d) (hp : 1 ≤ d.ts.length) :
    Calls Try.prog 23 #[.pointer (some ⟨h + 3, 0, none⟩)] w fun e w' => e = .returned (.bool false) ∧ w = w' := by
  refine (none_any (h + 3) _ d.ts.length _ w (D.box.get rfl)).mono ?_
  rintro e w' ⟨rfl, rfl⟩
  exact ⟨by rw [show (d.ts.length == 0) = false from by rw [beq_eq_false_iff_ne]; omega], rfl⟩

set_option maxHeartbeats 400000 in
theorem blocks_any (h nb : Nat) (us : List (Int × Value)) (d : Dsk) (w : World) (D : DkAt w h nb us d) (hp : 1 ≤ d.ts.length) :
    Calls Try.prog 22 #[.pointer (some ⟨h + 3, 0, none⟩)] w fun e w' => e = .returned (.int .i64 d.ts.length) ∧ w = w' := by
  have q := D.box.cell
  go_enter Try.func22, Try.ntmps22
  go_wp2_with (go_at_call 23; refine (none_pos D hp).mono ?_; rintro e w' ⟨rfl, rfl⟩)
  go_ret
  exact ⟨rfl, rfl⟩
set_option maxHeartbeats 400000 in
theorem down_any (h nb : Nat) (us : List (Int × Value)) (d : Dsk) (w : World) (D : DkAt w h nb us d) (hp : 1 ≤ d.ts.length) :
    Calls Try.prog 18 #[.pointer (some ⟨h + 3, 0, none⟩)] w fun e w' => e = .returned (.bool d.off) ∧ w = w' := by
  have q := D.box.cell
  go_enter Try.func18, Try.ntmps18
  go_wp2_with (go_at_call 23; refine (none_pos D hp).mono ?_; rintro e w' ⟨rfl, rfl⟩)
  go_ret
  exact ⟨rfl, rfl⟩
set_option maxHeartbeats 400000 in
theorem dirty_any (h nb : Nat) (us : List (Int × Value)) (d : Dsk) (w : World) (D : DkAt w h nb us d) (hp : 1 ≤ d.ts.length) :
    Calls Try.prog 19 #[.pointer (some ⟨h + 3, 0, none⟩)] w fun e w' => e = .returned (.int .i64 d.vs.length) ∧ w = w' := by
  have q := D.box.cell
  have e1 := D.ver.len Try.underlying53
  have e2 : us.length = d.vs.length := by have := congrArg List.length D.keys; simpa using this
  rw [e2] at e1
  go_enter Try.func19, Try.ntmps19
  go_wp2_with (go_at_call 23; refine (none_pos D hp).mono ?_; rintro e w' ⟨rfl, rfl⟩)
  go_ret
  exact ⟨rfl, rfl⟩
set_option maxHeartbeats 400000 in
theorem cut_any (h nb : Nat) (us : List (Int × Value)) (d : Dsk) (n : Int) (w : World) (D : DkAt w h nb us d) (hp : 1 ≤ d.ts.length) (hn : -9223372036854775808 ≤ n ∧ n ≤ 9223372036854775807) :
    Calls Try.prog 17 #[.pointer (some ⟨h + 3, 0, none⟩), .int .i64 n] w fun e w' => e = .returned (.tuple #[]) ∧ DkAt w' h nb us (cutD d n) ∧ FrD w w' h us us := by
  have q := D.box.cell
  have hu := D.box.unf
  obtain ⟨ts, bad, vs, off, fuse⟩ := d
  dsimp only at q
  go_enter Try.func17, Try.ntmps17
  cases off with
  | true =>
    go_wp2_with (go_at_call 23; refine (none_pos D hp).mono ?_; rintro e w' ⟨rfl, rfl⟩)
    go_end0
    exact ⟨rfl, D, FrD.refl _ _ _⟩
  | false =>
    go_wp2_with (go_at_call 23; refine (none_pos D hp).mono ?_; rintro e w' ⟨rfl, rfl⟩)
    all_goals
      go_end0
      refine ⟨rfl, ?_, FrD.pow1 D _⟩
      simp only [cutD, Bool.false_eq_true, if_false]
      first
      | (rw [show max n (-1) = -1 from by omega]; exact D.pow1 _)
      | (rw [show max n (-1) = n from by omega]; exact D.pow1 _)
set_option maxHeartbeats 400000 in
theorem cut_nil (v : Value) (w : World) : Calls Try.prog 17 #[.pointer none, v] w fun e w' => e = .returned (.tuple #[]) ∧ w = w' := by
  go_enter Try.func17, Try.ntmps17
  go_wp2_with (go_at_call 23; refine (none_nil _).mono ?_; rintro e w' ⟨rfl, rfl⟩)
  go_end0
  exact ⟨rfl, rfl⟩
set_option maxHeartbeats 400000 in
theorem cut_zero (b : Nat) (A : Option Addr) (c : Nat) (v : Value) (w : World) (h : w.cell? ⟨b, 0, none⟩ = some (.slice A 0 c)) : Calls Try.prog 17 #[.pointer (some ⟨b, 0, none⟩), v] w fun e w' => e = .returned (.tuple #[]) ∧ w = w' := by
  go_enter Try.func17, Try.ntmps17
  go_wp2_with (go_at_call 23; refine (none_zero _ _ _ _ h).mono ?_; rintro e w' ⟨rfl, rfl⟩)
  go_end0
  exact ⟨rfl, rfl⟩

set_option maxHeartbeats 1000000 in
theorem operation25 (h nb : Nat) (us : List (Int × Value)) (d : Dsk) (cs : Array Value) (w : World) (D : DkAt w h nb us d) (hf : d.fuse ≤ 9223372036854775807) (hf2 : -1 ≤ d.fuse) (R : World → Prop)
    (hc : (powr d).1 = true → ∀ w1, DkAt w1 h nb us (powr d).2 → FrD w w1 h us us → Calls Try.prog 25 cs w1 fun e w' => e = .returned (.tuple #[]) ∧ R w') :
    Calls Try.prog 24 #[.pointer (some ⟨h + 3, 0, none⟩), .func (.func 25) #[] cs] w fun e w' =>
      ((powr d).1 = true ∧ e = .returned (.int .i64 0) ∧ R w') ∨ ((powr d).1 = false ∧ e = .returned (.int .i64 8) ∧ DkAt w' h nb us (powr d).2 ∧ FrD w w' h us us) := by
  obtain ⟨ts, bad, vs, off, fuse⟩ := d
  dsimp only at hf hf2
  have q := D.box.cell
  have hu := D.box.unf
  have hl := D.box.lt
  dsimp only at q
  go_enter Try.func24, Try.ntmps24
  cases off with
  | true =>
    go_wp2
    go_ret
    exact .inr ⟨by simp [powr], rfl, by simpa [powr] using D, FrD.refl _ _ _⟩
  | false =>
    by_cases h0 : fuse = 0
    · subst h0
      go_wp2
      go_ret
      refine .inr ⟨by simp [powr], rfl, ?_, ?_⟩
      · simp only [powr]
        exact D.pow (true) (-1) 
      · exact FrD.pow D _ _
    · by_cases h1 : 0 < fuse
      · have hp : powr ⟨ts, bad, vs, false, fuse⟩ = (true, ⟨ts, bad, vs, false, fuse - 1⟩) := by simp [powr, h0, h1]
        rw [hp] at hc ⊢
        replace hc := hc rfl
        go_wp2_with (go_at_call 25; refine (hc _ (D.pow1 (fuse - 1)) (FrD.pow1 D _)).mono ?_; rintro e w' ⟨rfl, hR⟩)
        go_ret
        exact ⟨rfl, hR⟩
      · obtain rfl : fuse = -1 := by omega
        have hp : powr ⟨ts, bad, vs, false, -1⟩ = (true, ⟨ts, bad, vs, false, -1⟩) := by simp [powr]
        rw [hp] at hc ⊢
        replace hc := hc rfl
        go_wp2_with (go_at_call 25; refine (hc _ D (FrD.refl _ _ _)).mono ?_; rintro e w' ⟨rfl, hR⟩)
        go_ret
        exact ⟨rfl, hR⟩

set_option maxHeartbeats 1000000 in
theorem operation26 (h nb : Nat) (us : List (Int × Value)) (d : Dsk) (cs : Array Value) (w : World) (D : DkAt w h nb us d) (hf : d.fuse ≤ 9223372036854775807) (hf2 : -1 ≤ d.fuse) (R : World → Prop)
    (hc : (powr d).1 = true → ∀ w1, DkAt w1 h nb us (powr d).2 → FrD w w1 h us us → Calls Try.prog 26 cs w1 fun e w' => e = .returned (.tuple #[]) ∧ R w') :
    Calls Try.prog 24 #[.pointer (some ⟨h + 3, 0, none⟩), .func (.func 26) #[] cs] w fun e w' =>
      ((powr d).1 = true ∧ e = .returned (.int .i64 0) ∧ R w') ∨ ((powr d).1 = false ∧ e = .returned (.int .i64 8) ∧ DkAt w' h nb us (powr d).2 ∧ FrD w w' h us us) := by
  obtain ⟨ts, bad, vs, off, fuse⟩ := d
  dsimp only at hf hf2
  have q := D.box.cell
  have hu := D.box.unf
  have hl := D.box.lt
  dsimp only at q
  go_enter Try.func24, Try.ntmps24
  cases off with
  | true =>
    go_wp2
    go_ret
    exact .inr ⟨by simp [powr], rfl, by simpa [powr] using D, FrD.refl _ _ _⟩
  | false =>
    by_cases h0 : fuse = 0
    · subst h0
      go_wp2
      go_ret
      refine .inr ⟨by simp [powr], rfl, ?_, ?_⟩
      · simp only [powr]
        exact D.pow (true) (-1) 
      · exact FrD.pow D _ _
    · by_cases h1 : 0 < fuse
      · have hp : powr ⟨ts, bad, vs, false, fuse⟩ = (true, ⟨ts, bad, vs, false, fuse - 1⟩) := by simp [powr, h0, h1]
        rw [hp] at hc ⊢
        replace hc := hc rfl
        go_wp2_with (go_at_call 26; refine (hc _ (D.pow1 (fuse - 1)) (FrD.pow1 D _)).mono ?_; rintro e w' ⟨rfl, hR⟩)
        go_ret
        exact ⟨rfl, hR⟩
      · obtain rfl : fuse = -1 := by omega
        have hp : powr ⟨ts, bad, vs, false, -1⟩ = (true, ⟨ts, bad, vs, false, -1⟩) := by simp [powr]
        rw [hp] at hc ⊢
        replace hc := hc rfl
        go_wp2_with (go_at_call 26; refine (hc _ D (FrD.refl _ _ _)).mono ?_; rintro e w' ⟨rfl, hR⟩)
        go_ret
        exact ⟨rfl, hR⟩
end Go.Proofs.Yteaenhmiomoocaa
