/- Rows and pairs as data, and in memory; the small functions: offset, keyOf, num. -/
import Derived.Test.YtjokpjfmnjefdaaRows
import Derived.Test.YtjokpjfmnjefdaaSt
import Derived.Test.YtjokpjfmnjefdaaHd
namespace Go.Proofs.Ytjokpjfmnjefdaa
open Go.RowKit Go.Shelf Go.Maps
attribute [local go_sem] Oper.semAt_some

structure Pr where
  key : ByteArray
  val : ByteArray
  off : Int
deriving Inhabited
structure Rw where
  off : Int
  prod : Int
  intxn : Bool
  key : ByteArray
  val : ByteArray
  dead : Bool
deriving Inhabited
def prL (p : Pr) : List Value := [.string p.key, .string p.val, .int .i64 p.off]
def prV (p : Pr) : Value := .agg #[.string p.key, .string p.val, .int .i64 p.off]
def rwL (r : Rw) : List Value := [.int .i64 r.off, .int .i64 r.prod, .bool r.intxn, .string r.key, .string r.val, .bool r.dead]

def okI (n : Int) : Prop := -9223372036854775808 ≤ n ∧ n ≤ 9223372036854775807
/-- From address A on w holds the elements l, each of size cells. -/
def LAt {α : Type} (w : World) (A : Option Addr) (size : Nat) (enc : α → List Value) (l : List α) : Prop :=
  ∀ i (h : i < l.length), ∃ b o, A = some ⟨b, o, none⟩ ∧ b < w.heap.size ∧ w.rangeAt b (o + i * size) (enc l[i])
theorem LAt.below {α : Type} {w w' : World} {A : Option Addr} {size : Nat} {enc : α → List Value} {l : List α} (h : LAt w A size enc l) (hb : Below w.heap.size w w') : LAt w' A size enc l := fun i hi => by
  obtain ⟨b, o, hA, hlt, hc⟩ := h i hi
  exact ⟨b, o, hA, Nat.lt_of_lt_of_le hlt hb.size, fun j u hu => (hb.cell (p := ⟨b, o + i * size + j, none⟩) hlt).trans (hc j u hu)⟩

/-- Do they rise? -/
def RisR (l : List Rw) : Prop := ∀ j (h : j + 1 < l.length), l[j].off < l[j + 1].off
def RisP (l : List Pr) : Prop := ∀ j (h : j + 1 < l.length), sb l[j].key l[j + 1].key = true

set_option maxHeartbeats 400000 in
theorem num_any (a : Int) (w : World) :
    Calls Try.prog 20 #[.int .i64 a] w fun e w' => e = .returned (.int .i64 a) ∧ w = w' := by
  go_enter Try.func20, Try.ntmps20
  go_wp2
  go_ret
  exact ⟨rfl, rfl⟩
set_option maxHeartbeats 400000 in
theorem offset_any (r : Rw) (w : World) :
    Calls Try.prog 52 #[.agg #[.int .i64 r.off, .int .i64 r.prod, .bool r.intxn, .string r.key, .string r.val, .bool r.dead]] w fun e w' => e = .returned (.int .i64 r.off) ∧ Below w.heap.size w w' := by
  go_enter Try.func52, Try.ntmps52
  go_wp2
  go_ret
  exact ⟨rfl, bl_alloc (Below.refl _ _) _⟩
set_option maxHeartbeats 400000 in
theorem keyOf_any (p : Pr) (w : World) :
    Calls Try.prog 56 #[.agg #[.string p.key, .string p.val, .int .i64 p.off]] w fun e w' => e = .returned (.string p.key) ∧ Below w.heap.size w w' := by
  go_enter Try.func56, Try.ntmps56
  go_wp2
  go_ret
  exact ⟨rfl, bl_alloc (Below.refl _ _) _⟩

set_option maxRecDepth 100000 in
set_option maxHeartbeats 2000000 in
theorem risingR_any (A : Option Addr) (c : Nat) (l : List Rw) (w : World) (hl : LAt w A 6 rwL l) (hll : l.length ≤ 4611686018427387904) :
    Calls Try.prog 51 #[.slice A l.length c, .func (.func 52) #[] #[]] w fun e w' => ∃ b : Bool, e = .returned (.bool b) ∧ (b = true ↔ RisR l) ∧ Below w.heap.size w w' := by
  go_enter Try.func51, Try.ntmps51
  go_wp2_with fail
  go_loopw [5] (fun u wr => ∃ i : Nat, 1 ≤ i ∧ u = .int .i64 i ∧ (i ≤ l.length ∨ i = 1) ∧ (∀ j (h : j + 1 < l.length), j + 1 < i → l[j].off < l[j + 1].off) ∧ Below w.heap.size w wr) (fun u _ => l.length - (intOf u).toNat)
  case atStart => exact ⟨1, Nat.le_refl _, rfl, .inr rfl, fun j h hj => by omega, Below.refl _ _⟩
  case round =>
    obtain ⟨i, h1, rfl, hi, hr, hb⟩ := hrel
    by_cases hlt : i < l.length
    · obtain ⟨m, hmi⟩ : ∃ m, m + 1 = i := ⟨i - 1, by omega⟩
      obtain ⟨b, o, rfl, hbl, ca⟩ := (hl.below hb) i hlt
      obtain ⟨b', o', hA', _, cb⟩ := (hl.below hb) m (by omega)
      cases hA'
      have hstep := hr
      have hlast : ∀ x y : Rw, l[i] = x → l[m]'(by omega) = y → (y.off < x.off → ∀ j (h : j + 1 < l.length), j + 1 < i + 1 → l[j].off < l[j + 1].off) ∧ (¬ y.off < x.off → ¬ RisR l) := fun x y hx hy => by
        subst hx hy
        subst hmi
        refine ⟨fun hh j h hj => ?_, fun hn hR => hn (hR m hlt)⟩
        by_cases e : j = m
        · subst e; exact hh
        · exact hr j h (by omega)
      have hmm := Lib.hid (hlast l[i] (l[m]'(by omega)) rfl rfl)
      generalize l[i] = x at ca hmm
      generalize l[m]'(by omega) = y at cb hmm
      have a0 : wr.cell? ⟨b, o + i * 6, none⟩ = some (.int .i64 x.off) := ca 0 _ rfl
      have a1 := ca 1 _ rfl
      have a2 := ca 2 _ rfl
      have a3 := ca 3 _ rfl
      have a4 := ca 4 _ rfl
      have a5 := ca 5 _ rfl
      have b0 : wr.cell? ⟨b, o + m * 6, none⟩ = some (.int .i64 y.off) := cb 0 _ rfl
      have b1 := cb 1 _ rfl
      have b2 := cb 2 _ rfl
      have b3 := cb 3 _ rfl
      have b4 := cb 4 _ rfl
      have b5 := cb 5 _ rfl
      have hltI : (i : Int) < (l.length : Int) := by omega
      have hltI2 : (m : Int) < (l.length : Int) := by omega
      clear ca cb hlast hstep hr
      by_cases hxy : y.off < x.off
      · have hd : decide (x.off ≤ y.off) = false := by simp; omega
        have hw1 : IntKind.i64.wrap ((i : Int) - 1) = m := by rw [IntKind.wrap_i64]; omega
        go_wp2_with fail
        go_region_held3 (fun w' => (∀ b o, b < wr.heap.size → w'.cell? ⟨b, o, none⟩ = wr.cell? ⟨b, o, none⟩) ∧ Below wr.heap.size wr w')
          (first | exact keep_drew wr | exact keep_step ‹_› ‹_›)
          ((first | (go_at_call 52; have hx := bX; refine (offset_any y _).mono ?_; rintro e wY ⟨rfl, bY⟩) | (go_at_call 52; refine (offset_any x _).mono ?_; rintro e wX ⟨rfl, bX⟩)))
        go_wp2_with fail
        exact ⟨⟨i + 1, by omega, by go_num, .inl (by omega), (hmm.out.1 hxy), bl_tr hb (bl_tr (bl_tr (bl_drew (Below.refl _ _)) bX) bY)⟩, by simp [intOf]; omega⟩
      · have hd : decide (x.off ≤ y.off) = true := by simp; omega
        have hw1 : IntKind.i64.wrap ((i : Int) - 1) = m := by rw [IntKind.wrap_i64]; omega
        go_wp2_with fail
        go_region_held3 (fun w' => (∀ b o, b < wr.heap.size → w'.cell? ⟨b, o, none⟩ = wr.cell? ⟨b, o, none⟩) ∧ Below wr.heap.size wr w')
          (first | exact keep_drew wr | exact keep_step ‹_› ‹_›)
          ((first | (go_at_call 52; have hx := bX; refine (offset_any y _).mono ?_; rintro e wY ⟨rfl, bY⟩) | (go_at_call 52; refine (offset_any x _).mono ?_; rintro e wX ⟨rfl, bX⟩)))
        go_wp2_with fail
        go_ret
        exact ⟨false, rfl, ⟨fun h => absurd h (by simp), fun h => absurd h (hmm.out.2 (by first | exact hxy | omega))⟩, bl_tr hb (bl_tr (bl_tr (bl_drew (Below.refl _ _)) bX) bY)⟩
    · have hR : RisR l := fun j h => hr j h (by omega)
      go_wp2_with fail
      go_ret
      exact ⟨true, rfl, by simp [hR], hb⟩
set_option maxRecDepth 100000 in
set_option maxHeartbeats 2000000 in
theorem risingP_any (A : Option Addr) (c : Nat) (l : List Pr) (w : World) (hl : LAt w A 3 prL l) (hll : l.length ≤ 4611686018427387904) :
    Calls Try.prog 55 #[.slice A l.length c, .func (.func 56) #[] #[]] w fun e w' => ∃ b : Bool, e = .returned (.bool b) ∧ (b = true ↔ RisP l) ∧ Below w.heap.size w w' := by
  go_enter Try.func55, Try.ntmps55
  go_wp2_with fail
  go_loopw [5] (fun u wr => ∃ i : Nat, 1 ≤ i ∧ u = .int .i64 i ∧ (i ≤ l.length ∨ i = 1) ∧ (∀ j (h : j + 1 < l.length), j + 1 < i → sb l[j].key l[j + 1].key = true) ∧ Below w.heap.size w wr) (fun u _ => l.length - (intOf u).toNat)
  case atStart => exact ⟨1, Nat.le_refl _, rfl, .inr rfl, fun j h hj => by omega, Below.refl _ _⟩
  case round =>
    obtain ⟨i, h1, rfl, hi, hr, hb⟩ := hrel
    by_cases hlt : i < l.length
    · obtain ⟨m, hmi⟩ : ∃ m, m + 1 = i := ⟨i - 1, by omega⟩
      obtain ⟨b, o, rfl, hbl, ca⟩ := (hl.below hb) i hlt
      obtain ⟨b', o', hA', _, cb⟩ := (hl.below hb) m (by omega)
      cases hA'
      have hstep := hr
      have hlast : ∀ x y : Pr, l[i] = x → l[m]'(by omega) = y → (sb y.key x.key = true → ∀ j (h : j + 1 < l.length), j + 1 < i + 1 → sb l[j].key l[j + 1].key = true) ∧ (¬ sb y.key x.key = true → ¬ RisP l) := fun x y hx hy => by
        subst hx hy
        subst hmi
        refine ⟨fun hh j h hj => ?_, fun hn hR => hn (hR m hlt)⟩
        by_cases e : j = m
        · subst e; exact hh
        · exact hr j h (by omega)
      have hmm := Lib.hid (hlast l[i] (l[m]'(by omega)) rfl rfl)
      generalize l[i] = x at ca hmm
      generalize l[m]'(by omega) = y at cb hmm
      have a0 : wr.cell? ⟨b, o + i * 3, none⟩ = some (.string x.key) := ca 0 _ rfl
      have a1 := ca 1 _ rfl
      have a2 := ca 2 _ rfl
      have b0 : wr.cell? ⟨b, o + m * 3, none⟩ = some (.string y.key) := cb 0 _ rfl
      have b1 := cb 1 _ rfl
      have b2 := cb 2 _ rfl
      have hltI : (i : Int) < (l.length : Int) := by omega
      have hltI2 : (m : Int) < (l.length : Int) := by omega
      clear ca cb hlast hstep hr
      by_cases hxy : sb y.key x.key = true
      · have hle : (Op.bytesLess x.key.toList y.key.toList || x.key.toList == y.key.toList) = false := by rw [str_lt, str_eq, le_false hxy]
        have hw1 : IntKind.i64.wrap ((i : Int) - 1) = m := by rw [IntKind.wrap_i64]; omega
        go_wp2_with fail
        go_region_held3 (fun w' => (∀ b o, b < wr.heap.size → w'.cell? ⟨b, o, none⟩ = wr.cell? ⟨b, o, none⟩) ∧ Below wr.heap.size wr w')
          (first | exact keep_drew wr | exact keep_step ‹_› ‹_›)
          ((first | (go_at_call 56; have hx := bX; refine (keyOf_any y _).mono ?_; rintro e wY ⟨rfl, bY⟩) | (go_at_call 56; refine (keyOf_any x _).mono ?_; rintro e wX ⟨rfl, bX⟩)))
        go_wp2_with fail
        exact ⟨⟨i + 1, by omega, by go_num, .inl (by omega), (hmm.out.1 hxy), bl_tr hb (bl_tr (bl_tr (bl_drew (Below.refl _ _)) bX) bY)⟩, by simp [intOf]; omega⟩
      · have hle : (Op.bytesLess x.key.toList y.key.toList || x.key.toList == y.key.toList) = true := by rw [str_lt, str_eq, le_true hxy]
        have hw1 : IntKind.i64.wrap ((i : Int) - 1) = m := by rw [IntKind.wrap_i64]; omega
        go_wp2_with fail
        go_region_held3 (fun w' => (∀ b o, b < wr.heap.size → w'.cell? ⟨b, o, none⟩ = wr.cell? ⟨b, o, none⟩) ∧ Below wr.heap.size wr w')
          (first | exact keep_drew wr | exact keep_step ‹_› ‹_›)
          ((first | (go_at_call 56; have hx := bX; refine (keyOf_any y _).mono ?_; rintro e wY ⟨rfl, bY⟩) | (go_at_call 56; refine (keyOf_any x _).mono ?_; rintro e wX ⟨rfl, bX⟩)))
        go_wp2_with fail
        go_ret
        exact ⟨false, rfl, ⟨fun h => absurd h (by simp), fun h => absurd h (hmm.out.2 (by first | exact hxy | omega))⟩, bl_tr hb (bl_tr (bl_tr (bl_drew (Below.refl _ _)) bX) bY)⟩
    · have hR : RisP l := fun j h => hr j h (by omega)
      go_wp2_with fail
      go_ret
      exact ⟨true, rfl, by simp [hR], hb⟩
end Go.Proofs.Ytjokpjfmnjefdaa
