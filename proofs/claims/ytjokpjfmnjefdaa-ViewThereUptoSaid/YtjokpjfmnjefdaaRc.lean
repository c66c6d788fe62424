/- rising, over changes; the law's changes laid as the program's. -/
import Derived.Test.YtjokpjfmnjefdaaDe
import Derived.Test.YtjokpjfmnjefdaaDd
namespace Go.Proofs.Ytjokpjfmnjefdaa
open Go.RowKit Go.Shelf
attribute [local go_sem] Oper.semAt_some

def RisC (l : List Ch) : Prop := ∀ j (h : j + 1 < l.length), sb l[j].key l[j + 1].key = true
set_option maxHeartbeats 400000 in
theorem keyC_any (p : Ch) (w : World) :
    Calls Try.prog 44 #[.agg #[.string p.key, .string p.old, .string p.new, .bool p.was, .bool p.is]] w fun e w' => e = .returned (.string p.key) ∧ Below w.heap.size w w' := by
  go_enter Try.func44, Try.ntmps44
  go_wp2
  go_ret
  exact ⟨rfl, bl_alloc (Below.refl _ _) _⟩

set_option maxRecDepth 100000 in
set_option maxHeartbeats 2000000 in
theorem risingC_any (A : Option Addr) (c : Nat) (l : List Ch) (w : World) (hl : LAt w A 5 chL l) (hll : l.length ≤ 4611686018427387904) :
    Calls Try.prog 43 #[.slice A l.length c, .func (.func 44) #[] #[]] w fun e w' => ∃ b : Bool, e = .returned (.bool b) ∧ (b = true ↔ RisC l) ∧ Below w.heap.size w w' := by
  go_enter Try.func43, Try.ntmps43
  go_wp2_with fail
  go_loopw [5] (fun u wr => ∃ i : Nat, 1 ≤ i ∧ u = .int .i64 i ∧ (i ≤ l.length ∨ i = 1) ∧ (∀ j (h : j + 1 < l.length), j + 1 < i → sb l[j].key l[j + 1].key = true) ∧ Below w.heap.size w wr) (fun u _ => l.length - (intOf u).toNat)
  case atStart => exact ⟨1, Nat.le_refl _, rfl, .inr rfl, fun j h hj => by omega, Below.refl _ _⟩
  case round =>
    obtain ⟨i, h1, rfl, hi, hr, hb⟩ := hrel
    by_cases hlt : i < l.length
    · obtain ⟨m, hmi⟩ : ∃ m, m + 1 = i := ⟨i - 1, by omega⟩
      obtain ⟨b, o, rfl, hbl, ca⟩ := (hl.below hb) i hlt
      obtain ⟨b', o', hA', _, cb⟩ := (hl.below hb) m (by omega)
      cases hA'
      have hstep := hr
      have hlast : ∀ x y : Ch, l[i] = x → l[m]'(by omega) = y → (sb y.key x.key = true → ∀ j (h : j + 1 < l.length), j + 1 < i + 1 → sb l[j].key l[j + 1].key = true) ∧ (¬ sb y.key x.key = true → ¬ RisC l) := fun x y hx hy => by
        subst hx hy
        subst hmi
        refine ⟨fun hh j h hj => ?_, fun hn hR => hn (hR m hlt)⟩
        by_cases e : j = m
        · subst e; exact hh
        · exact hr j h (by omega)
      have hmm := Lib.hid (hlast l[i] (l[m]'(by omega)) rfl rfl)
      generalize l[i] = x at ca hmm
      generalize l[m]'(by omega) = y at cb hmm
      have a0 : wr.cell? ⟨b, o + i * 5, none⟩ = some (.string x.key) := ca 0 _ rfl
      have a1 := ca 1 _ rfl
      have a2 := ca 2 _ rfl
      have a3 := ca 3 _ rfl
      have a4 := ca 4 _ rfl
      have b0 : wr.cell? ⟨b, o + m * 5, none⟩ = some (.string y.key) := cb 0 _ rfl
      have b1 := cb 1 _ rfl
      have b2 := cb 2 _ rfl
      have b3 := cb 3 _ rfl
      have b4 := cb 4 _ rfl
      have hltI : (i : Int) < (l.length : Int) := by omega
      have hltI2 : (m : Int) < (l.length : Int) := by omega
      clear ca cb hlast hstep hr
      by_cases hxy : sb y.key x.key = true
      · have hle : (Op.bytesLess x.key.toList y.key.toList || x.key.toList == y.key.toList) = false := by rw [str_lt, str_eq, le_false hxy]
        have hw1 : IntKind.i64.wrap ((i : Int) - 1) = m := by rw [IntKind.wrap_i64]; omega
        go_wp2_with fail
        go_region_held3 (fun w' => (∀ b o, b < wr.heap.size → w'.cell? ⟨b, o, none⟩ = wr.cell? ⟨b, o, none⟩) ∧ Below wr.heap.size wr w')
          (first | exact keep_drew wr | exact keep_step ‹_› ‹_›)
          ((first | (go_at_call 44; have hx := bX; refine (keyC_any y _).mono ?_; rintro e wY ⟨rfl, bY⟩) | (go_at_call 44; refine (keyC_any x _).mono ?_; rintro e wX ⟨rfl, bX⟩)))
        go_wp2_with fail
        exact ⟨⟨i + 1, by omega, by go_num, .inl (by omega), (hmm.out.1 hxy), bl_tr hb (bl_tr (bl_tr (bl_drew (Below.refl _ _)) bX) bY)⟩, by simp [intOf]; omega⟩
      · have hle : (Op.bytesLess x.key.toList y.key.toList || x.key.toList == y.key.toList) = true := by rw [str_lt, str_eq, le_true hxy]
        have hw1 : IntKind.i64.wrap ((i : Int) - 1) = m := by rw [IntKind.wrap_i64]; omega
        go_wp2_with fail
        go_region_held3 (fun w' => (∀ b o, b < wr.heap.size → w'.cell? ⟨b, o, none⟩ = wr.cell? ⟨b, o, none⟩) ∧ Below wr.heap.size wr w')
          (first | exact keep_drew wr | exact keep_step ‹_› ‹_›)
          ((first | (go_at_call 44; have hx := bX; refine (keyC_any y _).mono ?_; rintro e wY ⟨rfl, bY⟩) | (go_at_call 44; refine (keyC_any x _).mono ?_; rintro e wX ⟨rfl, bX⟩)))
        go_wp2_with fail
        go_ret
        exact ⟨false, rfl, ⟨fun h => absurd h (by simp), fun h => absurd h (hmm.out.2 (by first | exact hxy | omega))⟩, bl_tr hb (bl_tr (bl_tr (bl_drew (Below.refl _ _)) bX) bY)⟩
    · have hR : RisC l := fun j h => hr j h (by omega)
      go_wp2_with fail
      go_ret
      exact ⟨true, rfl, by simp [hR], hb⟩
end Go.Proofs.Ytjokpjfmnjefdaa
