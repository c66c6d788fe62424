/- slices.BinarySearchFunc by a pair's key. -/
import Derived.Test.YtjokpjfmnjefdaaIn
import Derived.Test.YtjokpjfmnjefdaaSa
namespace Go.Proofs.Ytjokpjfmnjefdaa
open Go.RowKit Go.Shelf
attribute [local go_sem] Oper.semAt_some

set_option maxHeartbeats 1000000 in
theorem closure46_any (x : Pr) (k : ByteArray) (w : World) : Calls Try.prog 46 #[.agg #[.string x.key, .string x.val, .int .i64 x.off], .string k] w fun e w' => e = .returned (.int .i64 (cmpS x.key k)) ∧ ∃ o1, w' = w.alloc o1 := by
  go_enter Try.func46, Try.ntmps46
  go_wp2_with (go_at_call 47; refine (compare_any _ _ _).mono ?_; rintro e w' ⟨rfl, rfl⟩)
  go_ret
  exact ⟨rfl, _, rfl⟩

theorem cmp_lt (x k : ByteArray) : decide (cmpS x k < 0) = sb x k := by
  unfold cmpS
  split
  · rename_i h; simp [h]
  · rename_i h
    split <;> simp [h]
theorem cmp_eq (x k : ByteArray) : (cmpS x k == 0) = decide (x = k ∧ sb x k = false) := by
  unfold cmpS
  split
  · rename_i h; simp [h]
  · rename_i h
    split <;> rename_i h2
    · subst h2; simp [sb_irrefl]
    · simp [h2]

/-- Where a key is to be. -/
def At (l : List Pr) (k : ByteArray) (i : Nat) : Prop := i ≤ l.length ∧ (∀ t (h : t < l.length), t < i → sb l[t].key k = true) ∧ ∀ t (h : t < l.length), i ≤ t → sb l[t].key k = false
def foundB (l : List Pr) (k : ByteArray) (i : Nat) : Bool := decide (∃ h : i < l.length, l[i].key = k)

theorem sb_mono {l : List Pr} (hl : Ris l) {k : ByteArray} {h : Nat} (hh : h < l.length) : (sb l[h].key k = true → ∀ t (q : t < l.length), t < h + 1 → sb l[t].key k = true) ∧ (sb l[h].key k = false → ∀ t (q : t < l.length), h ≤ t → sb l[t].key k = false) := by
  have hp := List.pairwise_iff_getElem.1 hl
  refine ⟨fun e t q ht => ?_, fun e t q ht => ?_⟩
  · by_cases ht2 : t = h
    · subst ht2; exact e
    · exact sb_trans (hp t h q hh (by omega)) e
  · by_cases ht2 : t = h
    · subst ht2; exact e
    · cases c : sb l[t].key k with
      | false => rfl
      | true => rw [sb_trans (hp h t hh q (by omega)) c] at e; cases e

set_option maxRecDepth 100000 in
set_option maxHeartbeats 1000000 in
theorem search_any (A : Option Addr) (c : Nat) (l : List Pr) (k : ByteArray) (w : World) (hl : LAt w A 3 prL l) (hll : l.length ≤ 4611686018427387904) (hris : Ris l) :
    Calls Try.prog 45 #[.slice A l.length c, .string k, .func (.func 46) #[] #[]] w fun e w' => ∃ i, At l k i ∧ e = .returned (.tuple #[.int .i64 i, .bool (foundB l k i)]) ∧ Below w.heap.size w w' := by
  go_enter Try.func45, Try.ntmps45
  go_wp2_with fail
  go_loopw [9, 10] (fun u v wr => ∃ i j : Nat, u = .int .i64 i ∧ v = .int .i64 j ∧ i ≤ j ∧ j ≤ l.length ∧ (∀ t (h : t < l.length), t < i → sb l[t].key k = true) ∧ (∀ t (h : t < l.length), j ≤ t → sb l[t].key k = false) ∧ Below w.heap.size w wr) (fun u v _ => (intOf v).toNat - (intOf u).toNat)
  case atStart => exact ⟨0, l.length, rfl, rfl, Nat.zero_le _, Nat.le_refl _, fun t h q => by omega, fun t h q => by omega, Below.refl _ _⟩
  case round =>
    obtain ⟨i, j, rfl, rfl, hij, hjl, ha, hz, hb⟩ := hrel
    by_cases hlt : i < j
    · have hh : (i + j) / 2 < l.length := by omega
      have hm := sb_mono hris (k := k) hh
      obtain ⟨b, o, rfl, hbl, ca⟩ := (hl.below hb) _ hh
      generalize l[(i + j) / 2] = x at ca hm
      have a0 : wr.cell? ⟨b, o + (i + j) / 2 * 3, none⟩ = some (.string x.key) := ca 0 _ rfl
      have a1 : wr.cell? ⟨b, o + (i + j) / 2 * 3 + 1, none⟩ = some (.string x.val) := ca 1 _ rfl
      have a2 : wr.cell? ⟨b, o + (i + j) / 2 * 3 + 2, none⟩ = some (.int .i64 x.off) := ca 2 _ rfl
      clear ca
      cases hx : sb x.key k with
      | true =>
        have hm2 := Lib.hid (hm.1 hx)
        have hlt0 : (cmpS x.key k < 0) = True := by have := cmp_lt x.key k; rw [hx] at this; simpa using this
        clear hm hx
        replace ha := Lib.hid ha
        replace hz := Lib.hid hz
        go_wp2_with (go_at_call 46; refine (closure46_any x k _).mono ?_; rintro e w2 ⟨rfl, o1, rfl⟩)
        refine ⟨⟨(i + j) / 2 + 1, j, by go_num, rfl, by omega, hjl, hm2.out, hz.out, bl_tr hb (bl_alloc (Below.refl _ _) _)⟩, ?_⟩
        simp only [intOf]; omega
      | false =>
        have hm2 := Lib.hid (hm.2 hx)
        have hlt0 : (cmpS x.key k < 0) = False := by have := cmp_lt x.key k; rw [hx] at this; simpa using this
        clear hm hx
        replace ha := Lib.hid ha
        replace hz := Lib.hid hz
        go_wp2_with (go_at_call 46; refine (closure46_any x k _).mono ?_; rintro e w2 ⟨rfl, o1, rfl⟩)
        refine ⟨⟨i, (i + j) / 2, rfl, by go_num, by omega, by omega, ha.out, hm2.out, bl_tr hb (bl_alloc (Below.refl _ _) _)⟩, ?_⟩
        simp only [intOf]; omega
    · obtain rfl : i = j := by omega
      have hA : At l k i := ⟨hjl, ha, hz⟩
      by_cases hl2 : i < l.length
      · obtain ⟨b, o, rfl, hbl, ca⟩ := (hl.below hb) _ hl2
        have hf : foundB l k i = decide (l[i].key = k) := by unfold foundB; simp [hl2]
        have hzz := hz i hl2 (Nat.le_refl _)
        have he0 : (cmpS l[i].key k == 0) = foundB l k i := by rw [hf, cmp_eq, hzz]; simp
        clear hf hzz
        generalize l[i] = x at ca he0
        have a0 : wr.cell? ⟨b, o + i * 3, none⟩ = some (.string x.key) := ca 0 _ rfl
        have a1 : wr.cell? ⟨b, o + i * 3 + 1, none⟩ = some (.string x.val) := ca 1 _ rfl
        have a2 : wr.cell? ⟨b, o + i * 3 + 2, none⟩ = some (.int .i64 x.off) := ca 2 _ rfl
        clear ca
        replace ha := Lib.hid ha
        replace hz := Lib.hid hz
        go_wp2_with (go_at_call 46; refine (closure46_any x k _).mono ?_; rintro e w2 ⟨rfl, o1, rfl⟩)
        go_ret2
        exact ⟨i, hA, rfl, bl_tr hb (bl_alloc (Below.refl _ _) _)⟩
      · obtain rfl : i = l.length := by omega
        have hf := Lib.hid (show foundB l k l.length = false by unfold foundB; simp)
        replace ha := Lib.hid ha
        replace hz := Lib.hid hz
        go_wp2_with fail
        go_ret2
        exact ⟨l.length, hA, by rw [hf.out]; rfl, hb⟩
end Go.Proofs.Ytjokpjfmnjefdaa
