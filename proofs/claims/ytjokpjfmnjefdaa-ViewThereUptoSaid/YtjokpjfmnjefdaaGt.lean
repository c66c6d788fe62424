/- Get, the program's and the document's. -/
import Derived.Test.YtjokpjfmnjefdaaOw
namespace Go.Proofs.Ytjokpjfmnjefdaa
open Go.RowKit Go.Shelf
attribute [local go_sem] Oper.semAt_some

/-- A key's pair: the first one. -/
def getL (l : List Pr) (k : ByteArray) : Option Pr := l.find? fun p => decide (p.key = k)
def gotV (o : Option Pr) : ByteArray := (o.map (·.val)).getD ⟨#[]⟩
theorem getL_none {l : List Pr} {k : ByteArray} (h : ∀ j (h : j < l.length), l[j].key ≠ k) : getL l k = none := by
  unfold getL
  rw [List.find?_eq_none]
  intro x hx
  obtain ⟨j, hj, rfl⟩ := List.getElem_of_mem hx
  simpa using h j hj
theorem getL_some {l : List Pr} {k : ByteArray} {i : Nat} (hi : i < l.length) (h : ∀ j (h : j < l.length), j < i → l[j].key ≠ k) (he : l[i].key = k) : getL l k = some l[i] := by
  unfold getL
  rw [List.find?_eq_some_iff_getElem]
  refine ⟨by simpa using he, i, hi, rfl, fun j hj => by simpa using h j (by omega) hj⟩

set_option maxRecDepth 100000 in
set_option maxHeartbeats 2000000 in
theorem get_any (A : Option Addr) (c : Nat) (l : List Pr) (k : ByteArray) (w : World) (hl : LAt w A 3 prL l) (hll : l.length ≤ 4611686018427387904) :
    Calls Try.prog 21 #[.slice A l.length c, .string k] w fun e w' => e = .returned (.tuple #[.string (gotV (getL l k)), .bool (getL l k).isSome]) ∧ Below w.heap.size w w' := by
  go_enter Try.func21, Try.ntmps21
  go_wp2_with fail
  go_loopw [10] (fun u wr => ∃ i : Nat, u = .int .i64 i ∧ i ≤ l.length ∧ (∀ j (h : j < l.length), j < i → l[j].key ≠ k) ∧ Below w.heap.size w wr) (fun u _ => l.length - (intOf u).toNat)
  case atStart => exact ⟨0, rfl, Nat.zero_le _, fun j h hj => by omega, Below.refl _ _⟩
  case round =>
    obtain ⟨i, rfl, hi, hr, hb⟩ := hrel
    by_cases hlt : i < l.length
    · obtain ⟨b, o, rfl, hbl, ca⟩ := (hl.below hb) i hlt
      have hmm := Lib.hid (show ∀ x, l[i] = x → (x.key = k → getL l k = some x) ∧ (x.key ≠ k → ∀ j (h : j < l.length), j < i + 1 → l[j].key ≠ k) from fun x hx => by
        subst hx
        refine ⟨fun he => getL_some hlt hr he, fun hn j h hj => ?_⟩
        by_cases e : j = i
        · subst e; exact hn
        · exact hr j h (by omega))
      have hm2 := Lib.hid (hmm.out l[i] rfl)
      generalize l[i] = x at ca hm2
      have a0 : wr.cell? ⟨b, o + i * 3, none⟩ = some (.string x.key) := ca 0 _ rfl
      have a1 := ca 1 _ rfl
      have a2 := ca 2 _ rfl
      have hltI : (i : Int) < (l.length : Int) := by omega
      clear ca hmm hr
      by_cases hx : x.key = k
      · have hd : (x.key.toList == k.toList) = true := by rw [str_eq]; simpa using hx
        have hg := Lib.hid (hm2.out.1 hx)
        have hx2 := Lib.hid hx
        clear hx
        go_wp2_with fail
        go_ret2
        exact ⟨by rw [hg.out]; rfl, bl_alloc hb _⟩
      · have hd : (x.key.toList == k.toList) = false := by rw [str_eq]; simpa using hx
        have hg := Lib.hid (hm2.out.2 hx)
        clear hx
        go_wp2_with fail
        exact ⟨⟨i + 1, by go_num, by omega, hg.out, bl_alloc hb _⟩, by simp [intOf]; omega⟩
    · obtain rfl : i = l.length := by omega
      have hg := Lib.hid (getL_none (fun j h => hr j h h))
      clear hr
      go_wp2_with fail
      go_ret2
      exact ⟨by rw [hg.out]; rfl, hb⟩

set_option maxRecDepth 100000 in
set_option maxHeartbeats 2000000 in
theorem rget_any (A : Option Addr) (c : Nat) (l : List Pr) (k : ByteArray) (w : World) (hl : LAt w A 3 prL l) (hll : l.length ≤ 4611686018427387904) :
    Calls Try.prog 22 #[.slice A l.length c, .string k] w fun e w' => e = .returned (.tuple #[.string (gotV (getL l k)), .bool (getL l k).isSome]) ∧ Below w.heap.size w w' := by
  go_enter Try.func22, Try.ntmps22
  go_wp2_with fail
  go_loopw [6] (fun u wr => ∃ i : Nat, u = .int .i64 i ∧ i ≤ l.length ∧ (∀ j (h : j < l.length), j < i → l[j].key ≠ k) ∧ Below w.heap.size w wr) (fun u _ => l.length - (intOf u).toNat)
  case atStart => exact ⟨0, rfl, Nat.zero_le _, fun j h hj => by omega, Below.refl _ _⟩
  case round =>
    obtain ⟨i, rfl, hi, hr, hb⟩ := hrel
    by_cases hlt : i < l.length
    · obtain ⟨b, o, rfl, hbl, ca⟩ := (hl.below hb) i hlt
      have hmm := Lib.hid (show ∀ x, l[i] = x → (x.key = k → getL l k = some x) ∧ (x.key ≠ k → ∀ j (h : j < l.length), j < i + 1 → l[j].key ≠ k) from fun x hx => by
        subst hx
        refine ⟨fun he => getL_some hlt hr he, fun hn j h hj => ?_⟩
        by_cases e : j = i
        · subst e; exact hn
        · exact hr j h (by omega))
      have hm2 := Lib.hid (hmm.out l[i] rfl)
      generalize l[i] = x at ca hm2
      have a0 : wr.cell? ⟨b, o + i * 3, none⟩ = some (.string x.key) := ca 0 _ rfl
      have a1 := ca 1 _ rfl
      have a2 := ca 2 _ rfl
      have hltI : (i : Int) < (l.length : Int) := by omega
      clear ca hmm hr
      by_cases hx : x.key = k
      · have hd : (x.key.toList == k.toList) = true := by rw [str_eq]; simpa using hx
        have hg := Lib.hid (hm2.out.1 hx)
        have hx2 := Lib.hid hx
        clear hx
        go_wp2_with fail
        go_ret2
        exact ⟨by rw [hg.out]; rfl, hb⟩
      · have hd : (x.key.toList == k.toList) = false := by rw [str_eq]; simpa using hx
        have hg := Lib.hid (hm2.out.2 hx)
        clear hx
        go_wp2_with fail
        exact ⟨⟨i + 1, by go_num, by omega, hg.out, hb⟩, by simp [intOf]; omega⟩
    · obtain rfl : i = l.length := by omega
      have hg := Lib.hid (getL_none (fun j h => hr j h h))
      clear hr
      go_wp2_with fail
      go_ret2
      exact ⟨by rw [hg.out]; rfl, hb⟩
end Go.Proofs.Ytjokpjfmnjefdaa
