/- The document's may, table, without. -/
import Derived.Test.YtjokpjfmnjefdaaTb
import Derived.Test.YtjokpjfmnjefdaaVt
namespace Go.Proofs.Ytjokpjfmnjefdaa
open Go.RowKit Go.Shelf
attribute [local go_sem] Oper.semAt_some

theorem kept_own {w w' : World} {base : Nat} {e : TypeId} {size : Nat} {A : Option Addr} {n c : Nat} {xs : List Value} (h : w.ownsRow base e size (.slice A n c) n xs) (hb : Below w.heap.size w w') : w'.ownsRow base e size (.slice A n c) n xs := by
  obtain ⟨h1, ⟨e1, h0⟩ | ⟨g, cap, cur, e1, hg, hh, r⟩⟩ := h
  · exact ⟨h1, .inl ⟨e1, h0⟩⟩
  · exact ⟨h1, .inr ⟨g, cap, cur, e1, hg, by rw [hb.block g (Array.getElem?_eq_some_iff.1 hh).1]; exact hh, r⟩⟩

set_option maxRecDepth 100000 in
set_option maxHeartbeats 2000000 in
theorem without_any (A : Option Addr) (c : Nat) (l : List Pr) (k : ByteArray) (w : World) (hl : LAt w A 3 prL l) (hll : l.length ≤ 3518437208800) :
    Calls Try.prog 50 #[.slice A l.length c, .string k] w fun e w' => ∃ A' c', e = .returned (.slice A' (withoutL l k).length c') ∧ PRow w' w.heap.size A' c' (withoutL l k) ∧ Below w.heap.size w w' := by
  obtain ⟨i0, hi0, hz0, hz1, hz2⟩ := info_parts info65
  go_enter Try.func50, Try.ntmps50
  go_wp2_with fail
  go_loopw [5, 6] (fun v u wr => ∃ (i : Nat) (A1 : Option Addr) (c1 : Nat) (os : List Pr), i ≤ l.length ∧ os = withoutL (l.take i) k ∧ v = .slice A1 os.length c1 ∧ u = .int .i64 i ∧ wr.ownsRow w.heap.size 65 3 (.slice A1 os.length c1) os.length (os.flatMap prL) ∧ Below w.heap.size w wr) (fun _ u _ => l.length - (intOf u).toNat)
  case atStart => exact ⟨0, none, 0, [], Nat.zero_le _, rfl, rfl, rfl, World.ownsRow_nil _ _ _ _, Below.refl _ _⟩
  case round =>
    obtain ⟨i, A1, c1, os, hi, hos, rfl, rfl, hown, hb⟩ := hrel
    have hol : os.length ≤ i := by rw [hos]; exact Nat.le_trans (len_without _ _) (List.length_take_le _ _)
    replace hos := Lib.hid hos
    by_cases hlt : i < l.length
    · obtain ⟨b, o, rfl, hbw, _⟩ := hl i hlt
      obtain ⟨b', o', hA', hbl, ca⟩ := (hl.below hb) i hlt
      cases hA'
      have hmm := Lib.hid (show withoutL (l.take (i + 1)) k = withoutL (l.take i) k ++ (if l[i].key = k then [] else [l[i]]) by
        rw [List.take_succ_eq_append_getElem hlt, withoutL, List.filter_append]
        by_cases e : l[i].key = k <;> simp [e, withoutL])
      generalize l[i] = x at ca hmm
      have a0 : wr.cell? ⟨b, o + i * 3, none⟩ = some (.string x.key) := ca 0 _ rfl
      have a1 := ca 1 _ rfl
      have a2 := ca 2 _ rfl
      have hltI : (i : Int) < (l.length : Int) := by omega
      have hbs := hb.size
      clear ca hl
      by_cases hx : x.key = k
      · have hne : (x.key.toList == k.toList) = true := by rw [str_eq]; simp [hx]
        have hm2 := Lib.hid (show os = withoutL (l.take (i + 1)) k by rw [hmm.out, if_pos hx, List.append_nil, hos.out])
        clear hx
        go_wp2_with fail
        go_roundw
        case rel => exact ⟨i + 1, A1, c1, os, by omega, hm2.out, rfl, by go_num, hown, hb⟩
        case measure => simp [intOf]; omega
      · have hne : (x.key.toList == k.toList) = false := by rw [str_eq]; simp [hx]
        have hm2 := Lib.hid (show os ++ [x] = withoutL (l.take (i + 1)) k by rw [hmm.out, if_neg hx, hos.out])
        clear hx
        have hfl := Lib.hid (show (os ++ [x]).flatMap prL = os.flatMap prL ++ prL x by rw [List.flatMap_append]; simp)
        have hL1 : (os ++ [x]).length = os.length + 1 := by simp
        have hL1 := Lib.hid hL1
        go_wp2_with (at_builtin; refine wpList_append_srcT rfl _ _ 28 rfl w.heap.size 65 i0 _ 3 40 Try.underlying28 hi0 hz0 hz1 hz2 rfl (by omega) (.slice A1 os.length c1) os.length _ rfl (hown.alloc _) (some ⟨wr.heap.size, 0, none⟩) 1 1 (prL x) rfl (src_new wr (prL x) 65 1 3 rfl) (prL_one x) ?h63 ?hby ?hbase ?nxl; case' nxl => intro A2 c2 w2 hown2 hg2)
        case h63 => simp only [maxLen]; omega
        case hby => omega
        case hbase => simp; omega
        have hb2 := bl_own (bl_alloc hb _) (hown.alloc _) (Nat.le_refl _) hg2
        rw [← hfl.out] at hown2
        go_wp2_with fail
        go_roundw
        case rel => exact ⟨i + 1, A2, c2, os ++ [x], by omega, hm2.out, by rw [hL1.out], by go_num, by rw [hL1.out]; exact hown2, hb2⟩
        case measure => simp [intOf]; omega
    · obtain rfl : i = l.length := by omega
      go_wp2_with fail
      go_ret
      have h1 := hos.out
      rw [List.take_length] at h1
      subst h1
      exact ⟨A1, c1, rfl, PRow.of_own hown rfl, hb⟩

/-- Number j is right, and right behind the one ahead. -/
def GoodR (l : List Rw) (j : Nat) : Prop := ∀ (h : j < l.length), 0 ≤ l[j].off ∧ ∀ k (hk : j = k + 1), l[k].off < l[j].off
def GoodP (l : List Pr) (j : Nat) : Prop := ∀ (h : j < l.length), 0 ≤ l[j].off ∧ ∀ k (hk : j = k + 1), sb l[k].key l[j].key = true
theorem mayR_iff (l : List Rw) : MayR l ↔ ∀ j, GoodR l j := by
  constructor
  · rintro ⟨h1, h2⟩ j
    induction j with
    | zero =>
      intro h
      refine ⟨h2 l[0] ?_, fun k hk => by omega⟩
      rw [List.head?_eq_getElem?, List.getElem?_eq_getElem h]
    | succ j ih =>
      intro h
      have h3 := h1 j h
      have h4 := (ih (by omega)).1
      exact ⟨by omega, fun k hk => by obtain rfl : j = k := by omega
                                      exact h3⟩
  · intro h
    refine ⟨fun j hj => (h (j + 1) hj).2 j rfl, fun x hx => ?_⟩
    cases l with
    | nil => simp at hx
    | cons y r => simp at hx; subst hx; exact (h 0 (by simp)).1
theorem tabP_iff (l : List Pr) : TabP l ↔ ∀ j, GoodP l j := by
  constructor
  · rintro ⟨h1, h2⟩ j h
    refine ⟨h2 _ (List.getElem_mem h), fun k hk => ?_⟩
    subst hk
    exact h1 k h
  · intro h
    refine ⟨fun j hj => (h (j + 1) hj).2 j rfl, fun x hx => ?_⟩
    obtain ⟨i, hi, rfl⟩ := List.getElem_of_mem hx
    exact (h i hi).1

set_option maxRecDepth 100000 in
set_option maxHeartbeats 2000000 in
theorem rmay_any (A : Option Addr) (c : Nat) (l : List Rw) (w : World) (hl : LAt w A 6 rwL l) (hll : l.length ≤ 4611686018427387904) :
    Calls Try.prog 34 #[.slice A l.length c] w fun e w' => ∃ b : Bool, e = .returned (.bool b) ∧ (b = true ↔ MayR l) ∧ Below w.heap.size w w' := by
  go_enter Try.func34, Try.ntmps34
  go_wp2_with fail
  go_loopw [3] (fun u wr => ∃ i : Nat, i ≤ l.length ∧ u = .int .i64 i ∧ (∀ j, j < i → GoodR l j) ∧ Below w.heap.size w wr) (fun u _ => l.length - (intOf u).toNat)
  case atStart => exact ⟨0, Nat.zero_le _, rfl, fun _ h => absurd h (by omega), Below.refl _ _⟩
  case round =>
    obtain ⟨i, hi, rfl, h1, hb⟩ := hrel
    replace h1 := Lib.hid h1
    by_cases hlt : i < l.length
    · obtain ⟨b, o, rfl, hbl, ca⟩ := (hl.below hb) i hlt
      have a0 : wr.cell? ⟨b, o + i * 6, none⟩ = some (.int .i64 l[i].off) := ca 0 _ rfl
      have hltI : (i : Int) < (l.length : Int) := by omega
      have hBad : l[i].off < 0 → ¬ MayR l := fun h hM => by have := (((mayR_iff l).1 hM) i hlt).1; omega
      by_cases h0 : l[i].off < 0
      · replace hBad := Lib.hid (hBad h0)
        generalize l[i] = x at a0 h0
        have hd0 : decide (x.off < 0) = true := by simpa using h0
        clear ca hl
        go_wp2_with fail
        go_quiet (fail)
        go_wp2_with fail
        go_ret
        exact ⟨false, rfl, ⟨fun h => absurd h (by simp), fun h => absurd h hBad.out⟩, bl_drewN hb _⟩
      · clear hBad
        have hd0 : decide (l[i].off < 0) = false := by simpa using h0
        cases i with
        | zero =>
          have hN := Lib.hid (show ∀ j, j < 0 + 1 → GoodR l j from fun j hj => by
            obtain rfl : j = 0 := by omega
            exact fun _ => ⟨by omega, fun k hk => by omega⟩)
          generalize l[0] = x at a0 h0 hd0
          try simp only [Nat.zero_mul, Nat.add_zero] at a0
          clear ca hl
          go_wp2_with fail
          go_quiet (fail)
          go_wp2_with fail
          go_roundw
          case rel => exact ⟨0 + 1, by omega, by go_num, hN.out, bl_drewN hb _⟩
          case measure => simp [intOf]; omega
        | succ m =>
          obtain ⟨b', o', hA', _, cb⟩ := (hl.below hb) m (by omega)
          cases hA'
          have b0 : wr.cell? ⟨b, o + m * 6, none⟩ = some (.int .i64 (l[m]'(by omega)).off) := cb 0 _ rfl
          have hN : (l[m]'(by omega)).off < l[m + 1].off → ∀ j, j < m + 1 + 1 → GoodR l j := fun hh j hj => by
            by_cases e : j = m + 1
            · subst e; exact fun _ => ⟨by omega, fun k hk => by obtain rfl : m = k := by omega
                                                                exact hh⟩
            · exact h1.out j (by omega)
          have hB2 : ¬ (l[m]'(by omega)).off < l[m + 1].off → ¬ MayR l := fun hh hM => hh (((mayR_iff l).1 hM (m + 1) hlt).2 m rfl)
          by_cases hxy : (l[m]'(by omega)).off < l[m + 1].off
          · replace hN := Lib.hid (hN hxy)
            clear hB2
            generalize l[m + 1] = x at a0 h0 hd0 hxy
            generalize l[m]'(by omega) = y at b0 hxy
            have hd : decide (x.off ≤ y.off) = false := by simp; omega
            have hw1 : IntKind.i64.wrap ((m : Int) + 1 - 1) = m := by rw [IntKind.wrap_i64] <;> omega
            clear ca cb hl
            go_wp2_with fail
            go_quiet (fail)
            go_wp2_with fail
            go_roundw
            case rel => exact ⟨m + 1 + 1, by omega, by go_num, hN.out, bl_drewN hb _⟩
            case measure => simp [intOf]; omega
          · replace hB2 := Lib.hid (hB2 hxy)
            clear hN
            generalize l[m + 1] = x at a0 h0 hd0 hxy
            generalize l[m]'(by omega) = y at b0 hxy
            have hd : decide (x.off ≤ y.off) = true := by simp; omega
            have hw1 : IntKind.i64.wrap ((m : Int) + 1 - 1) = m := by rw [IntKind.wrap_i64] <;> omega
            clear ca cb hl
            go_wp2_with fail
            go_quiet (fail)
            go_wp2_with fail
            go_ret
            exact ⟨false, rfl, ⟨fun h => absurd h (by simp), fun h => absurd h hB2.out⟩, bl_drewN hb _⟩
    · have hR : MayR l := (mayR_iff l).2 fun j h => h1.out j (by omega) h
      go_wp2_with fail
      go_ret
      exact ⟨true, rfl, by simp [hR], hb⟩
set_option maxRecDepth 100000 in
set_option maxHeartbeats 2000000 in
theorem lmay_any (A : Option Addr) (c : Nat) (l : List Rw) (w : World) (hl : LAt w A 6 rwL l) (hll : l.length ≤ 4611686018427387904) :
    Calls Try.prog 26 #[.slice A l.length c] w fun e w' => ∃ b : Bool, e = .returned (.bool b) ∧ (b = true ↔ MayR l) ∧ Below w.heap.size w w' := by
  go_enter Try.func26, Try.ntmps26
  go_wp2_with fail
  go_loopw [3] (fun u wr => ∃ i : Nat, i ≤ l.length ∧ u = .int .i64 i ∧ (∀ j, j < i → GoodR l j) ∧ Below w.heap.size w wr) (fun u _ => l.length - (intOf u).toNat)
  case atStart => exact ⟨0, Nat.zero_le _, rfl, fun _ h => absurd h (by omega), Below.refl _ _⟩
  case round =>
    obtain ⟨i, hi, rfl, h1, hb⟩ := hrel
    replace h1 := Lib.hid h1
    by_cases hlt : i < l.length
    · obtain ⟨b, o, rfl, hbl, ca⟩ := (hl.below hb) i hlt
      have a0 : wr.cell? ⟨b, o + i * 6, none⟩ = some (.int .i64 l[i].off) := ca 0 _ rfl
      have hltI : (i : Int) < (l.length : Int) := by omega
      have hBad : l[i].off < 0 → ¬ MayR l := fun h hM => by have := (((mayR_iff l).1 hM) i hlt).1; omega
      by_cases h0 : l[i].off < 0
      · replace hBad := Lib.hid (hBad h0)
        generalize l[i] = x at a0 h0
        have hd0 : decide (x.off < 0) = true := by simpa using h0
        clear ca hl
        go_wp2_with fail
        go_quiet (fail)
        go_wp2_with fail
        go_ret
        exact ⟨false, rfl, ⟨fun h => absurd h (by simp), fun h => absurd h hBad.out⟩, bl_drewN hb _⟩
      · clear hBad
        have hd0 : decide (l[i].off < 0) = false := by simpa using h0
        cases i with
        | zero =>
          have hN := Lib.hid (show ∀ j, j < 0 + 1 → GoodR l j from fun j hj => by
            obtain rfl : j = 0 := by omega
            exact fun _ => ⟨by omega, fun k hk => by omega⟩)
          generalize l[0] = x at a0 h0 hd0
          try simp only [Nat.zero_mul, Nat.add_zero] at a0
          clear ca hl
          go_wp2_with fail
          go_quiet (fail)
          go_wp2_with fail
          go_roundw
          case rel => exact ⟨0 + 1, by omega, by go_num, hN.out, bl_drewN hb _⟩
          case measure => simp [intOf]; omega
        | succ m =>
          obtain ⟨b', o', hA', _, cb⟩ := (hl.below hb) m (by omega)
          cases hA'
          have b0 : wr.cell? ⟨b, o + m * 6, none⟩ = some (.int .i64 (l[m]'(by omega)).off) := cb 0 _ rfl
          have hN : (l[m]'(by omega)).off < l[m + 1].off → ∀ j, j < m + 1 + 1 → GoodR l j := fun hh j hj => by
            by_cases e : j = m + 1
            · subst e; exact fun _ => ⟨by omega, fun k hk => by obtain rfl : m = k := by omega
                                                                exact hh⟩
            · exact h1.out j (by omega)
          have hB2 : ¬ (l[m]'(by omega)).off < l[m + 1].off → ¬ MayR l := fun hh hM => hh (((mayR_iff l).1 hM (m + 1) hlt).2 m rfl)
          by_cases hxy : (l[m]'(by omega)).off < l[m + 1].off
          · replace hN := Lib.hid (hN hxy)
            clear hB2
            generalize l[m + 1] = x at a0 h0 hd0 hxy
            generalize l[m]'(by omega) = y at b0 hxy
            have hd : decide (x.off ≤ y.off) = false := by simp; omega
            have hw1 : IntKind.i64.wrap ((m : Int) + 1 - 1) = m := by rw [IntKind.wrap_i64] <;> omega
            clear ca cb hl
            go_wp2_with fail
            go_quiet (fail)
            go_wp2_with fail
            go_roundw
            case rel => exact ⟨m + 1 + 1, by omega, by go_num, hN.out, bl_drewN hb _⟩
            case measure => simp [intOf]; omega
          · replace hB2 := Lib.hid (hB2 hxy)
            clear hN
            generalize l[m + 1] = x at a0 h0 hd0 hxy
            generalize l[m]'(by omega) = y at b0 hxy
            have hd : decide (x.off ≤ y.off) = true := by simp; omega
            have hw1 : IntKind.i64.wrap ((m : Int) + 1 - 1) = m := by rw [IntKind.wrap_i64] <;> omega
            clear ca cb hl
            go_wp2_with fail
            go_quiet (fail)
            go_wp2_with fail
            go_ret
            exact ⟨false, rfl, ⟨fun h => absurd h (by simp), fun h => absurd h hB2.out⟩, bl_drewN hb _⟩
    · have hR : MayR l := (mayR_iff l).2 fun j h => h1.out j (by omega) h
      go_wp2_with fail
      go_ret
      exact ⟨true, rfl, by simp [hR], hb⟩
set_option maxRecDepth 100000 in
set_option maxHeartbeats 2000000 in
theorem rtable_any (A : Option Addr) (c : Nat) (l : List Pr) (w : World) (hl : LAt w A 3 prL l) (hll : l.length ≤ 4611686018427387904) :
    Calls Try.prog 38 #[.slice A l.length c] w fun e w' => ∃ b : Bool, e = .returned (.bool b) ∧ (b = true ↔ TabP l) ∧ Below w.heap.size w w' := by
  go_enter Try.func38, Try.ntmps38
  go_wp2_with fail
  go_loopw [3] (fun u wr => ∃ i : Nat, i ≤ l.length ∧ u = .int .i64 i ∧ (∀ j, j < i → GoodP l j) ∧ Below w.heap.size w wr) (fun u _ => l.length - (intOf u).toNat)
  case atStart => exact ⟨0, Nat.zero_le _, rfl, fun _ h => absurd h (by omega), Below.refl _ _⟩
  case round =>
    obtain ⟨i, hi, rfl, h1, hb⟩ := hrel
    replace h1 := Lib.hid h1
    by_cases hlt : i < l.length
    · obtain ⟨b, o, rfl, hbl, ca⟩ := (hl.below hb) i hlt
      have a0 : wr.cell? ⟨b, o + i * 3 + 2, none⟩ = some (.int .i64 l[i].off) := ca 2 _ rfl
      have hltI : (i : Int) < (l.length : Int) := by omega
      have hBad : l[i].off < 0 → ¬ TabP l := fun h hM => by have := (((tabP_iff l).1 hM) i hlt).1; omega
      by_cases h0 : l[i].off < 0
      · replace hBad := Lib.hid (hBad h0)
        generalize l[i] = x at a0 h0
        have hd0 : decide (x.off < 0) = true := by simpa using h0
        clear ca hl
        go_wp2_with fail
        go_quiet (fail)
        go_wp2_with fail
        go_ret
        exact ⟨false, rfl, ⟨fun h => absurd h (by simp), fun h => absurd h hBad.out⟩, bl_drewN hb _⟩
      · clear hBad
        have hd0 : decide (l[i].off < 0) = false := by simpa using h0
        cases i with
        | zero =>
          have hN := Lib.hid (show ∀ j, j < 0 + 1 → GoodP l j from fun j hj => by
            obtain rfl : j = 0 := by omega
            exact fun _ => ⟨by omega, fun k hk => by omega⟩)
          generalize l[0] = x at a0 h0 hd0
          try simp only [Nat.zero_mul, Nat.add_zero] at a0
          clear ca hl
          go_wp2_with fail
          go_quiet (fail)
          go_wp2_with fail
          go_roundw
          case rel => exact ⟨0 + 1, by omega, by go_num, hN.out, bl_drewN hb _⟩
          case measure => simp [intOf]; omega
        | succ m =>
          obtain ⟨b', o', hA', _, cb⟩ := (hl.below hb) m (by omega)
          cases hA'
          have a1 : wr.cell? ⟨b, o + (m + 1) * 3, none⟩ = some (.string l[m + 1].key) := ca 0 _ rfl
          have b0 : wr.cell? ⟨b, o + m * 3, none⟩ = some (.string (l[m]'(by omega)).key) := cb 0 _ rfl
          have hN : sb (l[m]'(by omega)).key l[m + 1].key = true → ∀ j, j < m + 1 + 1 → GoodP l j := fun hh j hj => by
            by_cases e : j = m + 1
            · subst e; exact fun _ => ⟨by omega, fun k hk => by obtain rfl : m = k := by omega
                                                                exact hh⟩
            · exact h1.out j (by omega)
          have hB2 : ¬ sb (l[m]'(by omega)).key l[m + 1].key = true → ¬ TabP l := fun hh hM => hh (((tabP_iff l).1 hM (m + 1) hlt).2 m rfl)
          by_cases hxy : sb (l[m]'(by omega)).key l[m + 1].key = true
          · replace hN := Lib.hid (hN hxy)
            clear hB2
            generalize l[m + 1] = x at a0 a1 h0 hd0 hxy
            generalize l[m]'(by omega) = y at b0 hxy
            have hd : Op.bytesLess x.key.toList y.key.toList = false := by rw [str_lt]; exact sb_asymm hxy
            have hd2 : (x.key.toList == y.key.toList) = false := by rw [str_eq]; simp; intro e; rw [e, sb_irrefl] at hxy; cases hxy
            clear hxy
            have hw1 : IntKind.i64.wrap ((m : Int) + 1 - 1) = m := by rw [IntKind.wrap_i64] <;> omega
            clear ca cb hl
            go_wp2_with fail
            go_quiet (fail)
            go_wp2_with fail
            go_roundw
            case rel => exact ⟨m + 1 + 1, by omega, by go_num, hN.out, bl_drewN hb _⟩
            case measure => simp [intOf]; omega
          · replace hB2 := Lib.hid (hB2 hxy)
            clear hN
            generalize l[m + 1] = x at a0 a1 h0 hd0 hxy
            generalize l[m]'(by omega) = y at b0 hxy
            have hd : (Op.bytesLess x.key.toList y.key.toList || x.key.toList == y.key.toList) = true := by rw [str_lt, str_eq]; exact le_true hxy
            clear hxy
            have hw1 : IntKind.i64.wrap ((m : Int) + 1 - 1) = m := by rw [IntKind.wrap_i64] <;> omega
            clear ca cb hl
            go_wp2_with fail
            go_quiet (fail)
            go_wp2_with fail
            go_ret
            exact ⟨false, rfl, ⟨fun h => absurd h (by simp), fun h => absurd h hB2.out⟩, bl_drewN hb _⟩
    · have hR : TabP l := (tabP_iff l).2 fun j h => h1.out j (by omega) h
      go_wp2_with fail
      go_ret
      exact ⟨true, rfl, by simp [hR], hb⟩
end Go.Proofs.Ytjokpjfmnjefdaa
