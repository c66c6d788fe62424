/- Advance, the program's and the document's; spoil. -/
import Derived.Test.YtjokpjfmnjefdaaRl
namespace Go.Proofs.Ytjokpjfmnjefdaa
open Go.RowKit Go.Shelf
attribute [local go_sem] Oper.semAt_some

/-- A pair is not older than the rows that come. -/
def Late (l : List Pr) (rs : List Rw) : Prop := ∃ r, rs.head? = some r ∧ ∃ p ∈ l, r.off ≤ p.off

set_option maxHeartbeats 400000 in
theorem adv_arg (A B : Option Addr) (c d : Nat) (l : List Pr) (rs : List Rw) (w : World) (hl : LAt w A 3 prL l) (hr : LAt w B 6 rwL rs) (hll : l.length ≤ 4611686018427387904) (hrl : rs.length ≤ 4611686018427387904) (h : ¬ (TabP l ∧ MayR rs)) :
    Calls Try.prog 23 #[.slice A l.length c, .slice B rs.length d] w fun e w' => e = .returned (.tuple #[.slice none 0 0, .int .i64 1]) ∧ Below w.heap.size w w' := by
  go_enter Try.func23, Try.ntmps23
  go_wp2_with fail
  refine (table_any A c l _ hl (by omega)).mono ?_
  rintro e w1 ⟨b1, rfl, hb1, hw1⟩
  cases b1 with
  | false =>
    clear hb1
    go_wp2_with fail
    go_ret2
    exact ⟨rfl, hw1⟩
  | true =>
    have tl := hb1.1 rfl
    clear hb1
    go_wp2_with fail
    refine (may_any B d rs _ (hr.below hw1) (by omega)).mono ?_
    rintro e w2 ⟨b2, rfl, hb2, hw2⟩
    obtain rfl : b2 = false := by cases b2 with | false => rfl | true => exact absurd ⟨tl, hb2.1 rfl⟩ h
    clear hb2
    go_wp2_with fail
    go_ret2
    exact ⟨rfl, bl_tr hw1 hw2⟩
set_option maxHeartbeats 400000 in
theorem radv_arg (A B : Option Addr) (c d : Nat) (l : List Pr) (rs : List Rw) (w : World) (hl : LAt w A 3 prL l) (hr : LAt w B 6 rwL rs) (hll : l.length ≤ 4611686018427387904) (hrl : rs.length ≤ 4611686018427387904) (h : ¬ (TabP l ∧ MayR rs)) :
    Calls Try.prog 24 #[.slice A l.length c, .slice B rs.length d] w fun e w' => e = .returned (.tuple #[.slice none 0 0, .int .i64 1]) ∧ Below w.heap.size w w' := by
  go_enter Try.func24, Try.ntmps24
  go_wp2_with fail
  refine (rtable_any A c l _ hl (by omega)).mono ?_
  rintro e w1 ⟨b1, rfl, hb1, hw1⟩
  cases b1 with
  | false =>
    clear hb1
    go_wp2_with fail
    go_ret2
    exact ⟨rfl, hw1⟩
  | true =>
    have tl := hb1.1 rfl
    clear hb1
    go_wp2_with fail
    refine (rmay_any B d rs _ (hr.below hw1) (by omega)).mono ?_
    rintro e w2 ⟨b2, rfl, hb2, hw2⟩
    obtain rfl : b2 = false := by cases b2 with | false => rfl | true => exact absurd ⟨tl, hb2.1 rfl⟩ h
    clear hb2
    go_wp2_with fail
    go_ret2
    exact ⟨rfl, bl_tr hw1 hw2⟩

theorem late_step {l : List Pr} {r : Rw} {t : List Rw} {i : Nat} (hi : i < l.length) (h1 : ∀ j (h : j < l.length), j < i → l[j].off < r.off) (h2 : l[i].off < r.off) : ∀ j (h : j < l.length), j < i + 1 → l[j].off < r.off := fun j h hj => by
  by_cases e : j = i
  · subst e; exact h2
  · exact h1 j h (by omega)
theorem late_not {l : List Pr} {r : Rw} {t : List Rw} (h1 : ∀ j (h : j < l.length), j < l.length → l[j].off < r.off) : ¬ Late l (r :: t) := by
  rintro ⟨r', e, p, hp, h⟩
  cases e
  obtain ⟨i, hi, rfl⟩ := List.getElem_of_mem hp
  have := h1 i hi hi
  omega

theorem tab_ris' {l : List Pr} (h : TabP l) : Ris l := (risP_iff l).1 h.1
/-- What Advance answers at a table and rows that may be. -/
def AdvPost (w : World) (l : List Pr) (rs : List Rw) (e : Ending) (w' : World) : Prop :=
  (Late l rs ∧ e = .returned (.tuple #[.slice none 0 0, .int .i64 51]) ∧ Below w.heap.size w w') ∨
  (¬ Late l rs ∧ ∃ A' c', e = .returned (.tuple #[.slice A' (onL l rs).length c', .int .i64 0]) ∧ PRow w' w.heap.size A' c' (onL l rs) ∧ Below w.heap.size w w')
def RAdvPost (w : World) (l : List Pr) (rs : List Rw) (e : Ending) (w' : World) : Prop :=
  (Late l rs ∧ e = .returned (.tuple #[.slice none 0 0, .int .i64 51]) ∧ Below w.heap.size w w') ∨
  (¬ Late l rs ∧ ∃ A' c', e = .returned (.tuple #[.slice A' (onL l rs).length c', .int .i64 0]) ∧ LAt w' A' 3 prL (onL l rs) ∧ Below w.heap.size w w')

set_option maxRecDepth 100000 in
set_option maxHeartbeats 2000000 in
theorem adv_any (A B : Option Addr) (c d : Nat) (l : List Pr) (rs : List Rw) (w : World) (hl : LAt w A 3 prL l) (hr : LAt w B 6 rwL rs) (hll : l.length + rs.length ≤ 3518437208800)
    (hkl : ∀ p ∈ l, p.key.size ≤ maxLen) (hkr : ∀ r ∈ rs, r.key.size ≤ maxLen) (tl : TabP l) (tm : MayR rs) :
    Calls Try.prog 23 #[.slice A l.length c, .slice B rs.length d] w (AdvPost w l rs) := by
  replace hkl := Lib.hid hkl
  replace hkr := Lib.hid hkr
  go_enter Try.func23, Try.ntmps23
  go_wp2_with fail
  refine (table_any A c l _ hl (by omega)).mono ?_
  rintro e w1 ⟨b1, rfl, hb1, hw1⟩
  obtain rfl : b1 = true := hb1.2 tl
  clear hb1
  go_wp2_with fail
  refine (may_any B d rs _ (hr.below hw1) (by omega)).mono ?_
  rintro e w2 ⟨b2, rfl, hb2, hw2⟩
  obtain rfl : b2 = true := hb2.2 tm
  clear hb2 tl tm
  have hw := bl_tr hw1 hw2
  replace hl := hl.below hw
  replace hr := hr.below hw
  clear hw1 hw2
  cases rs with
  | nil =>
    go_wp2_with fail
    go_loopw [18] (fun u wr => ∃ i : Nat, i ≤ l.length ∧ u = .int .i64 i ∧ Below w2.heap.size w2 wr) (fun u _ => l.length - (intOf u).toNat)
    case atStart => exact ⟨0, Nat.zero_le _, rfl, Below.refl _ _⟩
    case round =>
      obtain ⟨i, hi, rfl, hb⟩ := hrel
      by_cases hlt : i < l.length
      · obtain ⟨b, o, rfl, hbl, ca⟩ := (hl.below hb) i hlt
        generalize l[i] = x at ca
        have a0 : wr.cell? ⟨b, o + i * 3, none⟩ = some (.string x.key) := ca 0 _ rfl
        have a1 : wr.cell? ⟨b, o + i * 3 + 1, none⟩ = some (.string x.val) := ca 1 _ rfl
        have a2 : wr.cell? ⟨b, o + i * 3 + 2, none⟩ = some (.int .i64 x.off) := ca 2 _ rfl
        have hltI : (i : Int) < (l.length : Int) := by omega
        clear ca hl hr
        go_wp2_with fail
        go_quiet (fail)
        go_wp2_with fail
        go_roundw
        case rel => exact ⟨i + 1, by omega, by go_num, bl_drewN (bl_alloc hb _) _⟩
        case measure => simp [intOf]; omega
      · obtain rfl : i = l.length := by omega
        go_wp2_with fail
        refine (on_any A B c d l [] _ (hl.below hb) LAt.nil (by omega) hkl.out hkr.out).mono ?_
        rintro e w3 ⟨A', c', rfl, hP, hw3⟩
        go_wp2_with fail
        go_ret2
        exact .inr ⟨by rintro ⟨r, e, _⟩; simp at e, A', c', rfl, hP.mono (Nat.le_trans hw.size hb.size), bl_tr hw (bl_tr hb hw3)⟩
  | cons r t =>
    obtain ⟨b2, o2, rfl, hbl2, cr⟩ := hr 0 (by simp)
    have r0 : w2.cell? ⟨b2, o2, none⟩ = some (.int .i64 r.off) := by simpa using cr 0 _ rfl
    clear cr
    have hg : decide ((0 : Int) < ((t.length : Int) + 1)) = true := by simp
    go_wp2_with fail
    go_loopw [18] (fun u wr => ∃ i : Nat, i ≤ l.length ∧ u = .int .i64 i ∧ (∀ j (h : j < l.length), j < i → l[j].off < r.off) ∧ Below w2.heap.size w2 wr) (fun u _ => l.length - (intOf u).toNat)
    case atStart => exact ⟨0, Nat.zero_le _, rfl, fun _ _ h => absurd h (by omega), Below.refl _ _⟩
    case round =>
      obtain ⟨i, hi, rfl, hN, hb⟩ := hrel
      replace r0 : wr.cell? ⟨b2, o2, none⟩ = some (.int .i64 r.off) := (hb.cell (p := ⟨b2, o2, none⟩) hbl2).trans r0
      have hbs := hb.size
      have hb2w : b2 < wr.heap.size := by omega
      have hne2 : b2 ≠ wr.heap.size := by omega
      by_cases hlt : i < l.length
      · obtain ⟨b, o, rfl, hbl, ca⟩ := (hl.below hb) i hlt
        have hs := fun h => late_step (t := t) hlt hN h
        have hY : r.off ≤ l[i].off → Late l (r :: t) := fun h => ⟨r, rfl, l[i], List.getElem_mem _, h⟩
        replace hN := Lib.hid hN
        generalize l[i] = x at ca hs hY
        have a0 : wr.cell? ⟨b, o + i * 3, none⟩ = some (.string x.key) := ca 0 _ rfl
        have a1 : wr.cell? ⟨b, o + i * 3 + 1, none⟩ = some (.string x.val) := ca 1 _ rfl
        have a2 : wr.cell? ⟨b, o + i * 3 + 2, none⟩ = some (.int .i64 x.off) := ca 2 _ rfl
        have hltI : (i : Int) < (l.length : Int) := by omega
        clear ca hl hr
        by_cases hge : r.off ≤ x.off
        · replace hY := Lib.hid (hY hge)
          clear hs
          have hd : decide (r.off ≤ x.off) = true := by simpa using hge
          go_wp2_with fail
          go_quiet (fail)
          go_wp2_with fail
          go_ret2
          exact .inl ⟨hY.out, rfl, bl_tr hw (bl_drewN (bl_alloc hb _) _)⟩
        · replace hs := Lib.hid (hs (by omega))
          clear hY
          have hd : decide (r.off ≤ x.off) = false := by simpa using hge
          go_wp2_with fail
          go_quiet (fail)
          go_wp2_with fail
          go_roundw
          case rel => exact ⟨i + 1, by omega, by go_num, hs.out, bl_drewN (bl_alloc hb _) _⟩
          case measure => simp [intOf]; omega
      · obtain rfl : i = l.length := by omega
        have hL := Lib.hid (late_not (t := t) hN)
        clear hN
        go_wp2_with fail
        have hr' := hr.below hb
        have hon := on_any A (some ⟨b2, o2, none⟩) c d l (r :: t) wr (hl.below hb) hr' (by omega) hkl.out hkr.out
        simp only [List.length_cons] at hon
        refine hon.mono ?_
        rintro e w3 ⟨A', c', rfl, hP, hw3⟩
        go_wp2_with fail
        go_ret2
        exact .inr ⟨hL.out, A', c', rfl, hP.mono (Nat.le_trans hw.size hb.size), bl_tr hw (bl_tr hb hw3)⟩
set_option maxRecDepth 100000 in
set_option maxHeartbeats 2000000 in
theorem radv_any (A B : Option Addr) (c d : Nat) (l : List Pr) (rs : List Rw) (w : World) (hl : LAt w A 3 prL l) (hr : LAt w B 6 rwL rs) (hll : l.length + rs.length ≤ 3518437208800)
    (tl : TabP l) (tm : MayR rs) :
    Calls Try.prog 24 #[.slice A l.length c, .slice B rs.length d] w (RAdvPost w l rs) := by
  have hft := Lib.hid (fold_table (tab_ris' tl))
  go_enter Try.func24, Try.ntmps24
  go_wp2_with fail
  refine (rtable_any A c l _ hl (by omega)).mono ?_
  rintro e w1 ⟨b1, rfl, hb1, hw1⟩
  obtain rfl : b1 = true := hb1.2 tl
  clear hb1
  go_wp2_with fail
  refine (rmay_any B d rs _ (hr.below hw1) (by omega)).mono ?_
  rintro e w2 ⟨b2, rfl, hb2, hw2⟩
  obtain rfl : b2 = true := hb2.2 tm
  clear hb2 tl tm
  have hw := bl_tr hw1 hw2
  replace hl := hl.below hw
  replace hr := hr.below hw
  clear hw1 hw2
  cases rs with
  | nil =>
    go_wp2_with fail
    go_loopw [6] (fun u wr => u = .int .i64 0 ∧ wr = w2) (fun _ _ => 0)
    case atStart => exact ⟨rfl, rfl⟩
    case round =>
      obtain ⟨rfl, rfl⟩ := hrel
      have hon := ron_any A B c d l [] wr hl LAt.nil (by omega)
      have hol : onL l [] = l := hft.out
      replace hon : Calls Try.prog 35 #[.slice A l.length c, .slice B 0 d] wr fun e w' => ∃ A' c', e = .returned (.slice A' l.length c') ∧ LAt w' A' 3 prL l ∧ Below wr.heap.size wr w' := hon
      have hfin : ∀ (A' : Option Addr) (c' : Nat) (w3 : World), LAt w3 A' 3 prL l → Below wr.heap.size wr w3 → RAdvPost w l [] (.returned (.tuple #[.slice A' l.length c', .int .i64 0])) w3 := fun A' c' w3 h1 h2 =>
        .inr ⟨by rintro ⟨r, e, _⟩; simp at e, A', c', by rw [hol], by rw [hol]; exact h1, bl_tr hw h2⟩
      clear hol hft hr
      by_cases h0 : (0 : Int) < (l.length : Int)
      · have hd : decide ((0 : Int) < (l.length : Int)) = true := by simpa using h0
        go_wp2_with fail
        refine hon.mono ?_
        rintro e w3 ⟨A', c', rfl, hP, hw3⟩
        go_wp2_with fail
        go_ret2
        exact hfin A' c' w3 hP hw3
      · have hd : decide ((0 : Int) < (l.length : Int)) = false := by simpa using h0
        go_wp2_with fail
        refine hon.mono ?_
        rintro e w3 ⟨A', c', rfl, hP, hw3⟩
        go_wp2_with fail
        go_ret2
        exact hfin A' c' w3 hP hw3
  | cons r t =>
    obtain ⟨b2, o2, rfl, hbl2, cr⟩ := hr 0 (by simp)
    have r0 : w2.cell? ⟨b2, o2, none⟩ = some (.int .i64 r.off) := by simpa using cr 0 _ rfl
    clear cr
    have hg : decide ((0 : Int) < ((t.length : Int) + 1)) = true := by simp
    go_wp2_with fail
    go_loopw [6] (fun u wr => ∃ i : Nat, i ≤ l.length ∧ u = .int .i64 i ∧ (∀ j (h : j < l.length), j < i → l[j].off < r.off) ∧ Below w2.heap.size w2 wr) (fun u _ => l.length - (intOf u).toNat)
    case atStart => exact ⟨0, Nat.zero_le _, rfl, fun _ _ h => absurd h (by omega), Below.refl _ _⟩
    case round =>
      obtain ⟨i, hi, rfl, hN, hb⟩ := hrel
      replace r0 : wr.cell? ⟨b2, o2, none⟩ = some (.int .i64 r.off) := (hb.cell (p := ⟨b2, o2, none⟩) hbl2).trans r0
      have hbs := hb.size
      have hb2w : b2 < wr.heap.size := by omega
      have hne2 : b2 ≠ wr.heap.size := by omega
      by_cases hlt : i < l.length
      · obtain ⟨b, o, rfl, hbl, ca⟩ := (hl.below hb) i hlt
        have hs := fun h => late_step (t := t) hlt hN h
        have hY : r.off ≤ l[i].off → Late l (r :: t) := fun h => ⟨r, rfl, l[i], List.getElem_mem _, h⟩
        replace hN := Lib.hid hN
        generalize l[i] = x at ca hs hY
        have a0 : wr.cell? ⟨b, o + i * 3, none⟩ = some (.string x.key) := ca 0 _ rfl
        have a1 : wr.cell? ⟨b, o + i * 3 + 1, none⟩ = some (.string x.val) := ca 1 _ rfl
        have a2 : wr.cell? ⟨b, o + i * 3 + 2, none⟩ = some (.int .i64 x.off) := ca 2 _ rfl
        have hltI : (i : Int) < (l.length : Int) := by omega
        clear ca hl hr
        by_cases hge : r.off ≤ x.off
        · replace hY := Lib.hid (hY hge)
          clear hs
          have hd : decide (r.off ≤ x.off) = true := by simpa using hge
          go_wp2_with fail
          go_quiet (fail)
          go_wp2_with fail
          go_ret2
          exact .inl ⟨hY.out, rfl, bl_tr hw (bl_drewN hb _)⟩
        · replace hs := Lib.hid (hs (by omega))
          clear hY
          have hd : decide (r.off ≤ x.off) = false := by simpa using hge
          go_wp2_with fail
          go_quiet (fail)
          go_wp2_with fail
          go_roundw
          case rel => exact ⟨i + 1, by omega, by go_num, hs.out, bl_drewN hb _⟩
          case measure => simp [intOf]; omega
      · obtain rfl : i = l.length := by omega
        have hL := Lib.hid (late_not (t := t) hN)
        clear hN
        go_wp2_with fail
        have hr' := hr.below hb
        have hon := ron_any A (some ⟨b2, o2, none⟩) c d l (r :: t) wr (hl.below hb) hr' (by omega)
        have hol : (r :: t).foldl stepL l = onL l (r :: t) := by unfold onL; rw [hft.out]
        rw [hol] at hon
        clear hol hft
        simp only [List.length_cons] at hon
        refine hon.mono ?_
        rintro e w3 ⟨A', c', rfl, hP, hw3⟩
        go_wp2_with fail
        go_ret2
        exact .inr ⟨hL.out, A', c', rfl, hP, bl_tr hw (bl_tr hb hw3)⟩
end Go.Proofs.Ytjokpjfmnjefdaa
