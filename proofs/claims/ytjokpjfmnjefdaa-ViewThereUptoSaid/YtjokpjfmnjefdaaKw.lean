/- view.Latest; view.Diff where it refuses; knows. -/
import Derived.Test.YtjokpjfmnjefdaaDf
namespace Go.Proofs.Ytjokpjfmnjefdaa
open Go.RowKit Go.Shelf
attribute [local go_sem] Oper.semAt_some

set_option maxHeartbeats 400000 in
theorem latest_yes (A : Option Addr) (c : Nat) (rs : List Rw) (w : World) (hr : LAt w A 6 rwL rs) (hrl : rs.length ≤ 2199023255500) (hkr : ∀ r ∈ rs, r.key.size ≤ maxLen) (hm : MayR rs) :
    Calls Try.prog 14 #[.slice A rs.length c] w fun e w' => ∃ A' c', e = .returned (.slice A' (onL [] rs).length c') ∧ PRow w' w.heap.size A' c' (onL [] rs) ∧ Below w.heap.size w w' := by
  replace hkr := Lib.hid hkr
  go_enter Try.func14, Try.ntmps14
  go_wp2_with fail
  refine (may_any A c rs w hr (by omega)).mono ?_
  rintro e w1 ⟨b, rfl, hb, hw1⟩
  obtain rfl : b = true := hb.2 hm
  clear hb hm
  go_wp2_with fail
  refine (on_any none A 0 c [] rs w1 LAt.nil (hr.below hw1) (by simp; omega) (by simp) hkr.out).mono ?_
  rintro e w2 ⟨A', c', rfl, h1, hw2⟩
  go_wp2_with fail
  go_ret
  exact ⟨A', c', rfl, h1.mono hw1.size, bl_tr hw1 hw2⟩
set_option maxHeartbeats 400000 in
theorem latest_no (A : Option Addr) (c : Nat) (rs : List Rw) (w : World) (hr : LAt w A 6 rwL rs) (hrl : rs.length ≤ 2199023255500) (hm : ¬ MayR rs) :
    Calls Try.prog 14 #[.slice A rs.length c] w fun e w' => e = .returned (.slice none 0 0) ∧ Below w.heap.size w w' := by
  go_enter Try.func14, Try.ntmps14
  go_wp2_with fail
  refine (may_any A c rs w hr (by omega)).mono ?_
  rintro e w1 ⟨b, rfl, hb, hw1⟩
  obtain rfl : b = false := by cases b with | false => rfl | true => exact absurd (hb.1 rfl) hm
  clear hb hm
  go_wp2_with fail
  go_ret
  exact ⟨rfl, hw1⟩

set_option maxHeartbeats 400000 in
theorem diff_bad (A B : Option Addr) (c d : Nat) (l m : List Pr) (w : World) (hl : LAt w A 3 prL l) (hm : LAt w B 3 prL m) (hll : l.length ≤ 4611686018427387904) (hml : m.length ≤ 4611686018427387904) (h : ¬ (TabP l ∧ TabP m)) :
    Calls Try.prog 17 #[.slice A l.length c, .slice B m.length d] w fun e w' => e = .returned (.tuple #[.slice none 0 0, .int .i64 1]) ∧ Below w.heap.size w w' := by
  go_enter Try.func17, Try.ntmps17
  go_wp2_with fail
  refine (table_any A c l _ hl (by omega)).mono ?_
  rintro e w1 ⟨b1, rfl, hb1, hw1⟩
  cases b1 with
  | false =>
    clear hb1
    go_wp2_with fail
    go_ret2
    exact ⟨rfl, hw1⟩
  | true =>
    have tl := hb1.1 rfl
    clear hb1
    go_wp2_with fail
    refine (table_any B d m _ (hm.below hw1) (by omega)).mono ?_
    rintro e w2 ⟨b2, rfl, hb2, hw2⟩
    obtain rfl : b2 = false := by cases b2 with | false => rfl | true => exact absurd ⟨tl, hb2.1 rfl⟩ h
    clear hb2
    go_wp2_with fail
    go_ret2
    exact ⟨rfl, bl_tr hw1 hw2⟩

def s1 (n : UInt8) : ByteArray := ⟨#[n]⟩
def kRows : List Rw := [⟨0, 0, false, s1 97, s1 49, false⟩, ⟨1, 0, false, s1 98, s1 50, false⟩, ⟨2, 0, false, s1 97, ⟨#[]⟩, true⟩]
theorem kRows_on : onL [] kRows = [⟨s1 98, s1 50, 1⟩] := by kernel_rfl
theorem LAt.of_blk {α : Type} {k : Nat} {enc : α → List Value} (hk : ∀ x, (enc x).length = k) {w : World} {b : Nat} {l : List α} (h : Blk w b (l.flatMap enc)) : LAt w (some ⟨b, 0, none⟩) k enc l := fun i hi =>
  ⟨b, 0, rfl, h.lt, fun j u hu => by rw [Nat.zero_add]; exact h.get ((flat_get hk l i hi j (by rw [← hk l[i]]; exact (List.getElem?_eq_some_iff.1 hu).1)).trans hu)⟩
theorem diffL_one (p : Pr) : diffL [p] [] = [⟨p.key, p.val, ⟨#[]⟩, true, false⟩] := by
  unfold diffL
  rw [mrg_l [p] [] (by simp) (by simp), mrg_end [p] [] (by simp) (by simp)]
  simp [dOne, dItem, chD]
set_option maxRecDepth 100000 in
set_option maxHeartbeats 1000000 in
theorem knows_any (w : World) : Calls Try.prog 16 #[] w fun e w' => e = .returned (.bool true) ∧ Below w.heap.size w w' := by
  go_enter Try.func16, Try.ntmps16
  go_wp2_with fail
  have hB := Blk.new w (kRows.flatMap rwL).toArray 70
  have hL : LAt (w.alloc (.cells (kRows.flatMap rwL).toArray 70)) (some ⟨w.heap.size, 0, none⟩) 6 rwL kRows := LAt.of_blk rwL_len (by simpa using hB)
  have hM : MayR kRows := ⟨fun j hj => by
    have : j = 0 ∨ j = 1 := by simp [kRows] at hj; omega
    rcases this with rfl | rfl <;> simp [kRows], fun x hx => by simp [kRows] at hx; subst hx; simp⟩
  have hk : ∀ r ∈ kRows, r.key.size ≤ maxLen := by
    intro r hr
    simp only [kRows, List.mem_cons, List.not_mem_nil, or_false] at hr
    rcases hr with rfl | rfl | rfl <;> simp [s1, maxLen, ByteArray.size]
  refine (latest_yes (some ⟨w.heap.size, 0, none⟩) 3 kRows _ hL (by simp [kRows]) hk hM).mono ?_
  rintro e w1 ⟨A', c', rfl, hP, hw1⟩
  rw [kRows_on] at hP ⊢
  have hw := bl_tr (bl_alloc (Below.refl w.heap.size w) (.cells (kRows.flatMap rwL).toArray 70)) hw1
  clear hB hL hM hk hw1
  have hR := hP.row
  have hT : TabP [⟨s1 98, s1 50, 1⟩] := ⟨fun j hj => by simp at hj, fun x hx => by simp at hx; subst hx; simp⟩
  have hT0 : TabP [] := ⟨fun j hj => by simp at hj, fun x hx => by simp at hx⟩
  have hd := diff_ok A' none c' 0 [⟨s1 98, s1 50, 1⟩] [] w1 hR LAt.nil hP.cap (Nat.le_refl _) (by simp) hT hT0
  rw [diffL_one] at hd
  obtain ⟨b, o, rfl, hbl, hc⟩ := hR 0 (by simp)
  go_wp2_with fail
  refine hd.mono ?_
  rintro e w2 ⟨A2, c2, rfl, hC, -, hw2⟩
  obtain ⟨b2, o2, rfl, hbl2, hc2⟩ := hC 0 (by simp)
  have a0 : w2.cell? ⟨b, o, none⟩ = some (.string ⟨#[98]⟩) := (hw2.cell (p := ⟨b, o, none⟩) hbl).trans (by simpa [s1] using hc 0 _ rfl)
  have a2 : w2.cell? ⟨b, o + 2, none⟩ = some (.int .i64 1) := (hw2.cell (p := ⟨b, o + 2, none⟩) hbl).trans (by simpa using hc 2 _ rfl)
  have d1 : w2.cell? ⟨b2, o2 + 1, none⟩ = some (.string ⟨#[50]⟩) := by simpa [s1] using hc2 1 _ rfl
  have d3 : w2.cell? ⟨b2, o2 + 3, none⟩ = some (.bool true) := by simpa using hc2 3 _ rfl
  have d4 : w2.cell? ⟨b2, o2 + 4, none⟩ = some (.bool false) := by simpa using hc2 4 _ rfl
  clear hd hc hc2 hC hR hP hT hT0
  go_wp2_with (go_at_call 20; refine (num_any _ _).mono ?_; rintro e w3 ⟨rfl, rfl⟩)
  go_ret
  exact ⟨rfl, bl_tr hw hw2⟩
end Go.Proofs.Ytjokpjfmnjefdaa
