/- batch.Check, batch.Len, batch.marker: what they answer, for every batch. -/
import Derived.Test.YtejjiiakficafaaRows
import Derived.Test.YtejjiiakficafaaBase
namespace Go.Proofs.Ytejjiiakficafaa
open Go.RowKit

def isM (k : Int) : Bool := k == 2 || k == 3
def q1 (k : Int) (m : Bool) : Bool := k != 1 && !m
def q2 (p ep s : Int) (t m : Bool) : Bool := p == -1 && (m || ep != 0 || s != 0 || t)
def q3 (p : Int) : Bool := p < -1 || 281474976710656 ≤ p
def q4 (ep s : Int) (t m : Bool) : Bool := ep < 0 || 2147483648 ≤ ep || (m && (s != 0 || t))
def q5 (m : Bool) (n : Nat) (wr : Bool) : Bool := (m != decide (n = 0)) || 64 < n || wr
def lenB (m : Bool) (n : Nat) : Int := if m then 1 else n
def q6 (s : Int) (m : Bool) (n : Nat) : Bool := s < 0 || 2147483648 - lenB m n < s

set_option maxHeartbeats 400000 in
theorem marker_any (k p e s : Int) (t : Bool) (r : Value) (w : World) :
    Calls Try.prog 51 #[.agg #[.int .i64 k, .int .i64 p, .int .i64 e, .int .i64 s, .bool t, r]] w fun e w' => e = .returned (.bool (isM k)) ∧ Below w.heap.size w w' := by
  go_enter Try.func51, Try.ntmps51
  go_wp2
  all_goals go_ret
  all_goals exact ⟨ret_bool (by simp_all [isM]), (Below.refl _ _).alloc (Nat.le_refl _) _⟩

set_option maxHeartbeats 400000 in
theorem c1_any (k p ep s : Int) (t m : Bool) (r : Value) (b1 b2 : Nat) (w : World) (hb : Blk w b1 [.int .i64 k, .int .i64 p, .int .i64 ep, .int .i64 s, .bool t, r]) (hm : Blk w b2 [.bool m]) :
    Calls Try.prog 56 #[.pointer (some ⟨b1, 0, none⟩), .pointer (some ⟨b2, 0, none⟩)] w fun e w' => e = .returned (.bool (q1 k m)) ∧ w = w' := by
  have q := hb.cell
  have q' := hm.cell
  go_enter Try.func56, Try.ntmps56
  go_wp2
  all_goals go_ret
  all_goals exact ⟨ret_bool (by simp_all [q1]), rfl⟩

set_option maxHeartbeats 400000 in
theorem c2_any (k p ep s : Int) (t m : Bool) (r : Value) (b1 b2 : Nat) (w : World) (hb : Blk w b1 [.int .i64 k, .int .i64 p, .int .i64 ep, .int .i64 s, .bool t, r]) (hm : Blk w b2 [.bool m]) :
    Calls Try.prog 57 #[.pointer (some ⟨b1, 0, none⟩), .pointer (some ⟨b2, 0, none⟩)] w fun e w' => e = .returned (.bool (q2 p ep s t m)) ∧ w = w' := by
  have q := hb.cell
  have q' := hm.cell
  go_enter Try.func57, Try.ntmps57
  go_wp2
  all_goals go_ret
  all_goals exact ⟨ret_bool (by simp_all [q2]), rfl⟩

set_option maxHeartbeats 400000 in
theorem c3_any (k p ep s : Int) (t : Bool) (r : Value) (b1 : Nat) (w : World) (hb : Blk w b1 [.int .i64 k, .int .i64 p, .int .i64 ep, .int .i64 s, .bool t, r]) :
    Calls Try.prog 58 #[.pointer (some ⟨b1, 0, none⟩)] w fun e w' => e = .returned (.bool (q3 p)) ∧ w = w' := by
  have q := hb.cell
  go_enter Try.func58, Try.ntmps58
  go_wp2
  all_goals go_ret
  all_goals exact ⟨ret_bool (by simp [q3] <;> omega), rfl⟩

set_option maxHeartbeats 400000 in
theorem c4_any (k p ep s : Int) (t m : Bool) (r : Value) (b1 b2 : Nat) (w : World) (hb : Blk w b1 [.int .i64 k, .int .i64 p, .int .i64 ep, .int .i64 s, .bool t, r]) (hm : Blk w b2 [.bool m]) :
    Calls Try.prog 59 #[.pointer (some ⟨b1, 0, none⟩), .pointer (some ⟨b2, 0, none⟩)] w fun e w' => e = .returned (.bool (q4 ep s t m)) ∧ w = w' := by
  have q := hb.cell
  have q' := hm.cell
  go_enter Try.func59, Try.ntmps59
  go_wp2
  all_goals go_ret
  all_goals exact ⟨ret_bool (by simp_all [q4] <;> omega), rfl⟩

set_option maxHeartbeats 400000 in
theorem c5_any (k p ep s : Int) (t m wr : Bool) (A : Option Addr) (n c : Nat) (b1 b2 b3 : Nat) (w : World)
   (hb1 : Blk w b1 [.bool m]) (hb2 : Blk w b2 [.int .i64 k, .int .i64 p, .int .i64 ep, .int .i64 s, .bool t, .slice A n c]) (hb3 : Blk w b3 [.bool wr]) :
    Calls Try.prog 60 #[.pointer (some ⟨b1, 0, none⟩), .pointer (some ⟨b2, 0, none⟩), .pointer (some ⟨b3, 0, none⟩)] w fun e w' => e = .returned (.bool (q5 m n wr)) ∧ w = w' := by
  have h1 := hb1.cell
  have h2 := hb2.cell
  have h3 := hb3.cell
  go_enter Try.func60, Try.ntmps60
  go_wp2
  · go_ret
    exact ⟨ret_bool (by have h : ¬ 64 < n := by omega
                        have h' : ¬ (64 : Int) < n := by omega
                        have h'' : ((n : Int) == 0) = decide (n = 0) := by cases n <;> simp <;> omega
                        have h3 : decide ((64 : Int) < n) = decide (64 < n) := decide_eq_decide.2 (by omega)
                        simp_all [q5]), rfl⟩
  · go_ret
    exact ⟨ret_bool (by have h : 64 < n := by omega
                        simp_all [q5]), rfl⟩
  · go_ret
    exact ⟨ret_bool (by have h : ¬ m = decide (n = 0) := by rename_i h; intro h'; apply h; rw [h']; cases n <;> simp <;> omega
                        simp_all [q5]), rfl⟩

set_option maxHeartbeats 400000 in
theorem c7_any (z : Int) (b1 : Nat) (w : World) (hb : Blk w b1 [.int .i64 z]) :
    Calls Try.prog 62 #[.pointer (some ⟨b1, 0, none⟩)] w fun e w' => e = .returned (.bool (decide (65536 < z))) ∧ w = w' := by
  have q := hb.cell
  go_enter Try.func62, Try.ntmps62
  go_wp2
  all_goals go_ret
  all_goals exact ⟨ret_bool (by simp), rfl⟩

set_option maxHeartbeats 400000 in
theorem len_any (k p e s : Int) (t : Bool) (A : Option Addr) (n c : Nat) (w : World) :
    Calls Try.prog 30 #[.agg #[.int .i64 k, .int .i64 p, .int .i64 e, .int .i64 s, .bool t, .slice A n c]] w fun e w' => e = .returned (.int .i64 (lenB (isM k) n)) ∧ Below w.heap.size w w' := by
  go_enter Try.func30, Try.ntmps30
  go_wp2_with (go_at_call 51; refine (marker_any _ _ _ _ _ _ _).mono ?_; rintro e w' ⟨rfl, hb⟩; obtain ⟨hc, hf⟩ := bcell hb)
  all_goals go_ret
  all_goals exact ⟨ret_int (by simp_all [lenB]), ((Below.refl _ _).alloc (Nat.le_refl _) _).trans (hb.mono (by simp))⟩




set_option maxHeartbeats 400000 in
theorem c6_any (k p ep s : Int) (t : Bool) (A : Option Addr) (n c : Nat) (b1 : Nat) (w : World) (hn : n ≤ 140737488351232) (hs : -9223372036854775808 ≤ s ∧ s ≤ 9223372036854775807)
   (hb1 : Blk w b1 [.int .i64 k, .int .i64 p, .int .i64 ep, .int .i64 s, .bool t, .slice A n c]) :
    Calls Try.prog 61 #[.pointer (some ⟨b1, 0, none⟩)] w fun e w' => e = .returned (.bool (q6 s (isM k) n)) ∧ Below w.heap.size w w' := by
  have h0 := hb1.cell
  by_cases hg : s < 0
  · have hg' : decide (s < 0) = true := by simpa using hg
    go_enter Try.func61, Try.ntmps61
    go_wp2_with fail
    go_quiet (fail)
    go_wp2
    go_ret
    exact ⟨ret_bool (by simp [q6, hg]), below_drewN (Below.refl _ _) _⟩
  · have hg' : decide (s < 0) = false := by simpa using hg
    have hlt0 := hb1.lt
    have hw : IntKind.i64.wrap (2147483648 - lenB (isM k) n) = 2147483648 - lenB (isM k) n := by
      apply IntWalk.i64_in <;> unfold lenB <;> split <;> omega
    go_enter Try.func61, Try.ntmps61
    go_wp2_with fail
    go_region_held3 (fun w' => (∀ b o, b < w.heap.size → w'.cell? ⟨b, o, none⟩ = w.cell? ⟨b, o, none⟩) ∧ Below w.heap.size w w')
      (first | exact keep_drew w | exact keep_step ‹_› ‹_›)
      ((first | (go_at_call 30; refine (len_any _ _ _ _ _ _ _ _ _).mono ?_; rintro e w' ⟨rfl, hb⟩)))
    go_wp2
    go_ret
    exact ⟨ret_bool (by simp [q6]; omega), by go_split_ands; assumption⟩
structure Rec where
  key : ByteArray
  val : ByteArray
  dead : Bool
deriving Inhabited

def Rec.bad (r : Rec) : Bool := decide ((1000 : Int) < r.key.size) || decide ((4000 : Int) < r.val.size) || (r.dead && !r.val.toList.isEmpty)
def szW : List Rec → Int → Int
  | [], z => z
  | r :: l, z => szW l (wrap64 (z + (5 + r.key.size + r.val.size)))
def anyBad (l : List Rec) : Bool := l.any Rec.bad

/-- From address A on w holds the records rs. -/
def RecsAt (w : World) (A : Option Addr) (rs : List Rec) : Prop :=
  rs.length ≤ 3518437208780 ∧ ∀ i (h : i < rs.length), ∃ b o, A = some ⟨b, o, none⟩ ∧ b < w.heap.size ∧
    w.cell? ⟨b, o + i * 3, none⟩ = some (.string rs[i].key) ∧ w.cell? ⟨b, o + i * 3 + 1, none⟩ = some (.string rs[i].val) ∧ w.cell? ⟨b, o + i * 3 + 2, none⟩ = some (.bool rs[i].dead)
      ∧ rs[i].key.size ≤ 140737488351232 ∧ rs[i].val.size ≤ 140737488351232
theorem RecsAt.below {w w' : World} {A : Option Addr} {rs : List Rec} (h : RecsAt w A rs) (hb : Below w.heap.size w w') : RecsAt w' A rs := by
  refine ⟨h.1, fun i hi => ?_⟩
  obtain ⟨b, o, hA, hlt, c1, c2, c3, c4⟩ := h.2 i hi
  exact ⟨b, o, hA, Nat.lt_of_lt_of_le hlt hb.size, (hb.cell (p := ⟨b, _, none⟩) hlt).trans c1, (hb.cell (p := ⟨b, _, none⟩) hlt).trans c2, (hb.cell (p := ⟨b, _, none⟩) hlt).trans c3, c4⟩

theorem szW_snoc (rs : List Rec) (k0 : Nat) (h : k0 < rs.length) (z : Int) : szW (rs.take (k0 + 1)) z = wrap64 (szW (rs.take k0) z + (5 + rs[k0].key.size + rs[k0].val.size)) := by
  induction rs generalizing k0 z with
  | nil => simp at h
  | cons r l ih =>
    cases k0 with
    | zero => simp [szW]
    | succ n =>
      simp only [List.take_succ_cons, szW, List.getElem_cons_succ]
      exact ih n (by simpa using h) _
theorem anyBad_snoc (rs : List Rec) (k0 : Nat) (h : k0 < rs.length) : anyBad (rs.take (k0 + 1)) = (anyBad (rs.take k0) || rs[k0].bad) := by
  unfold anyBad
  rw [List.take_succ_eq_append_getElem h, List.any_append]
  simp



def checkE (k p ep s : Int) (t : Bool) (rs : List Rec) : Int :=
  if q1 k (isM k) = true then 1 else if q2 p ep s t (isM k) = true then 1 else if q3 p = true then 1 else if q4 ep s t (isM k) = true then 1
  else if q5 (isM k) rs.length (anyBad rs) = true then 6 else if q6 s (isM k) rs.length = true then 53 else if 65536 < szW rs 18 then 6 else 0

theorem idx99_0 (x0 x1 x2 x3 x4 x5 x6 x7 x8 x9 x10 x11 x12 x13 : Value) (w : World) : (Instr.index 113 (.agg #[x0, x1, x2, x3, x4, x5, x6, x7, x8, x9, x10, x11, x12, x13]) (.int .i64 0)).run Try.prog w = .ok (.agg #[x0, x1]) w := by kernel_rfl
theorem idx99_1 (x0 x1 x2 x3 x4 x5 x6 x7 x8 x9 x10 x11 x12 x13 : Value) (w : World) : (Instr.index 113 (.agg #[x0, x1, x2, x3, x4, x5, x6, x7, x8, x9, x10, x11, x12, x13]) (.int .i64 1)).run Try.prog w = .ok (.agg #[x2, x3]) w := by kernel_rfl
theorem idx99_2 (x0 x1 x2 x3 x4 x5 x6 x7 x8 x9 x10 x11 x12 x13 : Value) (w : World) : (Instr.index 113 (.agg #[x0, x1, x2, x3, x4, x5, x6, x7, x8, x9, x10, x11, x12, x13]) (.int .i64 2)).run Try.prog w = .ok (.agg #[x4, x5]) w := by kernel_rfl
theorem idx99_3 (x0 x1 x2 x3 x4 x5 x6 x7 x8 x9 x10 x11 x12 x13 : Value) (w : World) : (Instr.index 113 (.agg #[x0, x1, x2, x3, x4, x5, x6, x7, x8, x9, x10, x11, x12, x13]) (.int .i64 3)).run Try.prog w = .ok (.agg #[x6, x7]) w := by kernel_rfl
theorem idx99_4 (x0 x1 x2 x3 x4 x5 x6 x7 x8 x9 x10 x11 x12 x13 : Value) (w : World) : (Instr.index 113 (.agg #[x0, x1, x2, x3, x4, x5, x6, x7, x8, x9, x10, x11, x12, x13]) (.int .i64 4)).run Try.prog w = .ok (.agg #[x8, x9]) w := by kernel_rfl
theorem idx99_5 (x0 x1 x2 x3 x4 x5 x6 x7 x8 x9 x10 x11 x12 x13 : Value) (w : World) : (Instr.index 113 (.agg #[x0, x1, x2, x3, x4, x5, x6, x7, x8, x9, x10, x11, x12, x13]) (.int .i64 5)).run Try.prog w = .ok (.agg #[x10, x11]) w := by kernel_rfl
theorem idx99_6 (x0 x1 x2 x3 x4 x5 x6 x7 x8 x9 x10 x11 x12 x13 : Value) (w : World) : (Instr.index 113 (.agg #[x0, x1, x2, x3, x4, x5, x6, x7, x8, x9, x10, x11, x12, x13]) (.int .i64 6)).run Try.prog w = .ok (.agg #[x12, x13]) w := by kernel_rfl
set_option maxRecDepth 100000 in
set_option maxHeartbeats 800000 in
theorem check_any (k p ep s : Int) (t : Bool) (rs : List Rec) (A : Option Addr) (c : Nat) (w : World) (hc : RecsAt w A rs)
   (hs : -9223372036854775808 ≤ s ∧ s ≤ 9223372036854775807) :
    Calls Try.prog 42 #[.agg #[.int .i64 k, .int .i64 p, .int .i64 ep, .int .i64 s, .bool t, .slice A rs.length c]] w fun e w' => e = .returned (.int .i64 (checkE k p ep s t rs)) ∧ Below w.heap.size w w' := by
  have hmf : ∀ (fn : Fn) (first cap : Array Value) (w : World), (Instr.makeFunc fn first cap).run Try.prog w = .ok (.func fn first cap) w := fun _ _ _ _ => rfl
  have hn := hc.1
  have HC := Lib.hid hc.2
  clear hc
  go_enter Try.func42, Try.ntmps42
  go_wp2_with fail
  go_loopw [14] (fun i wr => ∃ k0 : Nat, k0 ≤ rs.length ∧ i = .int .i64 k0 ∧ Blk wr w.heap.size [.int .i64 k, .int .i64 p, .int .i64 ep, .int .i64 s, .bool t, .slice A rs.length c]
      ∧ Blk wr (w.heap.size + 1) [.int .i64 (szW (rs.take k0) 18)] ∧ Blk wr (w.heap.size + 1 + 1) [.bool (anyBad (rs.take k0))] ∧ Below w.heap.size w wr) 
    (fun i _ => rs.length - (intOf i).toNat)
  case atStart => 
    exact ⟨0, by omega, rfl, ((Blk.new _ _ _).alloc _).alloc _, (Blk.new' _ _ (by simp)).alloc _, Blk.new' _ _ (by simp), (((Below.refl _ _).alloc (Nat.le_refl _) _).alloc (by simp) _).alloc (by simp; omega) _⟩
  case round =>
    obtain ⟨k0, hk0, rfl, hS0, hS1, hS2, hB⟩ := hrel
    have q0 := hS0.cell
    have q1 := hS1.cell
    have q2 := hS2.cell
    have f1 := hS1.unf
    have f2 := hS2.unf
    have z0 := hS0.lt
    have z1 := hS1.lt
    have z2 := hS2.lt
    by_cases hlt : k0 < rs.length
    · obtain ⟨b, o, rfl, hb, c1, c2, c3, c4, c5⟩ := HC.out k0 hlt
      have d1 := (hB.cell (p := ⟨b, o + k0 * 3, none⟩) hb).trans c1
      have d2 := (hB.cell (p := ⟨b, o + k0 * 3 + 1, none⟩) hb).trans c2
      have d3 := (hB.cell (p := ⟨b, o + k0 * 3 + 2, none⟩) hb).trans c3
      clear c1 c2 c3
      have HSN := Lib.hid (szW_snoc rs k0 hlt 18)
      have HBN := Lib.hid (anyBad_snoc rs k0 hlt)
      go_wp2_with fail
      all_goals
        go_roundw
        case rel =>
            refine ⟨k0 + 1, by omega, by go_num, ?_, ?_, ?_, ?_⟩
            · exact ((hS0.set_ne (by simp) _).set_ne (by simp; omega) _).alloc _
            · rw [HSN.out]
              exact ((hS1.set_same 0 _).set_ne (by simp) _).alloc _
            · rw [HBN.out]
              refine (blk_eq ((hS2.set_ne (by simp) _).set_same 0 _) ?_).alloc _
              simp_all [Rec.bad]
            · exact (((hB.setCell (by simp) _).setCell (by simp; omega) _).alloc (by simp; omega) _)
        case measure => simp [intOf]; omega
    · obtain rfl : k0 = rs.length := by omega
      rw [List.take_length] at *
      go_wp2_with (go_at_call 51; refine (marker_any _ _ _ _ _ _ _).mono ?_; rintro e w1 ⟨rfl, hb1⟩; have hT0 := hS0.below hb1 hS0.lt; have hT1 := hS1.below hb1 hS1.lt; have hT2 := hS2.below hb1 hS2.lt; have g0 := hT0.cell; have g1 := hT1.cell; have g2 := hT2.cell; have y2 := hT2.lt; have y1 := hT1.lt; have y0 := hT0.lt)
      have i0 := idx99_0
      have i1 := idx99_1
      have i2 := idx99_2
      have i3 := idx99_3
      have i4 := idx99_4
      have i5 := idx99_5
      have i6 := idx99_6
      have hBB := bl_tr hB hb1
      clear g0 g1 g2 q0 q1 q2 f1 f2 z0 z1 z2
      have hTm : Blk (w1.alloc (.cells #[.bool (isM k)] 4)) w1.heap.size [.bool (isM k)] := Blk.new _ _ _
      refine wp_loop_rounds 8 ?_
      repeat any_goals (rw [rounds_succ]; go_wp2_with (first
        | (go_at_call 56; refine (c1_any k p ep s t (isM k) (.slice A rs.length c) _ _ _ ?_ ?_).mono ?_; (repeat' (first | assumption | apply Blk.alloc | exact Blk.new' _ _ rfl)); (repeat' (first | assumption | apply Blk.alloc | exact Blk.new' _ _ rfl)); rintro e w2 ⟨rfl, rfl⟩)
        | (go_at_call 57; refine (c2_any k p ep s t (isM k) (.slice A rs.length c) _ _ _ ?_ ?_).mono ?_; (repeat' (first | assumption | apply Blk.alloc | exact Blk.new' _ _ rfl)); (repeat' (first | assumption | apply Blk.alloc | exact Blk.new' _ _ rfl)); rintro e w2 ⟨rfl, rfl⟩)
        | (go_at_call 58; refine (c3_any k p ep s t (.slice A rs.length c) _ _ ?_).mono ?_; (repeat' (first | assumption | apply Blk.alloc | exact Blk.new' _ _ rfl)); rintro e w2 ⟨rfl, rfl⟩)
        | (go_at_call 59; refine (c4_any k p ep s t (isM k) (.slice A rs.length c) _ _ _ ?_ ?_).mono ?_; (repeat' (first | assumption | apply Blk.alloc | exact Blk.new' _ _ rfl)); (repeat' (first | assumption | apply Blk.alloc | exact Blk.new' _ _ rfl)); rintro e w2 ⟨rfl, rfl⟩)
        | (go_at_call 60; refine (c5_any k p ep s t (isM k) (anyBad rs) A rs.length c _ _ _ _ ?_ ?_ ?_).mono ?_; (repeat' (first | assumption | apply Blk.alloc | exact Blk.new' _ _ rfl)); (repeat' (first | assumption | apply Blk.alloc | exact Blk.new' _ _ rfl)); (repeat' (first | assumption | apply Blk.alloc | exact Blk.new' _ _ rfl)); rintro e w2 ⟨rfl, rfl⟩)
        | (go_at_call 61; refine (c6_any k p ep s t A rs.length c _ _ (Nat.le_trans hn (by decide)) hs ?_).mono ?_; (repeat' (first | assumption | apply Blk.alloc | exact Blk.new' _ _ rfl)); rintro e w2 ⟨rfl, hb2⟩; obtain ⟨hc2, hf2⟩ := bcell hb2; have hU1 := Blk.below (b := w.heap.size + 1) (vs := [.int .i64 (szW rs 18)]) (by (repeat' (first | assumption | apply Blk.alloc | exact Blk.new' _ _ rfl))) hb2 (by simp; omega))
        | (go_at_call 62; refine (c7_any (szW rs 18) _ _ ?_).mono ?_; (repeat' (first | assumption | apply Blk.alloc | exact Blk.new' _ _ rfl)); rintro e w3 ⟨rfl, rfl⟩)))
      all_goals go_ret
      all_goals refine ⟨ret_int (by simp [checkE, *]), ?_⟩
      all_goals first
        | ((repeat' (first | assumption | apply bl_alloc)); done)
        | (refine bl_tr ?_ hb2; (repeat' (first | assumption | apply bl_alloc)); done)
        | (apply bl_alloc; refine bl_tr ?_ hb2; (repeat' (first | assumption | apply bl_alloc)); done)
end Go.Proofs.Ytejjiiakficafaa
