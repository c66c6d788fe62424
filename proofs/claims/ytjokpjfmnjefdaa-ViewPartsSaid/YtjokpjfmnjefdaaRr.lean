/- Range, the program's and the document's. -/
import Derived.Test.YtjokpjfmnjefdaaRg
import Derived.Test.YtjokpjfmnjefdaaVt
namespace Go.Proofs.Ytjokpjfmnjefdaa
open Go.RowKit Go.Shelf
attribute [local go_sem] Oper.semAt_some

def badB (f t : ByteArray) : Bool := !decide (t = ⟨#[]⟩) && !(sb f t || decide (f = t))
theorem bad_cases (f t : ByteArray) : (decide (t = ⟨#[]⟩) = true ∧ badB f t = false) ∨ (decide (t = ⟨#[]⟩) = false ∧ (sb f t || decide (f = t)) = true ∧ badB f t = false) ∨ (decide (t = ⟨#[]⟩) = false ∧ (sb f t || decide (f = t)) = false ∧ badB f t = true) := by
  unfold badB
  cases decide (t = ⟨#[]⟩) <;> cases (sb f t || decide (f = t)) <;> simp

set_option maxRecDepth 100000 in
set_option maxHeartbeats 1000000 in
theorem range_bad (A : Option Addr) (c : Nat) (l : List Pr) (f t : ByteArray) (w : World) (hl : LAt w A 3 prL l) (hll : l.length ≤ 3518437208800) (h : ¬ (TabP l ∧ badB f t = false)) :
    Calls Try.prog 27 #[.slice A l.length c, .string f, .string t] w fun e w' => e = .returned (.tuple #[.slice none 0 0, .int .i64 1]) ∧ Below w.heap.size w w' := by
  have hB := fun o => bl_alloc (Below.refl w.heap.size w) o
  go_enter Try.func27, Try.ntmps27
  go_wp2_with fail
  generalize hV : (w.alloc (.cells #[.string f] 9)).alloc (.cells #[.string t] 9) = V
  have hVb : Below w.heap.size w V := by rw [← hV]; exact bl_alloc (bl_alloc (Below.refl _ _) _) _
  have hVf : Blk V w.heap.size [.string f] := by rw [← hV]; exact (Blk.new' _ _ rfl).alloc _
  have hVt : Blk V (w.heap.size + 1) [.string t] := by rw [← hV]; exact Blk.new' _ _ (by simp)
  clear hV hB
  refine (table_any A c l V (hl.below hVb) (by omega)).mono ?_
  rintro e w1 ⟨b, rfl, hb, hw1⟩
  have hw := bl_tr hVb hw1
  cases b with
  | false =>
    clear hb
    go_wp2_with fail
    go_ret2
    exact ⟨rfl, hw⟩
  | true =>
    have tl := hb.1 rfl
    have hbad : badB f t = true := by cases e : badB f t with | true => rfl | false => exact absurd ⟨tl, e⟩ h
    clear hb h
    have e3 := nil_eq t
    have e4 := str_lt f t
    have e5 := str_eq f t
    rcases bad_cases f t with ⟨_, h2⟩ | ⟨_, _, h2⟩ | ⟨h1, h2, _⟩
    · rw [hbad] at h2; cases h2
    · rw [hbad] at h2; cases h2
    · rw [h1] at e3
      have hgt : (Op.bytesLess f.toList t.toList || f.toList == t.toList) = false := by rw [e4, e5]; exact h2
      clear hbad h1 h2 e4 e5 tl
      have q0 := (hVf.below hw1 hVf.lt).get (j := 0) rfl
      have q1 := (hVt.below hw1 hVt.lt).get (j := 0) rfl
      go_wp2_with fail
      go_ret2
      exact ⟨rfl, hw⟩

set_option maxRecDepth 100000 in
set_option maxHeartbeats 1000000 in
theorem range_ok (A : Option Addr) (c : Nat) (l : List Pr) (f t : ByteArray) (w : World) (hl : LAt w A 3 prL l) (hll : l.length ≤ 3518437208800) (tl : TabP l) (hbad : badB f t = false) :
    Calls Try.prog 27 #[.slice A l.length c, .string f, .string t] w fun e w' => ∃ A' c', e = .returned (.tuple #[.slice A' (keptL f t l).length c', .int .i64 0]) ∧ PRow w' w.heap.size A' c' (keptL f t l) ∧ Below w.heap.size w w' := by
  have hmf : ∀ (fn : Fn) (first cap : Array Value) (w : World), (Instr.makeFunc fn first cap).run Try.prog w = .ok (.func fn first cap) w := fun _ _ _ _ => rfl
  go_enter Try.func27, Try.ntmps27
  go_wp2_with fail
  generalize hV : (w.alloc (.cells #[.string f] 9)).alloc (.cells #[.string t] 9) = V
  have hVb : Below w.heap.size w V := by rw [← hV]; exact bl_alloc (bl_alloc (Below.refl _ _) _) _
  have hVf : Blk V w.heap.size [.string f] := by rw [← hV]; exact (Blk.new' _ _ rfl).alloc _
  have hVt : Blk V (w.heap.size + 1) [.string t] := by rw [← hV]; exact Blk.new' _ _ (by simp)
  clear hV
  refine (table_any A c l V (hl.below hVb) (by omega)).mono ?_
  rintro e w1 ⟨b, rfl, hb, hw1⟩
  obtain rfl : b = true := hb.2 tl
  clear hb tl
  have hw := bl_tr hVb hw1
  have hf1 := hVf.below hw1 hVf.lt
  have ht1 := hVt.below hw1 hVt.lt
  have q0 := hf1.get (j := 0) rfl
  have q1 := ht1.get (j := 0) rfl
  have hlF := hf1.lt
  have hlT := ht1.lt
  have e3 := nil_eq t
  have e4 := str_lt f t
  have e5 := str_eq f t
  rcases bad_cases f t with ⟨h1, _⟩ | ⟨h1, h2, _⟩ | ⟨_, _, h2⟩
  · rw [h1] at e3
    clear h1 hbad e4 e5
    go_wp2_with fail
    refine (clone_any A c l w1 (hl.below hw) hll).mono ?_
    rintro e w2 ⟨A2, c2, rfl, hP2, hw2⟩
    go_wp2_with fail
    refine (delete_any A2 c2 w1.heap.size l f t w.heap.size (w.heap.size + 1) w2 hP2 (by omega) hw2.size (hf1.below hw2 hlF) (ht1.below hw2 hlT) hlF hlT).mono ?_
    rintro e w3 ⟨rfl, hP3, hw3⟩
    go_wp2_with fail
    go_ret2
    exact ⟨A2, c2, rfl, hP3.mono hw.size, bl_tr hw (hw2.trans hw3)⟩
  · rw [h1] at e3
    have hgt : (Op.bytesLess f.toList t.toList || f.toList == t.toList) = true := by rw [e4, e5]; exact h2
    clear h1 h2 hbad e4 e5
    go_wp2_with fail
    refine (clone_any A c l w1 (hl.below hw) hll).mono ?_
    rintro e w2 ⟨A2, c2, rfl, hP2, hw2⟩
    go_wp2_with fail
    refine (delete_any A2 c2 w1.heap.size l f t w.heap.size (w.heap.size + 1) w2 hP2 (by omega) hw2.size (hf1.below hw2 hlF) (ht1.below hw2 hlT) hlF hlT).mono ?_
    rintro e w3 ⟨rfl, hP3, hw3⟩
    go_wp2_with fail
    go_ret2
    exact ⟨A2, c2, rfl, hP3.mono hw.size, bl_tr hw (hw2.trans hw3)⟩
  · rw [hbad] at h2; cases h2
set_option maxRecDepth 100000 in
set_option maxHeartbeats 1000000 in
theorem rrange_bad (A : Option Addr) (c : Nat) (l : List Pr) (f t : ByteArray) (w : World) (hl : LAt w A 3 prL l) (hll : l.length ≤ 3518437208800) (h : ¬ (TabP l ∧ badB f t = false)) :
    Calls Try.prog 28 #[.slice A l.length c, .string f, .string t] w fun e w' => e = .returned (.tuple #[.slice none 0 0, .int .i64 1]) ∧ Below w.heap.size w w' := by
  go_enter Try.func28, Try.ntmps28
  go_wp2_with fail
  refine (rtable_any A c l w hl (by omega)).mono ?_
  rintro e w1 ⟨b, rfl, hb, hw⟩
  cases b with
  | false =>
    clear hb
    go_wp2_with fail
    go_ret2
    exact ⟨rfl, hw⟩
  | true =>
    have tl := hb.1 rfl
    have hbad : badB f t = true := by cases e : badB f t with | true => rfl | false => exact absurd ⟨tl, e⟩ h
    clear hb h
    have e3 := nil_eq t
    have e4 := str_lt f t
    have e5 := str_eq f t
    rcases bad_cases f t with ⟨_, h2⟩ | ⟨_, _, h2⟩ | ⟨h1, h2, _⟩
    · rw [hbad] at h2; cases h2
    · rw [hbad] at h2; cases h2
    · rw [h1] at e3
      have hgt : (Op.bytesLess f.toList t.toList || f.toList == t.toList) = false := by rw [e4, e5]; exact h2
      clear hbad h1 h2 e4 e5 tl
      go_wp2_with fail
      go_ret2
      exact ⟨rfl, hw⟩

set_option maxRecDepth 100000 in
set_option maxHeartbeats 4000000 in
theorem rrange_ok (A : Option Addr) (c : Nat) (l : List Pr) (f t : ByteArray) (w : World) (hl : LAt w A 3 prL l) (hll : l.length ≤ 3518437208800) (tl : TabP l) (hbad : badB f t = false) :
    Calls Try.prog 28 #[.slice A l.length c, .string f, .string t] w fun e w' => ∃ A' c', e = .returned (.tuple #[.slice A' (keptL f t l).length c', .int .i64 0]) ∧ LAt w' A' 3 prL (keptL f t l) ∧ Below w.heap.size w w' := by
  obtain ⟨i0, hi0, hz0, hz1, hz2⟩ := info_parts info65
  obtain ⟨R, hR⟩ : ∃ R, R = keptL f t l := ⟨_, rfl⟩
  rw [← hR]
  replace hR := Lib.hid hR
  go_enter Try.func28, Try.ntmps28
  go_wp2_with fail
  refine (rtable_any A c l w hl (by omega)).mono ?_
  rintro e w1 ⟨b, rfl, hb, hw⟩
  obtain rfl : b = true := hb.2 tl
  clear hb tl
  replace hl := hl.below hw
  have e3 := nil_eq t
  have e4 := str_lt f t
  have e5 := str_eq f t
  rcases bad_cases f t with ⟨h1, _⟩ | ⟨h1, h2, _⟩ | ⟨_, _, h2⟩
  · rw [h1] at e3
    clear hbad e4 e5
    go_wp2_with fail
    go_loopw [8, 9] (fun v u wr => ∃ (i : Nat) (A1 : Option Addr) (c1 : Nat) (os : List Pr), i ≤ l.length ∧ os = keptL f t (l.take i) ∧ v = .slice A1 os.length c1 ∧ u = .int .i64 i ∧ wr.ownsRow w1.heap.size 65 3 (.slice A1 os.length c1) os.length (os.flatMap prL) ∧ Below w1.heap.size w1 wr) (fun _ u _ => l.length - (intOf u).toNat)
    case atStart => exact ⟨0, none, 0, [], Nat.zero_le _, rfl, rfl, rfl, World.ownsRow_nil _ _ _ _, Below.refl _ _⟩
    case round =>
      obtain ⟨i, A1, c1, os, hi, hos, rfl, rfl, hown, hb⟩ := hrel
      have hol : os.length ≤ i := by rw [hos]; exact kept_le _ _ _
      replace hos := Lib.hid hos
      by_cases hlt : i < l.length
      · obtain ⟨b, o, rfl, hbw, _⟩ := hl i hlt
        obtain ⟨b', o', hA', hbl, ca⟩ := (hl.below hb) i hlt
        cases hA'
        have hmm := Lib.hid (show keptL f t (l.take (i + 1)) = os ++ (if outB f t l[i] then [] else [l[i]]) by unfold keptL; rw [filter_take_succ hlt, hos.out]; unfold keptL; cases outB f t l[i] <;> simp)
        have hout : outB f t l[i] = (sb l[i].key f || (!decide (t = ⟨#[]⟩) && !sb l[i].key t)) := rfl
        rw [h1] at hout
        generalize l[i] = x at ca hmm hout
        have a0 : wr.cell? ⟨b, o + i * 3, none⟩ = some (.string x.key) := ca 0 _ rfl
        have a1 : wr.cell? ⟨b, o + i * 3 + 1, none⟩ = some (.string x.val) := ca 1 _ rfl
        have a2 : wr.cell? ⟨b, o + i * 3 + 2, none⟩ = some (.int .i64 x.off) := ca 2 _ rfl
        have hltI : (i : Int) < (l.length : Int) := by omega
        have hbs := hb.size
        clear ca hl
        have f1 := str_lt x.key f
        have f2 := str_lt x.key t
        cases c1' : sb x.key f with
        | true =>
          rw [c1'] at hout f1
          have hout2 : outB f t x = true := by rw [hout]; rfl
          have H1 := c1'
          clear c1' f2 h1
          rw [hout2] at hmm
          have hm2 := Lib.hid (show os = keptL f t (l.take (i + 1)) by rw [hmm.out, if_pos rfl, List.append_nil])
          clear hout hout2 H1
          go_wp2_with fail
          go_roundw
          case rel => exact ⟨i + 1, A1, c1, os, by omega, hm2.out, rfl, by go_num, hown, hb⟩
          case measure => simp [intOf]; omega
        | false =>
          rw [c1'] at hout f1
          have hout2 : outB f t x = false := by rw [hout]; rfl
          have H1 := c1'
          clear c1' f2 h1
          rw [hout2] at hmm
          have hm2 := Lib.hid (show os ++ [x] = keptL f t (l.take (i + 1)) by rw [hmm.out, if_neg (by simp)])
          have hfl := Lib.hid (show (os ++ [x]).flatMap prL = os.flatMap prL ++ prL x by rw [List.flatMap_append]; simp)
          have hL1 := Lib.hid (show (os ++ [x]).length = os.length + 1 by simp)
          clear hout hout2 H1
          go_wp2_with (at_builtin; refine wpList_append_srcT rfl _ _ 28 rfl w1.heap.size 65 i0 _ 3 40 Try.underlying28 hi0 hz0 hz1 hz2 rfl (by omega) (.slice A1 os.length c1) os.length _ rfl (hown.alloc _) (some ⟨wr.heap.size, 0, none⟩) 1 1 (prL x) rfl (src_new wr (prL x) 65 1 3 rfl) (prL_one x) ?h63k1 ?hbyk1 ?hbasek1 ?nxlk1; case' nxlk1 => intro A2 c2 w2 hown2 hg2)
          case h63k1 => simp only [maxLen]; omega
          case hbyk1 => omega
          case hbasek1 => simp; omega
          have hb2 := bl_own (bl_alloc hb _) (hown.alloc _) (Nat.le_refl _) hg2
          rw [← hfl.out] at hown2
          go_wp2_with fail
          go_roundw
          case rel => exact ⟨i + 1, A2, c2, os ++ [x], by omega, hm2.out, by rw [hL1.out], by go_num, by rw [hL1.out]; exact hown2, hb2⟩
          case measure => simp [intOf]; omega
      · obtain rfl : i = l.length := by omega
        have h3 := hos.out
        rw [List.take_length, ← hR.out] at h3
        subst h3
        clear h1
        go_wp2_with fail
        go_ret2
        exact ⟨A1, c1, rfl, LAt.of_own prL_len hown rfl, bl_tr hw hb⟩
  · rw [h1] at e3
    have hgt : (Op.bytesLess f.toList t.toList || f.toList == t.toList) = true := by rw [e4, e5]; exact h2
    clear h2 hbad e4 e5
    go_wp2_with fail
    go_loopw [8, 9] (fun v u wr => ∃ (i : Nat) (A1 : Option Addr) (c1 : Nat) (os : List Pr), i ≤ l.length ∧ os = keptL f t (l.take i) ∧ v = .slice A1 os.length c1 ∧ u = .int .i64 i ∧ wr.ownsRow w1.heap.size 65 3 (.slice A1 os.length c1) os.length (os.flatMap prL) ∧ Below w1.heap.size w1 wr) (fun _ u _ => l.length - (intOf u).toNat)
    case atStart => exact ⟨0, none, 0, [], Nat.zero_le _, rfl, rfl, rfl, World.ownsRow_nil _ _ _ _, Below.refl _ _⟩
    case round =>
      obtain ⟨i, A1, c1, os, hi, hos, rfl, rfl, hown, hb⟩ := hrel
      have hol : os.length ≤ i := by rw [hos]; exact kept_le _ _ _
      replace hos := Lib.hid hos
      by_cases hlt : i < l.length
      · obtain ⟨b, o, rfl, hbw, _⟩ := hl i hlt
        obtain ⟨b', o', hA', hbl, ca⟩ := (hl.below hb) i hlt
        cases hA'
        have hmm := Lib.hid (show keptL f t (l.take (i + 1)) = os ++ (if outB f t l[i] then [] else [l[i]]) by unfold keptL; rw [filter_take_succ hlt, hos.out]; unfold keptL; cases outB f t l[i] <;> simp)
        have hout : outB f t l[i] = (sb l[i].key f || (!decide (t = ⟨#[]⟩) && !sb l[i].key t)) := rfl
        rw [h1] at hout
        generalize l[i] = x at ca hmm hout
        have a0 : wr.cell? ⟨b, o + i * 3, none⟩ = some (.string x.key) := ca 0 _ rfl
        have a1 : wr.cell? ⟨b, o + i * 3 + 1, none⟩ = some (.string x.val) := ca 1 _ rfl
        have a2 : wr.cell? ⟨b, o + i * 3 + 2, none⟩ = some (.int .i64 x.off) := ca 2 _ rfl
        have hltI : (i : Int) < (l.length : Int) := by omega
        have hbs := hb.size
        clear ca hl
        have f1 := str_lt x.key f
        have f2 := str_lt x.key t
        cases c1' : sb x.key f with
        | true =>
          rw [c1'] at hout f1
          have hout2 : outB f t x = true := by rw [hout]; rfl
          have H1 := c1'
          clear c1' f2 h1
          rw [hout2] at hmm
          have hm2 := Lib.hid (show os = keptL f t (l.take (i + 1)) by rw [hmm.out, if_pos rfl, List.append_nil])
          clear hout hout2 H1
          go_wp2_with fail
          go_roundw
          case rel => exact ⟨i + 1, A1, c1, os, by omega, hm2.out, rfl, by go_num, hown, hb⟩
          case measure => simp [intOf]; omega
        | false =>
          rw [c1'] at hout f1
          cases c2' : sb x.key t with
          | true =>
            rw [c2'] at hout f2
            have hout2 : outB f t x = false := by rw [hout]; rfl
            have H1 := c1'
            clear c1' c2' h1
            rw [hout2] at hmm
            have hm2 := Lib.hid (show os ++ [x] = keptL f t (l.take (i + 1)) by rw [hmm.out, if_neg (by simp)])
            have hfl := Lib.hid (show (os ++ [x]).flatMap prL = os.flatMap prL ++ prL x by rw [List.flatMap_append]; simp)
            have hL1 := Lib.hid (show (os ++ [x]).length = os.length + 1 by simp)
            clear hout hout2 H1
            go_wp2_with (at_builtin; refine wpList_append_srcT rfl _ _ 28 rfl w1.heap.size 65 i0 _ 3 40 Try.underlying28 hi0 hz0 hz1 hz2 rfl (by omega) (.slice A1 os.length c1) os.length _ rfl (hown.alloc _) (some ⟨wr.heap.size, 0, none⟩) 1 1 (prL x) rfl (src_new wr (prL x) 65 1 3 rfl) (prL_one x) ?h63k2 ?hbyk2 ?hbasek2 ?nxlk2; case' nxlk2 => intro A2 c2 w2 hown2 hg2)
            case h63k2 => simp only [maxLen]; omega
            case hbyk2 => omega
            case hbasek2 => simp; omega
            have hb2 := bl_own (bl_alloc hb _) (hown.alloc _) (Nat.le_refl _) hg2
            rw [← hfl.out] at hown2
            go_wp2_with fail
            go_roundw
            case rel => exact ⟨i + 1, A2, c2, os ++ [x], by omega, hm2.out, by rw [hL1.out], by go_num, by rw [hL1.out]; exact hown2, hb2⟩
            case measure => simp [intOf]; omega
          | false =>
            rw [c2'] at hout f2
            have hout2 : outB f t x = true := by rw [hout]; rfl
            have H1 := c1'
            clear c1' c2' h1
            rw [hout2] at hmm
            have hm2 := Lib.hid (show os = keptL f t (l.take (i + 1)) by rw [hmm.out, if_pos rfl, List.append_nil])
            clear hout hout2 H1
            go_wp2_with fail
            go_roundw
            case rel => exact ⟨i + 1, A1, c1, os, by omega, hm2.out, rfl, by go_num, hown, hb⟩
            case measure => simp [intOf]; omega
      · obtain rfl : i = l.length := by omega
        have h3 := hos.out
        rw [List.take_length, ← hR.out] at h3
        subst h3
        clear h1
        go_wp2_with fail
        go_ret2
        exact ⟨A1, c1, rfl, LAt.of_own prL_len hown rfl, bl_tr hw hb⟩
  · rw [hbad] at h2; cases h2
end Go.Proofs.Ytjokpjfmnjefdaa
