/- assign.names (20): the members' names, rising; may they be? -/
import Derived.Test.YtbjjhnlifgbpmaaSo
import Derived.Test.YtbjjhnlifgbpmaaFx
import Derived.Test.YtbjjhnlifgbpmaaSt
import Derived.Test.YtbjjhnlifgbpmaaOx
namespace Go.Proofs.Ytbjjhnlifgbpmaa
open Go.RowKit Go.Shelf
attribute [local go_sem] Oper.semAt_some

/-- May name i be? -/
def goodN (l : List ByteArray) (i : Nat) : Bool := decide (1 ≤ (l.getD i default).size) && decide ((l.getD i default).size ≤ 64) && (decide (i = 0) || !decide (l.getD i default = l.getD (i - 1) default))
def goodTo (l : List ByteArray) : Nat → Bool
  | 0 => true
  | k + 1 => goodTo l k && goodN l k
/-- May names and parts be? -/
def okN (l : List ByteArray) (parts : Int) : Bool := decide (l.length ≤ 1000) && decide (0 ≤ parts) && decide (parts ≤ 32) && goodTo l l.length

theorem sizeS (s : ByteArray) : (s.size : Int) = s.size := rfl

set_option maxRecDepth 100000 in
set_option maxHeartbeats 4000000 in
theorem names_any (A : Option Addr) (c : Nat) (ml : List ByteArray) (parts : Int) (w : World) (hm : LAt w A 1 encS ml) (hl : ml.length * 16 ≤ 140737488351232) (S : List ByteArray) (hS : sortS ml = S) (hk : ∀ s ∈ S, s.size ≤ 140737488351232) :
    Calls Try.prog 20 #[.slice A ml.length c, .int .i64 parts] w fun e w' => ∃ A' c', e = .returned (.tuple #[.slice A' S.length c', .bool (okN S parts)]) ∧
      w'.ownsRow w.heap.size 9 1 (.slice A' S.length c') S.length (S.flatMap encS) ∧ Below w.heap.size w w' := by
  have hSl : S.length = ml.length := by rw [← hS]; exact sortS_len ml
  obtain ⟨b0, hb0⟩ : ∃ b0, (decide (S.length ≤ 1000) && decide (0 ≤ parts) && decide (parts ≤ 32)) = b0 := ⟨_, rfl⟩
  go_enter Try.func20, Try.ntmps20
  go_wp2_with fail
  refine (valuesS_any _ A ml.length c rfl w).mono ?_
  rintro e w1 ⟨rfl, rfl⟩
  go_wp2_with fail
  refine (sortedS_any w.heap.size A c ml _ (Blk.new' _ _ rfl) (hm.below (bl_alloc (Below.refl _ _) _)) hl).mono ?_
  rintro e w2 ⟨A2, c2, rfl, hrow, hb2⟩
  have hrow2 := ownsRow_le hrow (show w.heap.size ≤ _ from by simp; omega)
  have hb : Below w.heap.size w w2 := bl_tr (bl_alloc (Below.refl _ _) _) hb2
  rw [hS] at hrow2
  replace hS := Lib.hid hS
  rw [← hSl] at hrow2
  clear hrow hb2
  have hlat := LAt.of_own encS_len hrow2 rfl
  rw [← hSl]
  replace hSl := Lib.hid hSl
  go_upto_region 2 with fail
  go_cut [7] from 16 to 23 (fun v wx => v = .bool b0 ∧ wx = w2)
  case first =>
    replace hb0 := Lib.hid hb0
    go_wp2_with fail
    all_goals
      go_meet
      refine ⟨?_, rfl⟩
      rw [← hb0.out]
      simp_all
      try (intros; omega)
  case rest =>
    obtain ⟨rfl, rfl⟩ := hcut
    go_wp2_with fail
    go_loopw [7, 26] (fun v u wr => ∃ k : Nat, k ≤ S.length ∧ u = .int .i64 k ∧ v = .bool (b0 && goodTo S k) ∧ wr = wc) (fun _ u _ => S.length - (intOf u).toNat)
    case atStart => exact ⟨0, Nat.zero_le _, rfl, by simp [goodTo], rfl⟩
    case round =>
      obtain ⟨k, hkl, rfl, rfl, rfl⟩ := hrel
      by_cases hlt : k < S.length
      · obtain ⟨g, o, rfl, hg, hc⟩ := hlat k hlt
        have qk := hc 0 _ rfl
        simp only [Nat.mul_one, Nat.add_zero] at qk
        have hgk : S.getD k default = S[k] := getD_get _ _ hlt
        have hsz := hk S[k] (List.getElem_mem _)
        have hl' := hSl.out
        have hkb : k < 17592186043904 := by omega
        clear hl'
        have hGN := Lib.hid (show ∀ b : Bool, (b && goodTo S (k + 1)) = (b && goodTo S k && goodN S k) from fun b => by simp [goodTo, Bool.and_assoc])
        have hgn : goodN S k = (decide (1 ≤ S[k].size) && decide (S[k].size ≤ 64) && (decide (k = 0) || !decide (S[k] = S.getD (k - 1) default))) := by simp only [goodN, hgk]
        replace hgn := Lib.hid hgn
        generalize hx : S[k] = x at *
        clear hc hgk hx
        obtain ⟨bk, hbk⟩ : ∃ bk, (b0 && goodTo S k) = bk := ⟨_, rfl⟩
        rw [hbk]
        replace hbk := Lib.hid hbk
        cases k with
        | zero =>
          rw [Nat.add_zero] at qk
          cases bk <;> (
            go_wp2_with fail
            all_goals
              go_roundw
              case rel =>
                refine ⟨0 + 1, by omega, by go_num, ?_, trivial⟩
                rw [hGN.out, hbk.out, hgn.out]
                simp_all
                try omega
              case measure => simp [intOf]; omega)
        | succ k =>
          obtain ⟨g', o', e', _, hc'⟩ := hlat k (by omega)
          cases e'
          have qp := hc' 0 _ rfl
          simp only [Nat.mul_one, Nat.add_zero] at qp
          have hgp : S.getD (k + 1 - 1) default = S[k] := getD_get _ _ (by omega)
          rw [hgp] at hgn
          generalize hy : S[k] = y at *
          clear hc' hgp hy
          have hk0 : (0 : Int) ≤ (k : Int) := by omega
          have e4 := fun w => run_neq x y w
          have e5 := Lib.hid (str_eq x y)
          have e6 : (((k : Int) + 1) == 0) = false := by rw [beq_eq_false_iff_ne]; omega
          cases bk <;> (
            go_wp2_with fail
            all_goals
              go_roundw
              case rel =>
                refine ⟨k + 1 + 1, by omega, by go_num, ?_, trivial⟩
                rw [hGN.out, hbk.out, hgn.out]
                simp_all
                try omega
                try (have j1 : 1 ≤ x.size := by omega
                     have j2 : x.size ≤ 64 := by omega
                     rw [e5.out]
                     simp [j1, j2])
              case measure => simp [intOf]; omega)
      · obtain rfl : k = S.length := by omega
        have hOK : okN S parts = (b0 && goodTo S S.length) := by rw [← hb0]; rfl
        rw [← hOK]
        replace hOK := Lib.hid hOK
        go_wp2
        go_ret2
        exact ⟨A2, c2, rfl, hrow2, hb⟩
end Go.Proofs.Ytbjjhnlifgbpmaa
