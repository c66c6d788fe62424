/- covers (16): where each partition has one owner and shares are fair, it says so. -/
import Derived.Test.YtbjjhnlifgbpmaaSk
import Derived.Test.YtbjjhnlifgbpmaaRa
namespace Go.Proofs.Ytbjjhnlifgbpmaa
open Go.RowKit Go.Shelf
attribute [local go_sem] Oper.semAt_some

theorem w64d {a b : Nat} (h1 : a ≤ 1000000000000) (h2 : b ≤ 1000000000000) : wrap64 ((a : Int) - (b : Int)) = (a : Int) - (b : Int) := by unfold wrap64; omega
/-- How often each partition was met. -/
def cntL (parts : Nat) (L : List Int) : List Int := (List.range parts).map fun (p : Nat) => ((L.count (p : Int) : Nat) : Int)
theorem cntL_len (parts : Nat) (L : List Int) : (cntL parts L).length = parts := by simp [cntL]
theorem cntL_get {parts : Nat} {L : List Int} {p : Nat} (hp : p < parts) : (cntL parts L)[p]? = some ((L.count (p : Int) : Nat) : Int) := by
  simp [cntL, hp]
theorem cntL_nil (parts : Nat) : cntL parts [] = List.replicate parts 0 := by
  apply List.ext_getElem <;> simp [cntL]
theorem cntL_put {parts : Nat} (L : List Int) {p : Nat} (hp : p < parts) : (cntL parts L).set p ((L.count (p : Int) : Nat) + 1) = cntL parts (L ++ [(p : Int)]) := by
  apply List.ext_getElem
  · simp [cntL]
  · intro j h1 h2
    have hj : j < parts := by simpa [cntL] using h1
    rw [List.getElem_set]
    simp only [cntL, List.getElem_map, List.getElem_range, List.count_append]
    by_cases e : p = j
    · subst e; simp
    · rw [if_neg e]
      have : List.count (j : Int) [(p : Int)] = 0 := by rw [List.count_eq_zero]; simp; omega
      omega

set_option maxRecDepth 100000 in
set_option maxHeartbeats 4000000 in
theorem covers_any (A : Option Addr) (c : Nat) (os : List Ou) (parts b : Nat) (w : World) (hs : ShAt w A os) (hol : os.length ≤ 1000) (hp32 : parts ≤ 32) (hb0 : b ≤ parts)
    (hr : ∀ i (h : i < os.length), (os[i].r.l.Pairwise (· < ·)) ∧ (∀ x ∈ os[i].r.l, 0 ≤ x ∧ x < (parts : Int)) ∧ b ≤ os[i].r.l.length ∧ os[i].r.l.length ≤ b + 1)
    (hone : ∀ p, p < parts → (os.flatMap (·.r.l)).count (p : Int) = 1) :
    Calls Try.prog 16 #[.slice A os.length c, .int .i64 parts] w fun e w' => e = .returned (.bool true) ∧ Below w.heap.size w w' := by
  have hmk : ∀ w : World, (Instr.makeSlice 37 (.int .i64 (parts : Int)) (.int .i64 (parts : Int))).run Try.prog w = .ok (.slice (some ⟨w.heap.size, 0, none⟩) parts parts) (w.alloc (.cells (madeCells #[.int .i64 0] (parts * 1)) 3)) := fun w => by
    obtain ⟨i0, hi0, hz0, hz1, hz2⟩ := info_parts infoI
    have := run_make (P := Try.prog) w 37 3 i0 _ Try.underlying37 hi0 hz0 .i64 .i64 (parts : Int) (parts : Int) (by omega) (by omega) (by rw [hz2]; omega) (by omega)
    rw [hz1] at this
    simpa only [Int.toNat_natCast, Value.cells] using this
  have hfl := made_flat encI_len (by omega) 0 #[.int .i64 0] rfl parts
  rw [Nat.mul_one, ← cntL_nil] at hfl
  have hfl := made_flat encI_len (by omega) 0 #[.int .i64 0] rfl parts
  rw [Nat.mul_one, ← cntL_nil] at hfl
  have hfl := made_flat encI_len (by omega) 0 #[.int .i64 0] rfl parts
  rw [Nat.mul_one, ← cntL_nil] at hfl
  have hfl := made_flat encI_len (by omega) 0 #[.int .i64 0] rfl parts
  rw [Nat.mul_one, ← cntL_nil] at hfl
  have hfl := made_flat encI_len (by omega) 0 #[.int .i64 0] rfl parts
  rw [Nat.mul_one, ← cntL_nil] at hfl
  have hfl := made_flat encI_len (by omega) 0 #[.int .i64 0] rfl parts
  rw [Nat.mul_one, ← cntL_nil] at hfl
  go_enter Try.func16, Try.ntmps16
  go_wp2_with fail
  have hO0 : Blk (w.alloc (.cells (madeCells #[.int .i64 0] parts) 3)) w.heap.size ((cntL parts []).flatMap encI) := blk_eq (Blk.new' _ _ rfl) hfl
  have hb0' := bl_alloc (Below.refl w.heap.size w) (.cells (madeCells #[.int .i64 0] parts) 3)
  generalize w.alloc (.cells (madeCells #[.int .i64 0] parts) 3) = w1 at *
  clear hmk hfl
  replace hr := Lib.hid hr
  go_loopw [6, 7, 8] (fun v6 v7 u wr => ∃ (i le mo : Nat), i ≤ os.length ∧ u = .int .i64 i ∧ v6 = .int .i64 le ∧ v7 = .int .i64 mo ∧ b ≤ le ∧ le ≤ 32 ∧ mo ≤ b + 1 ∧ Blk wr w.heap.size ((cntL parts ((os.take i).flatMap (·.r.l))).flatMap encI) ∧ Below w.heap.size w wr) (fun _ _ u _ => os.length - (intOf u).toNat)
  case atStart => exact ⟨0, parts, 0, Nat.zero_le _, rfl, rfl, rfl, hb0, hp32, Nat.zero_le _, hO0, hb0'⟩
  case round =>
    obtain ⟨i, le, mo, hi, rfl, rfl, rfl, hle, hle32, hmo, hO, hb⟩ := hrel
    by_cases hlt : i < os.length
    · obtain ⟨g, o, rfl, hg, hc⟩ := hs.1 i hlt
      have hsl := hs.2 os[i] (List.getElem_mem hlt)
      obtain ⟨hr1, hr2, hr3, hr4⟩ := hr.out i hlt
      have htk := Lib.hid (show (os.take (i + 1)).flatMap (·.r.l) = (os.take i).flatMap (·.r.l) ++ os[i].r.l by rw [List.take_succ_eq_append_getElem hlt, List.flatMap_append]; simp)
      generalize os[i] = ou at *
      obtain ⟨m0, Ao, co, lo⟩ := ou
      simp only at hr1 hr2 hr3 hr4 htk hsl
      have q1 := hc 1 _ rfl
      simp only [Rw3.v] at q1
      rw [← (show ∀ W, Below w.heap.size w W → W.cell? ⟨g, o + i * 2 + 1, none⟩ = w.cell? ⟨g, o + i * 2 + 1, none⟩ from fun W h => h.cell (p := ⟨g, _, none⟩) hg) wr hb] at q1
      have hi0 : (0 : Int) ≤ (i : Int) := by omega
      have hilt : (i : Int) < (os.length : Int) := by omega
      obtain ⟨n0, hn0⟩ : ∃ n0, lo.length = n0 := ⟨_, rfl⟩
      rw [hn0] at q1 hr3 hr4
      clear hc hs
      go_wp2_with fail
      have q1w : w.cell? ⟨g, o + i * 2 + 1, none⟩ = some (.slice Ao n0 co) := (hb.cell (p := ⟨g, _, none⟩) hg).symm.trans q1
      obtain ⟨L0, hL0⟩ : ∃ L0, (os.take i).flatMap (·.r.l) = L0 := ⟨_, rfl⟩
      rw [hL0] at hO htk
      clear hL0 q1
      replace hsl := Lib.hid hsl
      replace hr1 := Lib.hid hr1
      replace hr2 := Lib.hid hr2
      replace q1w := Lib.hid q1w
      replace hone := Lib.hid hone
      go_loopw [9] (fun u wi => ∃ k : Nat, k ≤ n0 ∧ u = .int .i64 k ∧ Blk wi w.heap.size ((cntL parts (L0 ++ lo.take k)).flatMap encI) ∧ Below w.heap.size w wi) (fun u _ => n0 - (intOf u).toNat)
      case atStart => exact ⟨0, Nat.zero_le _, rfl, by simpa using hO, hb⟩
      case round =>
        clear hO hb hO0 hb0'
        obtain ⟨k, hkn, rfl, hO, hb⟩ := hrel
        have q1 := (hb.cell (p := ⟨g, o + i * 2 + 1, none⟩) hg).trans q1w.out
        by_cases hkl : k < n0
        · have hklo : k < lo.length := by omega
          obtain ⟨gp, op, rfl, hgp, hcp⟩ := (hsl.out) k hklo
          have qp0 := hcp 0 _ rfl
          simp only [Nat.mul_one, Nat.add_zero] at qp0
          have hx := hr2.out lo[k] (List.getElem_mem _)
          have hxe : ∃ pn : Nat, lo[k] = (pn : Int) ∧ pn < parts := ⟨lo[k].toNat, by omega, by omega⟩
          obtain ⟨pn, hpn, hpp⟩ := hxe
          rw [hpn] at qp0
          have qp := (hb.cell (p := ⟨gp, op + k, none⟩) hgp).trans qp0
          have htk1 : lo.take (k + 1) = lo.take k ++ [(pn : Int)] := by rw [List.take_succ_eq_append_getElem hklo, hpn]
          have hput := cntL_put (L0 ++ lo.take k) hpp
          rw [List.append_assoc, ← htk1] at hput
          replace hput := Lib.hid hput
          have qc : wr.cell? ⟨w.heap.size, pn, none⟩ = some (.int .i64 ((List.count (pn : Int) (L0 ++ lo.take k) : Nat) : Int)) := by
            rw [hO.cell pn, encI_map, List.getElem?_map, cntL_get hpp]; rfl
          have uc := hO.unf pn
          obtain ⟨cn, hcn⟩ : ∃ cn, List.count (pn : Int) (L0 ++ lo.take k) = cn := ⟨_, rfl⟩
          rw [hcn] at hput qc
          have hcn32 : cn ≤ 1 := by
            rw [← hcn, ← hone.out pn hpp]
            refine Nat.le_trans (List.Sublist.count_le _ (List.Sublist.append (List.Sublist.refl L0) (List.take_sublist k lo))) ?_
            rw [← htk.out]
            conv => rhs; rw [← List.take_append_drop (i + 1) os]
            rw [List.flatMap_append, List.count_append]
            omega
          replace hcn := Lib.hid hcn
          have hp0 : decide ((pn : Int) < 0) = false := by simp
          have hp1 : decide ((parts : Int) ≤ (pn : Int)) = false := by simp; omega
          have hk0 : (0 : Int) ≤ (k : Int) := by omega
          have hp0I : (0 : Int) ≤ (pn : Int) := by omega
          have hppI : (pn : Int) < (parts : Int) := by omega
          have hkI : (k : Int) < (n0 : Int) := by omega
          clear hx hcp qp0 htk1
          by_cases hkz : 0 < k
          · obtain ⟨m, hmi⟩ : ∃ m, m + 1 = k := ⟨k - 1, by omega⟩
            obtain ⟨gp', op', e', _, hcp'⟩ := (hsl.out) m (by omega)
            cases e'
            have qm0 := hcp' 0 _ rfl
            simp only [Nat.mul_one, Nat.add_zero] at qm0
            have hlt2 := List.pairwise_iff_getElem.1 hr1.out m k (by omega) hklo (by omega)
            rw [hpn] at hlt2
            generalize lo[m] = pm at *
            have qm := (hb.cell (p := ⟨gp, op + m, none⟩) hgp).trans qm0
            have hlem : decide ((pn : Int) ≤ pm) = false := by simp; omega
            have hkz' : decide ((0 : Int) < (k : Int)) = true := by simp; omega
            have hw1 : IntKind.i64.wrap ((k : Int) - 1) = m := by rw [IntKind.wrap_i64]; omega
            have hw2 : wrap64 ((k : Int) - 1) = m := (IntWalk.i64_left _).symm.trans hw1
            have hm0 : (0 : Int) ≤ (m : Int) := by omega
            have hmn : (m : Int) < (n0 : Int) := by omega
            clear hcp' qm0 hlt2
            go_wp2_with fail
            refine ⟨⟨k + 1, by omega, by go_num, blk_eq (hO.set_same pn _) ?_, bl_set'' hb (Nat.le_refl _) _⟩, by simp [intOf]; omega⟩
            rw [← hput.out, encI_map, encI_map, List.map_set]
          · have hkz' : decide ((0 : Int) < (k : Int)) = false := by simp; omega
            go_wp2_with fail
            refine ⟨⟨k + 1, by omega, by go_num, blk_eq (hO.set_same pn _) ?_, bl_set'' hb (Nat.le_refl _) _⟩, by simp [intOf]; omega⟩
            rw [← hput.out, encI_map, encI_map, List.map_set]
        · obtain rfl : k = n0 := by omega
          rw [← hn0, List.take_length, ← htk.out] at hO
          go_wp2_with fail
          refine ⟨⟨i + 1, min le k, max mo k, by omega, by go_num, by rw [show ((min le k : Nat) : Int) = min (le : Int) k from by omega], by rw [show ((max mo k : Nat) : Int) = max (mo : Int) k from by omega], by omega, by omega, by omega, hO, hb⟩, by simp [intOf]; omega⟩
    · obtain rfl : i = os.length := by omega
      rw [List.take_length] at hO
      have qO : ∀ p, p < parts → wr.cell? ⟨w.heap.size, p, none⟩ = some (.int .i64 1) := fun p hp => by
        rw [hO.cell p, encI_map, List.getElem?_map, cntL_get hp, hone p hp]; rfl
      clear hO hO0 hs hone hr hol
      replace qO := Lib.hid qO
      go_wp2_with fail
      go_loopw [11] (fun u wi => ∃ k : Nat, k ≤ parts ∧ u = .int .i64 k ∧ wi = wr) (fun u _ => parts - (intOf u).toNat)
      case atStart => exact ⟨0, Nat.zero_le _, rfl, rfl⟩
      case round =>
        obtain ⟨k, hkp, rfl, rfl⟩ := hrel
        by_cases hkl : k < parts
        · have q1 := qO.out k hkl
          have hk0 : (0 : Int) ≤ (k : Int) := by omega
          have hkI : (k : Int) < (parts : Int) := by omega
          go_wp2_with fail
          refine ⟨⟨k + 1, by omega, by go_num, trivial⟩, by simp [intOf]; omega⟩
        · obtain rfl : k = parts := by omega
          have hle1 : decide ((mo : Int) - (le : Int) ≤ 1) = true := by simp; omega
          have hsub : wrap64 ((mo : Int) - (le : Int)) = (mo : Int) - (le : Int) := w64d (by omega) (by omega)
          go_wp2_with fail
          go_ret
          exact ⟨rfl, hb⟩
end Go.Proofs.Ytbjjhnlifgbpmaa
