/- wire.table (51), wire.Crc (40). -/
import Derived.Test.YtbjjhnlifgbpmaaCs
namespace Go.Proofs.Ytbjjhnlifgbpmaa
open Go.RowKit Go.Shelf
attribute [local go_sem] Oper.semAt_some

/-- The table, its first i places filled. -/
def tabL (i : Nat) : List Value := (List.range 256).map fun (j : Nat) => .int .u32 ((if j < i then stepN 8 j else 0 : Nat) : Int)
theorem tabL_len (i : Nat) : (tabL i).length = 256 := by simp [tabL]
theorem tabL_put {i : Nat} (hi : i < 256) : (tabL i).set i (.int .u32 ((stepN 8 i : Nat) : Int)) = tabL (i + 1) := by
  apply List.ext_getElem
  · simp [tabL]
  · intro j h1 h2
    have hj : j < 256 := by simpa [tabL] using h1
    rw [List.getElem_set]
    simp only [tabL, List.getElem_map, List.getElem_range]
    by_cases e : i = j
    · subst e; simp
    · rw [if_neg e]
      by_cases h : j < i
      · rw [if_pos h, if_pos (by omega)]
      · rw [if_neg h, if_neg (by omega)]
theorem tabL_get {j : Nat} (hj : j < 256) : (tabL 256)[j]? = some (.int .u32 ((stepN 8 j : Nat) : Int)) := by
  simp [tabL, hj]
theorem tabL_one (i : Nat) : ∀ v ∈ tabL i, v.oneCell' = true := by
  intro v hv
  obtain ⟨j, _, rfl⟩ := List.mem_map.1 hv
  rfl
theorem zeroV89 (w : World) : (zeroValue 89).run Try.prog w = .ok (.agg (tabL 0).toArray) w := by
  have h : (Try.prog.info? 89).map (·.zero) = some (some (.agg (tabL 0).toArray)) := by kernel_rfl
  obtain ⟨i, hi, e⟩ := Option.map_eq_some_iff.1 h
  simp [zeroValue, typeInfo, hi, e]
theorem size89 : (Try.prog.info? 89).map (·.size) = some 256 := by kernel_rfl

set_option maxRecDepth 100000 in
set_option maxHeartbeats 4000000 in
theorem table_any (w : World) : Calls Try.prog 51 #[] w fun e w' => e = .returned (.agg (tabL 256).toArray) ∧ Below w.heap.size w w' := by
  have hal := zeroV89
  have hpl : ((2197175160 : Nat) : Int) = 2197175160 := rfl
  go_enter Try.func51, Try.ntmps51
  go_wp2_with fail
  have hR0 : Blk ((w.alloc (.cells (tabL 0).toArray 89)).alloc (.cells (tabL 0).toArray 89)) w.heap.size (tabL 0) := (Blk.new _ _ _).alloc _
  have hT0 : Blk ((w.alloc (.cells (tabL 0).toArray 89)).alloc (.cells (tabL 0).toArray 89)) (w.heap.size + 1) (tabL 0) := Blk.new' _ _ (by simp)
  have hb0 := bl_alloc (bl_alloc (Below.refl _ w) (.cells (tabL 0).toArray 89)) (.cells (tabL 0).toArray 89)
  generalize ((w.alloc (.cells (tabL 0).toArray 89)).alloc (.cells (tabL 0).toArray 89)) = w1 at *
  have hw0 : IntKind.u32.wrap 0 = 0 := by decide
  have hw1 : IntKind.u32.wrap 2197175160 = 2197175160 := by decide
  clear hal
  go_loopw [4] (fun u wr => ∃ i : Nat, i ≤ 256 ∧ u = .int .i64 i ∧ Blk wr w.heap.size (tabL 0) ∧ Blk wr (w.heap.size + 1) (tabL i) ∧ Below w.heap.size w wr) (fun u _ => 256 - (intOf u).toNat)
  case atStart => exact ⟨0, by omega, rfl, hR0, hT0, hb0⟩
  case round =>
    clear hR0 hT0 hb0
    obtain ⟨i, hi, rfl, hR, hT, hb⟩ := hrel
    by_cases hlt : i < 256
    · have hi0 : (0 : Int) ≤ (i : Int) := by omega
      have hiI : (i : Int) < 256 := by omega
      have hcv : IntKind.u32.wrap (i : Int) = (i : Int) := by simp [IntKind.wrap, IntKind.signed, IntKind.bits]; omega
      have qT : wr.cell? ⟨w.heap.size + 1, i, none⟩ = some ((tabL i)[i]'(by rw [tabL_len]; exact hlt)) := by rw [hT.cell i, List.getElem?_eq_getElem]
      have uT := hT.unf i
      generalize (tabL i)[i]'(by rw [tabL_len]; exact hlt) = vT at qT
      go_wp2_with fail
      go_loopw [3, 9] (fun v u wi => ∃ k : Nat, k ≤ 8 ∧ u = .int .i64 k ∧ v = .int .u32 (stepN k i : Nat) ∧ wi = wr) (fun _ u _ => 8 - (intOf u).toNat)
      case atStart => exact ⟨0, by omega, rfl, rfl, rfl⟩
      case round =>
        obtain ⟨k, hk, rfl, rfl, rfl⟩ := hrel
        by_cases hk8 : k < 8
        · have ha := stepN_lt (n := i) (by omega) k
          have h1 : stepN (k + 1) i = (stepN k i / 2) ^^^ (if stepN k i % 2 = 1 then pC else 0) := rfl
          generalize stepN k i = a at *
          have e2 := bits_and1 ha
          have e3 := bits_xor32 (a := a / 2) (b := 2197175160) (by omega) (by omega)
          have e4 := bits_xor32 (a := a / 2) (b := 0) (by omega) (by omega)
          rw [Nat.xor_zero] at e4
          have hkI : (k : Int) < 8 := by omega
          have hk0 : (0 : Int) ≤ (k : Int) := by omega
          rcases Nat.mod_two_eq_zero_or_one a with hp | hp
          · rw [hp] at e2
            have h1' := Lib.hid (h1.trans (by rw [hp]))
            replace hp := Lib.hid hp
            replace h1 := Lib.hid h1
            go_wp2_with fail
            refine ⟨⟨k + 1, by omega, by go_num, ?_, trivial⟩, by simp [intOf]; omega⟩
            rw [h1'.out, if_neg (by omega), Nat.xor_zero]
            exact congrArg (Value.int IntKind.u32) e4
          · rw [hp] at e2
            have h1' := Lib.hid (h1.trans (by rw [hp]))
            replace hp := Lib.hid hp
            replace h1 := Lib.hid h1
            go_wp2_with fail
            refine ⟨⟨k + 1, by omega, by go_num, ?_, trivial⟩, by simp [intOf]; omega⟩
            rw [h1'.out, if_pos rfl]
            exact congrArg (Value.int IntKind.u32) e3
        · obtain rfl : k = 8 := by omega
          have hput := Lib.hid (tabL_put hlt)
          go_wp2_with fail
          exact ⟨⟨i + 1, by omega, by go_num, hR.set_ne (by simp) _, blk_eq (hT.set_same i _) hput.out, bl_set'' hb (by omega) _⟩, by simp [intOf]; omega⟩
    · obtain rfl : i = 256 := by omega
      go_wp2_with (first | (refine wpList_load_blk rfl 89 _ rfl (w.heap.size + 1) (tabL 256) rfl hT _ Try.underlying89 rfl (by rw [tabL_len]; exact size89) ?_) | (refine wpList_store_blk rfl 89 _ _ rfl w.heap.size (tabL 0) (tabL 256) rfl rfl hR (by rw [tabL_len, tabL_len]) (by rw [tabL_len]; exact size89) (tabL_one _) ?_; intro w9 hR9 hg9 hs9))
      have hld := run_loadVar_mid (P := Try.prog) w9 w.heap.size 0 89 (tabL 256) _ hR9.range Try.underlying89 rfl (by rw [tabL_len]; exact size89)
      refine ⟨rfl, .agg (tabL 256).toArray, ?_, rfl, bl_gr hb hg9 (Nat.le_refl _)⟩
      simp [results, Try.f51, Act.put]
      exact hld

set_option maxRecDepth 100000 in
set_option maxHeartbeats 4000000 in
theorem crc_any (A : Option Addr) (c : Nat) (l : List UInt8) (w : World) (hm : LAt w A 1 encB l) (hl : l.length ≤ 140737488351232) :
    Calls Try.prog 40 #[.slice A l.length c] w fun e w' => e = .returned (.int .u32 ((4294967295 ^^^ crcL l : Nat) : Int)) ∧ Below w.heap.size w w' := by
  have hal := zeroV89
  have emax : IntKind.u32.max = 4294967295 := by decide
  have emax2 : bits .xor .u32 4294967295 0 = 4294967295 := by decide
  go_enter Try.func40, Try.ntmps40
  go_wp2_with fail
  refine (table_any w).mono ?_
  rintro e w1 ⟨rfl, hb1⟩
  have hB1 : Blk (w1.alloc (.cells (tabL 0).toArray 89)) w1.heap.size (tabL 0) := Blk.new _ _ _
  have hb1a := bl_alloc hb1 (.cells (tabL 0).toArray 89)
  have hs1 := hb1.size
  go_wp2_with (refine wpList_store_blk rfl 89 _ _ rfl w1.heap.size (tabL 0) (tabL 256) rfl rfl hB1 (by rw [tabL_len, tabL_len]) (by rw [tabL_len]; exact size89) (tabL_one _) ?_; intro w2 hB2 hg2 hs2)
  have hb2 := bl_gr hb1a hg2 hs1
  have hm2 := hm.low (n := w.heap.size) hb2 hm.bel
  clear hB1 hb1a hg2 hal
  go_loopw [4, 10] (fun v u wr => ∃ i : Nat, i ≤ l.length ∧ u = .int .i64 i ∧ v = .int .u32 (crcL (l.take i) : Nat) ∧ wr = w2) (fun _ u _ => l.length - (intOf u).toNat)
  case atStart => exact ⟨0, Nat.zero_le _, rfl, rfl, rfl⟩
  case round =>
    obtain ⟨i, hi, rfl, rfl, rfl⟩ := hrel
    by_cases hlt : i < l.length
    · obtain ⟨g, o, rfl, hg, hc⟩ := hm2 i hlt
      have q0 := hc 0 _ rfl
      simp only [Nat.mul_one, Nat.add_zero] at q0
      have htk : crcL (l.take (i + 1)) = crcT (crcL (l.take i)) l[i].toNat := by rw [List.take_succ_eq_append_getElem hlt, crcL_snoc]
      have hx := UInt8.toNat_lt l[i]
      generalize l[i].toNat = x at *
      have hr := crcL_lt (l.take i)
      generalize crcL (l.take i) = r at *
      have hxb : x < 256 := by simpa using hx
      have hi0' : (0 : Int) ≤ (i : Int) := by omega
      have hilt : (i : Int) < (l.length : Int) := by omega
      have h8 : r % 256 ^^^ x < 256 := Nat.xor_lt_two_pow (n := 8) (by omega) hxb
      have e2 := bits_xor8 (a := r % 256) (b := x) (by omega) hxb
      have htk' : crcL (l.take (i + 1)) = stepN 8 (r % 256 ^^^ x) ^^^ r / 256 := htk
      obtain ⟨ix, hix⟩ : ∃ ix, r % 256 ^^^ x = ix := ⟨_, rfl⟩
      rw [hix] at e2 h8 htk'
      have qT : wr.cell? ⟨w1.heap.size, ix, none⟩ = some (.int .u32 ((stepN 8 ix : Nat) : Int)) := by rw [hB2.cell ix]; exact tabL_get h8
      have e3 := bits_xor32 (a := stepN 8 ix) (b := r / 256) (stepN_lt (by omega) 8) (by omega)
      generalize stepN 8 ix = t at *
      have e2' : bits .xor .u8 ((r : Int) % 256) (x : Int) = (ix : Int) := e2
      have e3' : bits .xor .u32 (t : Int) ((r : Int) / 256) = ((t ^^^ r / 256 : Nat) : Int) := e3
      have hixI : (ix : Int) < 256 := by omega
      have hix0 : (0 : Int) ≤ (ix : Int) := by omega
      replace htk := Lib.hid htk
      replace htk' := Lib.hid htk'
      replace hix := Lib.hid hix
      clear hc hx
      go_wp2_with fail
      refine ⟨⟨i + 1, by omega, by go_num, ?_, trivial⟩, by simp [intOf]; omega⟩
      rw [htk'.out]
    · obtain rfl : i = l.length := by omega
      rw [List.take_length]
      have e1 := bits_xor32 (a := 4294967295) (b := crcL l) (by omega) (crcL_lt l)
      go_wp2_with fail
      go_ret
      refine ⟨?_, hb2⟩
      show Ending.returned (.int .u32 (bits .xor .u32 4294967295 _)) = _
      exact congrArg (fun v => Ending.returned (.int .u32 v)) e1
end Go.Proofs.Ytbjjhnlifgbpmaa
