/- The document's Crc (41). -/
import Derived.Test.YtbjjhnlifgbpmaaCr
import Derived.Test.YtbjjhnlifgbpmaaRa
namespace Go.Proofs.Ytbjjhnlifgbpmaa
open Go.RowKit Go.Shelf
attribute [local go_sem] Oper.semAt_some

def encB (x : UInt8) : List Value := [.int .u8 (x.toNat : Nat)]
theorem encB_len (x : UInt8) : (encB x).length = 1 := rfl
/-- The sum, behind so many bytes. -/
def crcL (l : List UInt8) : Nat := l.foldl (fun c x => crcT c x.toNat) 4294967295
theorem crcL_snoc (l : List UInt8) (x : UInt8) : crcL (l ++ [x]) = crcT (crcL l) x.toNat := by simp [crcL, List.foldl_append]
theorem crcL_lt (l : List UInt8) : crcL l < 4294967296 := by
  have key : ∀ (l : List UInt8) (c : Nat), c < 4294967296 → l.foldl (fun c x => crcT c x.toNat) c < 4294967296 := by
    intro l
    induction l with
    | nil => exact fun c h => h
    | cons x l ih => exact fun c h => ih _ (crcT_lt h (UInt8.toNat_lt x))
  exact key l _ (by decide)

set_option maxRecDepth 100000 in
set_option maxHeartbeats 4000000 in
theorem rcrc_any (A : Option Addr) (c : Nat) (l : List UInt8) (w : World) (hm : LAt w A 1 encB l) (hl : l.length ≤ 140737488351232) :
    Calls Try.prog 41 #[.slice A l.length c] w fun e w' => e = .returned (.int .u32 ((4294967295 ^^^ crcL l : Nat) : Int)) ∧ Below w.heap.size w w' := by
  go_enter Try.func41, Try.ntmps41
  go_wp2_with fail
  go_loopw [3, 4] (fun v u wr => ∃ i : Nat, i ≤ l.length ∧ u = .int .i64 i ∧ v = .int .u32 (crcL (l.take i) : Nat) ∧ wr = w) (fun _ u _ => l.length - (intOf u).toNat)
  case atStart => exact ⟨0, Nat.zero_le _, rfl, rfl, rfl⟩
  case round =>
    obtain ⟨i, hi, rfl, rfl, rfl⟩ := hrel
    by_cases hlt : i < l.length
    · obtain ⟨g, o, rfl, hg, hc⟩ := hm i hlt
      have q0 := hc 0 _ rfl
      simp only [Nat.mul_one, Nat.add_zero] at q0
      have htk : crcL (l.take (i + 1)) = crcT (crcL (l.take i)) l[i].toNat := by rw [List.take_succ_eq_append_getElem hlt, crcL_snoc]
      have hx := UInt8.toNat_lt l[i]
      generalize l[i].toNat = x at *
      have hr := crcL_lt (l.take i)
      generalize crcL (l.take i) = r at *
      have hi0' : (0 : Int) ≤ (i : Int) := by omega
      have hilt : (i : Int) < (l.length : Int) := by omega
      have hcv : IntKind.u32.wrap (x : Int) = (x : Int) := by simp [IntKind.wrap, IntKind.signed, IntKind.bits]; omega
      replace htk := Lib.hid htk
      clear hc
      have hxb : x < 256 := by simpa using hx
      have hfin := Lib.hid (crc_same r x hxb)
      go_wp2_with fail
      go_loopw [3, 5, 6] (fun v y u wi => ∃ k : Nat, k ≤ 8 ∧ u = .int .i64 k ∧ v = .int .u32 ((refC r x k).1 : Nat) ∧ y = .int .u32 ((refC r x k).2 : Nat) ∧ wi = wr) (fun _ _ u _ => 8 - (intOf u).toNat)
      case atStart => exact ⟨0, by omega, rfl, rfl, rfl, rfl⟩
      case round =>
        obtain ⟨k, hk, rfl, rfl, rfl, rfl⟩ := hrel
        by_cases hk8 : k < 8
        · have ha := refC_lt (x := x) hr k
          have hb : (refC r x k).2 < 4294967296 := by rw [refC_x]; exact Nat.lt_of_le_of_lt (Nat.div_le_self _ _) (by omega)
          have h1 : (refC r x (k + 1)).1 = ((refC r x k).1 / 2) ^^^ (if ((refC r x k).1 ^^^ (refC r x k).2) % 2 = 1 then pC else 0) := rfl
          have h2 : (refC r x (k + 1)).2 = (refC r x k).2 / 2 := rfl
          generalize (refC r x k).1 = a at *
          generalize (refC r x k).2 = b at *
          have e1 := bits_xor32 ha hb
          have e2 := bits_and1 (a := a ^^^ b) (Nat.xor_lt_two_pow (n := 32) ha hb)
          have e3 := bits_xor32 (a := a / 2) (b := 2197175160) (by omega) (by omega)
          have hkI : (k : Int) < 8 := by omega
          replace h1 := Lib.hid h1
          replace h2 := Lib.hid h2
          rcases Nat.mod_two_eq_zero_or_one (a ^^^ b) with hp | hp
          · rw [hp] at e2
            have h1' := Lib.hid (h1.out.trans (by rw [hp]))
            replace hp := Lib.hid hp
            go_wp2_with fail
            exact ⟨⟨k + 1, by omega, by go_num, by rw [h1'.out, if_neg (by omega), Nat.xor_zero]; simp, by rw [h2.out]; simp, trivial⟩, by simp [intOf]; omega⟩
          · rw [hp] at e2
            have h1' := Lib.hid (h1.out.trans (by rw [hp]))
            replace hp := Lib.hid hp
            go_wp2_with fail
            refine ⟨⟨k + 1, by omega, by go_num, ?_, by rw [h2.out]; simp, trivial⟩, by simp [intOf]; omega⟩
            rw [h1'.out, if_pos rfl]
            exact congrArg (Value.int IntKind.u32) e3
        · obtain rfl : k = 8 := by omega
          rw [hfin.out, ← htk.out]
          go_wp2_with fail
          exact ⟨⟨i + 1, by omega, by go_num, rfl, trivial⟩, by simp [intOf]; omega⟩
    · obtain rfl : i = l.length := by omega
      rw [List.take_length]
      have e1 := bits_xor32 (a := 4294967295) (b := crcL l) (by omega) (crcL_lt l)
      go_wp2_with fail
      go_ret
      refine ⟨?_, Below.refl _ _⟩
      show Ending.returned (.int .u32 (bits .xor .u32 IntKind.u32.max _)) = _
      rw [show IntKind.u32.max = ((4294967295 : Nat) : Int) from by decide, e1]
end Go.Proofs.Ytbjjhnlifgbpmaa
