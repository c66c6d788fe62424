/- Key (18), the document's Key (19). -/
import Derived.Test.YtbjjhnlifgbpmaaCt
import Derived.Laws.IdiomStrings
namespace Go.Proofs.Ytbjjhnlifgbpmaa
open Go.RowKit Go.Shelf
attribute [local go_sem] Oper.semAt_some

/-- A key's partition. -/
def keyP (s : ByteArray) (parts : Int) : Int := if parts < 1 ∨ 32 < parts then -1 else (((4294967295 ^^^ crcL s.data.toList) % parts.toNat : Nat) : Int)
theorem conv_bytes (s : ByteArray) (w : World) : ∃ A c w', (convert 9 76 (.string s)).run Try.prog w = .ok (.slice A s.size c) w' ∧ LAt w' A 1 encB s.data.toList ∧ Below w.heap.size w w' := by
  refine ⟨_, _, _, run_bytes_of_string w 9 76 5 s Try.underlying9 Try.underlying76 Try.underlying5, fun i hi => ?_, (Below.refl _ _).drew.alloc (Nat.le_refl _) _⟩
  refine ⟨w.heap.size, 0, rfl, by simp, fun j u hu => ?_⟩
  obtain rfl : j = 0 := by have := (List.getElem?_eq_some_iff.1 hu).1; simp [encB] at this; exact this
  simp only [encB, List.getElem?_cons_zero, Option.some.injEq] at hu
  subst hu
  simp only [Nat.zero_add, Nat.mul_one, Nat.add_zero]
  have hh : ∀ (C : Array Value) (t : TypeId) (f : Nat × Nat), (w.drew.alloc (.cells C t f)).cell? ⟨w.heap.size, i, none⟩ = C[i]? := fun C t f => by
    simp only [World.cell?]
    rw [show (w.drew.alloc (.cells C t f)).heap[w.heap.size]? = some (.cells C t f) from by show (w.heap.push _)[_]? = _; simp]
    rfl
  rw [hh]
  have hi' : i < s.data.size := by simpa using hi
  rw [bytesRow, Array.getElem?_append_left (by simpa using hi'), Array.getElem?_map, Array.getElem?_eq_getElem hi']
  simp

set_option maxRecDepth 100000 in
set_option maxHeartbeats 4000000 in
theorem key_any (s : ByteArray) (parts : Int) (w : World) (hs : s.size ≤ 140737488351232) :
    Calls Try.prog 18 #[.string s, .int .i64 parts] w fun e w' => e = .returned (.int .i64 (keyP s parts)) ∧ Below w.heap.size w w' := by
  by_cases h1 : parts < 1
  · have hk := Lib.hid (show keyP s parts = -1 by rw [keyP, if_pos (.inl h1)])
    have d1 : decide (parts < 1) = true := by simpa using h1
    go_enter Try.func18, Try.ntmps18
    go_wp2_with fail
    go_ret
    exact ⟨ret_int hk.out.symm, Below.refl _ _⟩
  · have d1 : decide (parts < 1) = false := by simpa using h1
    by_cases h2 : 32 < parts
    · have hk := Lib.hid (show keyP s parts = -1 by rw [keyP, if_pos (.inr h2)])
      have d2 : decide (32 < parts) = true := by simpa using h2
      go_enter Try.func18, Try.ntmps18
      go_wp2_with fail
      go_ret
      exact ⟨ret_int hk.out.symm, Below.refl _ _⟩
    · have d2 : decide (32 < parts) = false := by simpa using h2
      have hk : keyP s parts = (((4294967295 ^^^ crcL s.data.toList) % parts.toNat : Nat) : Int) := by rw [keyP, if_neg (by omega)]
      obtain ⟨pn, rfl⟩ : ∃ pn : Nat, parts = (pn : Int) := ⟨parts.toNat, by omega⟩
      rw [Int.toNat_natCast] at hk
      have hlen : s.data.toList.length = s.size := rfl
      have hcc : 4294967295 ^^^ crcL s.data.toList < 4294967296 := Nat.xor_lt_two_pow (n := 32) (by omega) (crcL_lt _)
      obtain ⟨A, c, w1, hcv, hlat, hb1⟩ := conv_bytes s w
      have hcr := crc_any A c s.data.toList w1 hlat (by omega)
      rw [hlen] at hcr
      generalize 4294967295 ^^^ crcL s.data.toList = v at *
      have hpw : IntKind.u32.wrap (pn : Int) = (pn : Int) := by simp [IntKind.wrap, IntKind.signed, IntKind.bits]; omega
      have hp0 : (pn : Int) ≠ 0 := by omega
      have hpz : ((pn : Int) == 0) = false := by rw [beq_eq_false_iff_ne]; omega
      have hml : v % pn < 32 := Nat.lt_of_lt_of_le (Nat.mod_lt _ (by omega)) (by omega)
      have hmd : (v : Int) % (pn : Int) = ((v % pn : Nat) : Int) := (Int.natCast_emod _ _).symm
      have hw64 := w64n (n := v % pn) (by omega)
      replace hmd := Lib.hid hmd
      replace hk := Lib.hid hk
      replace hlen := Lib.hid hlen
      replace hml := Lib.hid hml
      go_enter Try.func18, Try.ntmps18
      go_wp2_with fail
      refine hcr.mono ?_
      rintro e w2 ⟨rfl, hb2⟩
      go_wp2_with fail
      go_ret
      refine ⟨?_, bl_tr hb1 hb2⟩
      rw [hk.out]
      show Ending.returned (.int .i64 (wrap64 ((v : Int) % (pn : Int)))) = _
      rw [hmd.out, hw64]

set_option maxRecDepth 100000 in
set_option maxHeartbeats 4000000 in
theorem rkey_any (s : ByteArray) (parts : Int) (w : World) (hs : s.size ≤ 140737488351232) :
    Calls Try.prog 19 #[.string s, .int .i64 parts] w fun e w' => e = .returned (.int .i64 (keyP s parts)) ∧ Below w.heap.size w w' := by
  by_cases h1 : parts < 1
  · have hk := Lib.hid (show keyP s parts = -1 by rw [keyP, if_pos (.inl h1)])
    have d1 : decide (parts < 1) = true := by simpa using h1
    go_enter Try.func19, Try.ntmps19
    go_wp2_with fail
    go_ret
    exact ⟨ret_int hk.out.symm, Below.refl _ _⟩
  · have d1 : decide (parts < 1) = false := by simpa using h1
    by_cases h2 : 32 < parts
    · have hk := Lib.hid (show keyP s parts = -1 by rw [keyP, if_pos (.inr h2)])
      have d2 : decide (32 < parts) = true := by simpa using h2
      go_enter Try.func19, Try.ntmps19
      go_wp2_with fail
      go_ret
      exact ⟨ret_int hk.out.symm, Below.refl _ _⟩
    · have d2 : decide (32 < parts) = false := by simpa using h2
      have hk : keyP s parts = (((4294967295 ^^^ crcL s.data.toList) % parts.toNat : Nat) : Int) := by rw [keyP, if_neg (by omega)]
      obtain ⟨pn, rfl⟩ : ∃ pn : Nat, parts = (pn : Int) := ⟨parts.toNat, by omega⟩
      rw [Int.toNat_natCast] at hk
      have hlen : s.data.toList.length = s.size := rfl
      have hcc : 4294967295 ^^^ crcL s.data.toList < 4294967296 := Nat.xor_lt_two_pow (n := 32) (by omega) (crcL_lt _)
      obtain ⟨A, c, w1, hcv, hlat, hb1⟩ := conv_bytes s w
      have hcr := rcrc_any A c s.data.toList w1 hlat (by omega)
      rw [hlen] at hcr
      generalize 4294967295 ^^^ crcL s.data.toList = v at *
      have hpw : IntKind.u32.wrap (pn : Int) = (pn : Int) := by simp [IntKind.wrap, IntKind.signed, IntKind.bits]; omega
      have hp0 : (pn : Int) ≠ 0 := by omega
      have hpz : ((pn : Int) == 0) = false := by rw [beq_eq_false_iff_ne]; omega
      have hml : v % pn < 32 := Nat.lt_of_lt_of_le (Nat.mod_lt _ (by omega)) (by omega)
      have hmd : (v : Int) % (pn : Int) = ((v % pn : Nat) : Int) := (Int.natCast_emod _ _).symm
      have hw64 := w64n (n := v % pn) (by omega)
      replace hmd := Lib.hid hmd
      replace hk := Lib.hid hk
      replace hlen := Lib.hid hlen
      replace hml := Lib.hid hml
      go_enter Try.func19, Try.ntmps19
      go_wp2_with fail
      refine hcr.mono ?_
      rintro e w2 ⟨rfl, hb2⟩
      go_wp2_with fail
      go_ret
      refine ⟨?_, bl_tr hb1 hb2⟩
      rw [hk.out]
      show Ending.returned (.int .i64 (wrap64 ((v : Int) % (pn : Int)))) = _
      rw [hmd.out, hw64]
end Go.Proofs.Ytbjjhnlifgbpmaa
