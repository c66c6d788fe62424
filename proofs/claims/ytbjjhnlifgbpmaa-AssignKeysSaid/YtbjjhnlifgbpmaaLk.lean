/- AssignKeys (7). -/
import Derived.Test.YtbjjhnlifgbpmaaKy
import Derived.Test.YtbjjhnlifgbpmaaKw
namespace Go.Proofs.Ytbjjhnlifgbpmaa
open Go.RowKit Go.Shelf
attribute [local go_sem] Oper.semAt_some

theorem keyP_in (s : ByteArray) (parts : Int) : keyP s parts = -1 ∨ (0 ≤ keyP s parts ∧ keyP s parts < parts) := by
  unfold keyP
  split
  · exact .inl rfl
  · rename_i h
    have h1 := Nat.mod_lt (4294967295 ^^^ crcL s.data.toList) (y := parts.toNat) (by omega)
    exact .inr ⟨by omega, by omega⟩

set_option maxRecDepth 100000 in
set_option maxHeartbeats 4000000 in
theorem akeys_any (s : ByteArray) (parts : Int) (w : World) (hs : s.size ≤ 140737488351232) :
    Calls Try.prog 7 #[.string s, .int .i64 parts] w fun e w' => e = .returned (.bool true) ∧ Below w.heap.size w w' := by
  have hk := key_any s parts w hs
  have hr := fun w' => rkey_any s parts w' hs
  have hin := keyP_in s parts
  generalize keyP s parts = k at *
  have hkk : (k == k) = true := by simp
  replace hk := Lib.hid hk
  replace hr := Lib.hid hr
  rcases hin with rfl | ⟨h1, h2⟩
  · cases hlt : decide (-1 < parts) <;> (
      go_enter Try.func7, Try.ntmps7
      go_wp2_with (first | (go_at_call 18; refine hk.out.mono ?_; rintro e w1 ⟨rfl, hb1⟩) | (go_at_call 19; refine (hr.out w1).mono ?_; rintro e w2 ⟨rfl, hb2⟩) | (go_at_call 12; refine (knows_any _).mono ?_; rintro e w3 ⟨rfl, hb3⟩))
      go_ret
      exact ⟨rfl, bl_tr (bl_tr hb1 hb2) hb3⟩)
  · have d1 : decide (k < parts) = true := by simpa using h2
    have d2 : decide (0 ≤ k) = true := by simpa using h1
    go_enter Try.func7, Try.ntmps7
    go_wp2_with (first | (go_at_call 18; refine hk.out.mono ?_; rintro e w1 ⟨rfl, hb1⟩) | (go_at_call 19; refine (hr.out w1).mono ?_; rintro e w2 ⟨rfl, hb2⟩) | (go_at_call 12; refine (knows_any _).mono ?_; rintro e w3 ⟨rfl, hb3⟩))
    go_ret
    exact ⟨rfl, bl_tr (bl_tr hb1 hb2) hb3⟩
end Go.Proofs.Ytbjjhnlifgbpmaa
