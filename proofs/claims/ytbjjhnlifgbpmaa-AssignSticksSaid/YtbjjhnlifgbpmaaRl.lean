/- The document's Sticky (15) where it refuses, or where nobody is; what both Stickies read of the old shares. -/
import Derived.Test.YtbjjhnlifgbpmaaRi
import Derived.Test.YtbjjhnlifgbpmaaSe
import Derived.Test.YtbjjhnlifgbpmaaFm
import Derived.Test.YtbjjhnlifgbpmaaPh
namespace Go.Proofs.Ytbjjhnlifgbpmaa
open Go.RowKit Go.Shelf
attribute [local go_sem] Oper.semAt_some

set_option maxRecDepth 100000 in
set_option maxHeartbeats 4000000 in
theorem rsticky_bad (v : Value) (Am : Option Addr) (cm : Nat) (ml : List ByteArray) (parts : Int) (w : World) (hm : LAt w Am 1 encS ml) (hml : ml.length * 16 ≤ 140737488351232) (S : List ByteArray) (hS : sortS ml = S) (hk : ∀ s ∈ S, s.size ≤ 140737488351232) (hN : okN S parts = false) :
    Calls Try.prog 15 #[v, .slice Am ml.length cm, .int .i64 parts] w fun e w' => e = .returned (.tuple #[.slice none 0 0, .int .i64 1]) ∧ Below w.heap.size w w' := by
  have hri := right_any Am cm ml parts w hm hml S hS hk
  rw [hN] at hri
  replace hri := Lib.hid hri
  go_enter Try.func15, Try.ntmps15
  go_wp2_with fail
  refine hri.out.mono ?_
  rintro e w0 ⟨rfl, hb0⟩
  go_wp2_with fail
  go_ret2
  exact ⟨rfl, hb0⟩
set_option maxRecDepth 100000 in
set_option maxHeartbeats 4000000 in
theorem rsticky_nil (v : Value) (Am : Option Addr) (cm : Nat) (ml : List ByteArray) (parts : Int) (w : World) (hm : LAt w Am 1 encS ml) (hml : ml.length = 0) (hS : sortS ml = []) (hN : okN [] parts = true) :
    Calls Try.prog 15 #[v, .slice Am ml.length cm, .int .i64 parts] w fun e w' => e = .returned (.tuple #[.slice none 0 0, .int .i64 0]) ∧ Below w.heap.size w w' := by
  have hri := right_any Am cm ml parts w hm (by omega) [] hS (by simp)
  rw [hN] at hri
  have hso : ∀ w', Below w.heap.size w w' → Calls Try.prog 22 #[.slice Am ml.length cm] w' fun e w'' => ∃ A' c', e = .returned (.slice A' 0 c') ∧ Below w'.heap.size w' w'' := fun w' hb =>
    (sorted_any Am cm ml w' (hm.below hb) (by omega)).mono (by rintro e w'' ⟨A', c', h1, h2, h3⟩; exact ⟨A', c', by rw [h1, hml], h3⟩)
  replace hri := Lib.hid hri
  replace hso := Lib.hid hso
  replace hml := Lib.hid hml
  go_enter Try.func15, Try.ntmps15
  go_wp2_with fail
  refine hri.out.mono ?_
  rintro e w0 ⟨rfl, hb0⟩
  go_wp2_with fail
  refine (hso.out w0 hb0).mono ?_
  rintro e w1 ⟨A', c', rfl, hb1⟩
  go_wp2_with fail
  go_ret2
  exact ⟨rfl, bl_tr hb0 hb1⟩
theorem had_nl (os : List Ou) (s : ByteArray) : (hadOf (fmL os (bk os.length)) s).l = (((os.map nl).find? fun p => decide (p.1 = s)).map (·.2)).getD [] := by
  rw [hadOf, look_first, List.find?_map]
  have e : ((fun p : ByteArray × List Int => decide (p.1 = s)) ∘ nl) = fun x : Ou => decide (x.m = s) := rfl
  rw [e]
  cases os.find? fun x => decide (x.m = s) with
  | none => rfl
  | some o => rfl
theorem fps_nl {os old : List Ou} (h : os.map nl = old.map nl) (S : List ByteArray) : fpsOf (fmL os (bk os.length)) S = fpsOf (fmL old (bk old.length)) S := by
  unfold fpsOf
  exact List.map_congr_left fun s _ => by rw [had_nl, had_nl, h]
end Go.Proofs.Ytbjjhnlifgbpmaa
