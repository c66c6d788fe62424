/- ProducerAgain: whatever the sizes and the place, the law returns true, and the sizes read behind the call as before. No condition. -/
import Derived.Test.YtjpmdjjihdicdaaOpen
import Derived.OpenShut
import Derived.Test.YtjpmdjjihdicdaaRows
import Derived.ProofKit
import Derived.Test.YtjpmdjjihdicdaaAgain
namespace Go.Proofs.Ytjpmdjjihdicdaa
open Go.ChangeShapes Go.WideShapes Go.ChangeAt Go.RowKit Go.Deep

theorem Try.laidOut : laidOutB Try.prog = true := by kernel_rfl
theorem Try.own : ownKnob Try.prog.godebug = none := by kernel_rfl
theorem c3 : Try.prog.cellsOf 3 = 1 := by kernel_rfl
theorem b3 : Try.prog.bytesOf 3 = 8 := by kernel_rfl

section
variable {H : Type} {enc : TypeId × Value → H} {w : World} {base : Nat} {spare : Nat → Bool} {held : Bool} {fuel : Nat} {cs : List Value} {x : DataW H × List MemPlace}

def isInt (_ : World) (cs : List Value) (z : Int) : Prop := cs = [.int .i64 z] ∧ okI z
theorem open_int (h : DataW.trod enc Try.prog w base spare held fuel 3 cs = some x) (_ : Sized Try.prog 3 x.1) : ∃ z : Int, isInt w cs z := open_i64 Try.underlying3 h
end

theorem intsAt_of {w : World} {A : Option Addr} {l : List Int} (h : SlAt w A 1 isInt l) (hn : l.length * 8 ≤ 140737488351232) : IntsAt w A l := by
  refine ⟨by omega, fun i hi => ?_⟩
  obtain ⟨b, o, cs, hA, hlt, hl, hc, rfl, hk⟩ := h i hi
  have := hc 0 (by omega)
  rw [Nat.mul_one, Nat.add_zero] at this
  exact ⟨b, o, hA, hlt, this, hk⟩

set_option maxRecDepth 100000 in
theorem again_lifted (os : Os) (started : os.Started) (H : Type) (enc : TypeId × Value → H) :
    ReturnsInHanded {} Try.checked os 5 .any (Rows.producerAgainSpec.pre6 enc Try.prog Try.f5 Rows.producerAgainRow.domain false) (Rows.producerAgainSpec.post enc Try.prog Try.f5 false true false false) := by
  refine returnsInHanded_of_change_sized (C := Try.checked) Try.own started (by kernel_rfl) Try.func5
    (ChangeSpec.witness6 (enc := enc) (C := Try.checked) false ⟨#[], #[.slice none 0 0, .int .i64 0], []⟩ 8 (by kernel_rfl) (by kernel_rfl) (by kernel_rfl) (by kernel_rfl)) ?_
  intro W base args ds gs before hval0 hW _ hsz0 _
  have hsz : (DataW.weightsEach Try.prog (Try.f5.params.toList ++ Rows.producerAgainSpec.plain.varTypes Try.prog) (ds ++ gs)).all (· ≤ reachBytes) = true := hsz0
  have hW' := hW
  obtain ⟨p, q, hA0, hV, rfl, hfz, hnd⟩ := hW
  have hA : DataW.TrodAll enc Try.prog W 0 (fun _ => true) true Try.f5.params.toList args.toList ds p := hA0
  rw [Try.params5] at hA hsz
  obtain ⟨v0, vs0, d0, ds0, p0, q0, hargs, rfl, rfl, h0, r0⟩ := trodAll_cons hA
  obtain ⟨v1, vs1, d1, ds1, p1, q1, rfl, rfl, rfl, h1, r1⟩ := trodAll_cons r0
  obtain ⟨rfl, rfl, rfl⟩ := trodAll_nil r1
  obtain rfl : args = #[v0, v1] := by cases args; simp_all
  obtain ⟨rfl, rfl⟩ := trodVars_none hV
  have h0k := h0
  have h1k := h1
  obtain ⟨n0, t0⟩ := h0
  obtain ⟨n1, t1⟩ := h1
  have z0 : Sized Try.prog 47 d0 := Sized.arg hsz (j := 0) rfl rfl
  obtain ⟨A0, c0, l0, e0, _, x0, b0⟩ := open_list isInt 1 Try.underlying47 c3 (by omega) (fun _ _ _ => open_int) t0 z0
  rw [b3] at b0
  obtain ⟨a0, m0, k0, rfl⟩ := okWide_slice (P := Try.prog) Try.underlying47 (hval0 0 47 v0 (by rw [Try.params5]; rfl) rfl)
  simp only [Value.cells, List.cons.injEq, Value.slice.injEq, and_true] at e0
  obtain ⟨rfl, rfl, rfl⟩ := e0
  obtain ⟨z1, e1, f1⟩ := open_i64 Try.underlying3 t1
  obtain ⟨y1, rfl⟩ := okWide_int (P := Try.prog) Try.underlying3 (hval0 1 3 v1 (by rw [Try.params5]; rfl) rfl)
  simp only [Value.cells, List.cons.injEq, Value.int.injEq, and_true, true_and] at e1
  subst e1
  have hlt : ∀ x ∈ p0, x.block < W.heap.size := fun x hx => hW'.lt x (by simp [hx])
  have hlt1 : ∀ x ∈ p1, x.block < W.heap.size := fun x hx => hW'.lt x (by simp [hx])
  refine (again_any a0 k0 l0 y1 W (intsAt_of x0 b0) f1).mono fun e W' ⟨he, hb⟩ => ?_
  subst he
  exact ⟨_, rfl, _, _, _, [], p0 ++ (p1 ++ []), [], hW', trodAll_mk1 (shut_bool Try.underlying4 _),
    trodAll_cons_mk (Below.trod Try.laidOut (by kernel_rfl) (of_decide_eq_true (by kernel_rfl)) h0k hb hlt) (trodAll_cons_mk (Below.trod Try.laidOut (by kernel_rfl) (of_decide_eq_true (by kernel_rfl)) h1k hb hlt1) trodAll_mk0), rfl, hb.frame _, fun h => by cases h⟩

theorem again_holds : Rows.ProducerAgainSaid :=
  OpenClaim.holds_of_wide 5 Try.f5 rfl rfl rfl rfl rfl rfl rfl ⟨rfl, rfl, rfl, rfl, rfl⟩ rfl rfl rfl rfl rfl (by kernel_rfl) Try.func5 (by kernel_rfl)
    (of_decide_eq_true (by kernel_rfl)) (by unfold Func.isWrapper; first | (rw [if_pos (by decide +kernel)]; kernel_rfl) | (rw [if_neg (by decide +kernel)]; exact ⟨rfl, rfl⟩))
    (fun os started H enc _ => again_lifted os started H enc)
#print axioms again_holds
end Go.Proofs.Ytjpmdjjihdicdaa
