/- Shares and members that came in, opened. -/
import Derived.Test.YtbjjhnlifgbpmaaOpen
import Derived.OpenShut
namespace Go.Proofs.Ytbjjhnlifgbpmaa
open Go.ChangeShapes Go.WideShapes Go.ChangeAt Go.RowKit Go.Deep

theorem Try.laidOut : laidOutB Try.prog = true := by kernel_rfl
theorem Try.own : ownKnob Try.prog.godebug = none := by kernel_rfl
theorem c3 : Try.prog.cellsOf 3 = 1 := by kernel_rfl
theorem c9 : Try.prog.cellsOf 9 = 1 := by kernel_rfl
theorem c37 : Try.prog.cellsOf 37 = 1 := by kernel_rfl
theorem c49 : Try.prog.cellsOf 49 = 2 := by kernel_rfl
theorem b3 : Try.prog.bytesOf 3 = 8 := by kernel_rfl
theorem b9 : Try.prog.bytesOf 9 = 16 := by kernel_rfl
theorem b49 : Try.prog.bytesOf 49 = 40 := by kernel_rfl

section
variable {H : Type} {enc : TypeId × Value → H} {w : World} {base : Nat} {spare : Nat → Bool} {held : Bool} {fuel : Nat} {cs : List Value} {x : DataW H × List MemPlace}

def isInt (_ : World) (cs : List Value) (z : Int) : Prop := cs = encI z ∧ okI z
theorem open_int (h : DataW.trod enc Try.prog w base spare held fuel 3 cs = some x) (_ : Sized Try.prog 3 x.1) : ∃ z : Int, isInt w cs z := open_i64 Try.underlying3 h
def isStr (_ : World) (cs : List Value) (s : ByteArray) : Prop := cs = encS s ∧ s.size ≤ 140737488351232
theorem open_st (h : DataW.trod enc Try.prog w base spare held fuel 9 cs = some x) (hs : Sized Try.prog 9 x.1) : ∃ s : ByteArray, isStr w cs s := open_str Try.underlying9 h hs
def isSh (w : World) (cs : List Value) (o : Ou) : Prop := cs = ouL o ∧ o.m.size ≤ 140737488351232 ∧ SlAt w o.r.A 1 isInt o.r.l ∧ o.r.l.length * 8 ≤ 140737488351232
theorem open_sh (h : DataW.trod enc Try.prog w base spare held fuel 49 cs = some x) (hs : Sized Try.prog 49 x.1) : ∃ o : Ou, isSh w cs o := by
  obtain ⟨n, hl, hf⟩ := open_struct Try.underlying49 h hs
  obtain ⟨y0, h0, s0⟩ := hf 0 9 0 1 rfl c9
  obtain ⟨y1, h1, s1⟩ := hf 1 37 1 1 rfl c37
  obtain ⟨a0, e0, f0⟩ := open_str Try.underlying9 h0 s0
  obtain ⟨A1, c1', l1, e1, _, r1, n1⟩ := open_list isInt 1 Try.underlying37 c3 (by omega) (fun _ _ _ => open_int) h1 s1
  rw [b3] at n1
  rw [c49] at hl
  replace e0 := cut_eq e0
  replace e1 := cut_eq e1
  simp only [Nat.reduceAdd, List.drop_zero, cut_end hl] at e0 e1
  refine ⟨⟨a0, ⟨A1, c1', l1⟩⟩, ?_, f0, r1, by simpa [reachBytes] using n1⟩
  rw [e0, e1]
  rfl
end
theorem lAt_of {α : Type} {enc : α → List Value} {k : Nat} {P : α → Prop} (hk : ∀ x, (enc x).length = k) {w : World} {A : Option Addr} {l : List α} (h : SlAt w A k (fun _ cs p => cs = enc p ∧ P p) l) : LAt w A k enc l ∧ ∀ p ∈ l, P p := by
  refine ⟨fun i hi => ?_, fun p hp => ?_⟩
  · obtain ⟨b, o, cs, hA, hlt, _, hc, rfl, _⟩ := h i hi
    exact ⟨b, o, hA, hlt, fun j u hu => by
      have hj : j < k := by rw [← hk l[i]]; exact (List.getElem?_eq_some_iff.1 hu).1
      exact (hc j hj).trans hu⟩
  · obtain ⟨i, hi, rfl⟩ := List.getElem_of_mem hp
    obtain ⟨b, o, cs, _, _, _, _, _, h2⟩ := h i hi
    exact h2
theorem shAt_of {w : World} {A : Option Addr} {l : List Ou} (h : SlAt w A 2 isSh l) : ShAt w A l ∧ ∀ o ∈ l, o.m.size ≤ 140737488351232 ∧ o.r.l.length * 8 ≤ 140737488351232 := by
  refine ⟨⟨fun i hi => ?_, fun p hp => ?_⟩, fun p hp => ?_⟩
  · obtain ⟨b, o, cs, hA, hlt, _, hc, rfl, _⟩ := h i hi
    exact ⟨b, o, hA, hlt, fun j u hu => by
      have hj : j < 2 := by rw [← ouL_len l[i]]; exact (List.getElem?_eq_some_iff.1 hu).1
      exact (hc j hj).trans hu⟩
  · obtain ⟨i, hi, rfl⟩ := List.getElem_of_mem hp
    obtain ⟨b, o, cs, _, _, _, _, _, _, h2, _⟩ := h i hi
    exact (lAt_of encI_len h2).1
  · obtain ⟨i, hi, rfl⟩ := List.getElem_of_mem hp
    obtain ⟨b, o, cs, _, _, _, _, _, h1, _, h2⟩ := h i hi
    exact ⟨h1, h2⟩
end Go.Proofs.Ytbjjhnlifgbpmaa
