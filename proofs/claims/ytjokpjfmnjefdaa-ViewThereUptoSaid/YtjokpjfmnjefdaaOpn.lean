/- Pairs, rows and changes that came in, opened. -/
import Derived.Test.YtjokpjfmnjefdaaOpen
import Derived.OpenShut
import Derived.Test.YtjokpjfmnjefdaaDd
namespace Go.Proofs.Ytjokpjfmnjefdaa
open Go.ChangeShapes Go.WideShapes Go.ChangeAt Go.RowKit Go.Deep

theorem Try.laidOut : laidOutB Try.prog = true := by kernel_rfl
theorem Try.own : ownKnob Try.prog.godebug = none := by kernel_rfl
theorem c3 : Try.prog.cellsOf 3 = 1 := by kernel_rfl
theorem c4 : Try.prog.cellsOf 4 = 1 := by kernel_rfl
theorem c9 : Try.prog.cellsOf 9 = 1 := by kernel_rfl
theorem c43 : Try.prog.cellsOf 43 = 5 := by kernel_rfl
theorem c65 : Try.prog.cellsOf 65 = 3 := by kernel_rfl
theorem c67 : Try.prog.cellsOf 67 = 3 := by kernel_rfl
theorem c69 : Try.prog.cellsOf 69 = 6 := by kernel_rfl
theorem b43 : Try.prog.bytesOf 43 = 56 := by kernel_rfl
theorem b65 : Try.prog.bytesOf 65 = 40 := by kernel_rfl
theorem b69 : Try.prog.bytesOf 69 = 64 := by kernel_rfl

section
variable {H : Type} {enc : TypeId × Value → H} {w : World} {base : Nat} {spare : Nat → Bool} {held : Bool} {fuel : Nat} {cs : List Value} {x : DataW H × List MemPlace}

def isPr (_ : World) (cs : List Value) (p : Pr) : Prop := cs = prL p ∧ p.key.size ≤ 140737488351232 ∧ okI p.off
theorem open_pr (h : DataW.trod enc Try.prog w base spare held fuel 65 cs = some x) (hs : Sized Try.prog 65 x.1) : ∃ o : Pr, isPr w cs o := by
  obtain ⟨n, hl, hf⟩ := open_struct Try.underlying65 h hs
  obtain ⟨y0, h0, s0⟩ := hf 0 9 0 1 rfl c9
  obtain ⟨y1, h1, s1⟩ := hf 1 9 1 1 rfl c9
  obtain ⟨y2, h2, _⟩ := hf 2 3 2 1 rfl c3
  obtain ⟨a0, e0, f0⟩ := open_str Try.underlying9 h0 s0
  obtain ⟨a1, e1, f1⟩ := open_str Try.underlying9 h1 s1
  obtain ⟨a2, e2, f2⟩ := open_i64 Try.underlying3 h2
  rw [c65] at hl
  replace e0 := cut_eq e0
  replace e1 := cut_eq e1
  replace e2 := cut_eq e2
  simp only [Nat.reduceAdd, List.drop_zero, cut_end hl] at e0 e1 e2
  refine ⟨⟨a0, a1, a2⟩, ?_, f0, f2⟩
  rw [e0, e1, e2]
  rfl
def isRw (_ : World) (cs : List Value) (r : Rw) : Prop := cs = rwL r ∧ r.key.size ≤ 140737488351232 ∧ okI r.off
theorem open_rw (h : DataW.trod enc Try.prog w base spare held fuel 69 cs = some x) (hs : Sized Try.prog 69 x.1) : ∃ o : Rw, isRw w cs o := by
  obtain ⟨n, hl, hf⟩ := open_struct Try.underlying69 h hs
  obtain ⟨y0, h0, _⟩ := hf 0 3 0 1 rfl c3
  obtain ⟨y1, h1, _⟩ := hf 1 3 1 1 rfl c3
  obtain ⟨y2, h2, _⟩ := hf 2 4 2 1 rfl c4
  obtain ⟨y3, h3, s3⟩ := hf 3 67 3 3 rfl c67
  obtain ⟨m, hl3, hg⟩ := open_struct Try.underlying67 h3 s3
  obtain ⟨u0, k0, t0⟩ := hg 0 9 0 1 rfl c9
  obtain ⟨u1, k1, t1⟩ := hg 1 9 1 1 rfl c9
  obtain ⟨u2, k2, _⟩ := hg 2 4 2 1 rfl c4
  obtain ⟨a0, e0, f0⟩ := open_i64 Try.underlying3 h0
  obtain ⟨a1, e1, f1⟩ := open_i64 Try.underlying3 h1
  obtain ⟨a2, e2⟩ := open_bl Try.underlying4 h2
  obtain ⟨g0, d0, q0⟩ := open_str Try.underlying9 k0 t0
  obtain ⟨g1, d1, q1⟩ := open_str Try.underlying9 k1 t1
  obtain ⟨g2, d2⟩ := open_bl Try.underlying4 k2
  rw [c69] at hl
  rw [c67] at hl3
  replace e0 := cut_eq e0
  replace e1 := cut_eq e1
  replace e2 := cut_eq e2
  replace d0 := cut_eq d0
  replace d1 := cut_eq d1
  replace d2 := cut_eq d2
  simp only [Nat.reduceAdd, List.drop_zero, cut_end hl3] at e0 e1 e2 d0 d1 d2
  have e3 : (cs.drop 3).take 3 = cs.drop 3 := List.take_of_length_le (by simp; omega)
  rw [e3] at d0 d1 d2
  refine ⟨⟨a0, a1, a2, g0, g1, g2⟩, ?_, q0, f0⟩
  rw [e0, e1, e2, d0, d1, d2]
  rfl
def isCh (_ : World) (cs : List Value) (c : Ch) : Prop := cs = chL c ∧ c.key.size ≤ 140737488351232
theorem open_ch (h : DataW.trod enc Try.prog w base spare held fuel 43 cs = some x) (hs : Sized Try.prog 43 x.1) : ∃ o : Ch, isCh w cs o := by
  obtain ⟨n, hl, hf⟩ := open_struct Try.underlying43 h hs
  obtain ⟨y0, h0, s0⟩ := hf 0 9 0 1 rfl c9
  obtain ⟨y1, h1, s1⟩ := hf 1 9 1 1 rfl c9
  obtain ⟨y2, h2, s2⟩ := hf 2 9 2 1 rfl c9
  obtain ⟨y3, h3, _⟩ := hf 3 4 3 1 rfl c4
  obtain ⟨y4, h4, _⟩ := hf 4 4 4 1 rfl c4
  obtain ⟨a0, e0, f0⟩ := open_str Try.underlying9 h0 s0
  obtain ⟨a1, e1, f1⟩ := open_str Try.underlying9 h1 s1
  obtain ⟨a2, e2, f2⟩ := open_str Try.underlying9 h2 s2
  obtain ⟨a3, e3⟩ := open_bl Try.underlying4 h3
  obtain ⟨a4, e4⟩ := open_bl Try.underlying4 h4
  rw [c43] at hl
  replace e0 := cut_eq e0
  replace e1 := cut_eq e1
  replace e2 := cut_eq e2
  replace e3 := cut_eq e3
  replace e4 := cut_eq e4
  simp only [Nat.reduceAdd, List.drop_zero, cut_end hl] at e0 e1 e2 e3 e4
  refine ⟨⟨a0, a1, a2, a3, a4⟩, ?_, f0⟩
  rw [e0, e1, e2, e3, e4]
  rfl
end
theorem lAt_of {α : Type} {enc : α → List Value} {k : Nat} {P : α → Prop} (hk : ∀ x, (enc x).length = k) {w : World} {A : Option Addr} {l : List α} (h : SlAt w A k (fun _ cs p => cs = enc p ∧ P p) l) : LAt w A k enc l ∧ ∀ p ∈ l, P p := by
  refine ⟨fun i hi => ?_, fun p hp => ?_⟩
  · obtain ⟨b, o, cs, hA, hlt, _, hc, rfl, _⟩ := h i hi
    exact ⟨b, o, hA, hlt, fun j u hu => by
      have hj : j < k := by rw [← hk l[i]]; exact (List.getElem?_eq_some_iff.1 hu).1
      exact (hc j hj).trans hu⟩
  · obtain ⟨i, hi, rfl⟩ := List.getElem_of_mem hp
    obtain ⟨b, o, cs, _, _, _, _, _, h2⟩ := h i hi
    exact h2
end Go.Proofs.Ytjokpjfmnjefdaa
