/- A law's operations, opened with all that they hold. -/
import Derived.Test.YteaenhmiomoocaaRv
namespace Go.Proofs.Yteaenhmiomoocaa
open Go.RowKit Go.Shelf

theorem text_of {w : World} {A : Option Addr} {l : List UInt8} {c : Nat} (h : SlAt w A 1 isByte l) : TextAt w (.slice A l.length c) l := by
  by_cases h0 : l = []
  · subst h0; exact .inl ⟨rfl, _, _, rfl⟩
  · obtain ⟨b, o, cs, hA, hlt, _⟩ := h 0 (by cases l with | nil => exact absurd rfl h0 | cons => simp)
    subst hA
    refine .inr ⟨b, o, c, rfl, hlt, fun j x hx => ?_⟩
    have hj : j < l.length := by have := (List.getElem?_eq_some_iff.1 hx).1; simpa using this
    obtain ⟨b', o', cs', e, _, _, hc, rfl⟩ := h j hj
    cases e
    have := hc 0 (by omega)
    simp only [Nat.mul_one, Nat.add_zero] at this
    rw [this]
    simp [tC, bV, hj] at hx
    simp [← hx]
theorem low_of {α : Type} {w : World} {A : Option Addr} {l : List α} {size : Nat} {is : World → List Value → α → Prop} (h : SlAt w A size is l) : ∀ b x, A = some ⟨b, x, none⟩ → l ≠ [] → b < w.heap.size := fun b x e h0 => by
  obtain ⟨b', o, cs, hA, hlt, _⟩ := h 0 (by cases l with | nil => exact absurd rfl h0 | cons => simp)
  rw [e] at hA
  cases hA
  exact hlt
theorem nums_of {w : World} {A : Option Addr} {l : List Int} (h : SlAt w A 1 isInt l) : NumsAt w A l := fun i hi => by
  obtain ⟨b, o, cs, hA, hlt, _, hc, rfl, hk⟩ := h i hi
  have := hc 0 (by omega)
  simp only [Nat.mul_one, Nat.add_zero] at this
  exact ⟨b, o, hA, hlt, by rw [this]; rfl, hk⟩
theorem opsF_of {w : World} {A : Option Addr} {l : List OpD} (h : SlAt w A 6 isOp l) : OpsF w A l := fun i hi => by
  obtain ⟨b, x, cs, hA, hlt, _, hc, k1, k2, k3, A1, c1, A2, c2, s1, _, s2, _, rfl⟩ := h i hi
  refine ⟨b, x, A1, c1, A2, c2, hA, hlt, fun j u hu => ?_, ⟨k1, k2, k3⟩, text_of s1, low_of s1, nums_of s2, low_of s2⟩
  have hj : j < 6 := (List.getElem?_eq_some_iff.1 hu).1
  rw [hc j hj]
  exact hu
end Go.Proofs.Yteaenhmiomoocaa
