/- Sticky's memory told by lists: what is free, what is to be dealt, what members had, what they get. -/
import Derived.Test.YtbjjhnlifgbpmaaGt
namespace Go.Proofs.Ytbjjhnlifgbpmaa
open Go.RowKit Go.Shelf
attribute [local go_sem] Oper.semAt_some

/-- f: free, dl: to be dealt, hl: what members had, ms: their names as far as told, os: what they get. -/
def StP (w : World) (B : Nat) (E : Env) (base rest : Nat) (f dl : List Int) (hl : List (List Int)) (ms : List ByteArray) (os : List (List Int)) : Prop :=
  ∃ free dealt hads outs, StS w B E base rest free.v free dealt hads outs ∧ free.l = f ∧ dealt.l = dl ∧ hads.map Rw3.l = hl ∧ outs.map Ou.m = ms ∧ outs.map (·.r.l) = os
/-- The same, while the free ones are dealt off the top. -/
def StQ (w : World) (B : Nat) (E : Env) (base rest : Nat) (f dl : List Int) (hl : List (List Int)) (ms : List ByteArray) (os : List (List Int)) : Prop :=
  ∃ free dealt hads outs, StL w B E base rest free dealt hads outs f ∧ dealt.l = dl ∧ hads.map Rw3.l = hl ∧ outs.map Ou.m = ms ∧ outs.map (·.r.l) = os

section
variable {w w' : World} {B : Nat} {E : Env} {base rest : Nat} {f dl : List Int} {hl : List (List Int)} {ms : List ByteArray} {os : List (List Int)}
theorem StP.q (h : StP w B E base rest f dl hl ms os) : StQ w B E base rest f dl hl ms os := by
  obtain ⟨free, dealt, hads, outs, hS, rfl, h2, h3, h4, h5⟩ := h
  have hr := hS.mem.row 0 _ (rs_free _ _ _ _)
  refine ⟨free, dealt, hads, outs, ⟨free.A, free.c, hS, LAt.of_own encI_len hr rfl, ?_, fun g o e => by simp [Rw3.b, e]⟩, h2, h3, h4, h5⟩
  exact ownsRow_cap hr
theorem map_getD {α β : Type} [Inhabited α] (g : α → β) (l : List α) (i : Nat) (hi : i < l.length) (d : β) : (l.map g).getD i d = g (l.getD i default) := by
  rw [getD_get _ _ (by simpa using hi), getD_get _ _ hi, List.getElem_map]
theorem getD_self {α : Type} (l : List α) (i : Nat) (d : α) (hi : i < l.length) : l.set i (l.getD i d) = l := by
  rw [getD_get _ _ hi]; exact List.set_getElem_self hi

theorem keepP_any (h : StP w B E base rest f dl hl ms os) (i k : Nat) (p : Int) (hi : i < E.n) (hp : (hl.getD i [])[k]? = some p) (hf : f.length ≤ 32) (ho : (os.getD i []).length ≤ 1000) :
    Calls Try.prog 25 #[.int .i64 (i : Nat), .int .i64 (k : Nat), ptr E.bh, ptr E.bf, ptr E.bo] w fun e w' => e = .returned (.tuple #[]) ∧ StP w' B E base rest (f.erase p) dl hl ms (os.set i (os.getD i [] ++ [p])) ∧ Below B w w' := by
  obtain ⟨free, dealt, hads, outs, hS, rfl, rfl, rfl, rfl, rfl⟩ := h
  have h1 : i < hads.length := by have := hS.hl; omega
  have h2 : i < outs.length := by have := hS.ol; omega
  rw [map_getD Rw3.l hads i h1] at hp
  rw [map_getD (fun o : Ou => o.r.l) outs i h2] at ho ⊢
  refine (keep_any w B E base rest free dealt hads outs hS i k p hi hp hf ho).mono ?_
  rintro e w' ⟨rfl, r', hr', hS', hb⟩
  refine ⟨rfl, ⟨_, dealt, hads, _, hS', rfl, rfl, rfl, ?_, ?_⟩, hb⟩
  · rw [List.map_set, ← map_getD Ou.m outs i h2 default]
    exact getD_self _ _ _ (by simpa using h2)
  · rw [List.map_set, hr']
theorem getN_any (h : StQ w B E base rest [] dl hl ms os) (i : Nat) :
    Calls Try.prog 27 #[.int .i64 (i : Nat), ptr E.bf, ptr E.bo] w fun e w' => e = .returned (.bool false) ∧ w' = w := by
  obtain ⟨free, dealt, hads, outs, hS, _⟩ := h
  exact get_none w B E base rest free dealt hads outs hS i
theorem getS_any (p : Int) (h : StQ w B E base rest (p :: f) dl hl ms os) (i : Nat) (hi : i < E.n) (hf : f.length ≤ 32) (ho : (os.getD i []).length ≤ 1000) :
    Calls Try.prog 27 #[.int .i64 (i : Nat), ptr E.bf, ptr E.bo] w fun e w' => e = .returned (.bool true) ∧ StQ w' B E base rest f dl hl ms (os.set i (os.getD i [] ++ [p])) ∧ Below B w w' := by
  obtain ⟨free, dealt, hads, outs, hS, rfl, rfl, rfl, rfl⟩ := h
  have h2 : i < outs.length := by obtain ⟨_, _, hS', _⟩ := hS; have := hS'.ol; omega
  rw [map_getD (fun o : Ou => o.r.l) outs i h2] at ho ⊢
  refine (get_some w B E base rest free dealt hads outs p f hS i hi hf ho).mono ?_
  rintro e w' ⟨rfl, r', hr', hS', hb⟩
  refine ⟨rfl, ⟨_, dealt, hads, _, hS', rfl, rfl, ?_, ?_⟩, hb⟩
  · rw [List.map_set, ← map_getD Ou.m outs i h2 default]
    exact getD_self _ _ _ (by simpa using h2)
  · rw [List.map_set, hr']
end
end Go.Proofs.Ytbjjhnlifgbpmaa
