/- assign.Sticky's own memory: its boxes, its two decks, what members had, what they get. -/
import Derived.Test.YtbjjhnlifgbpmaaRg
namespace Go.Proofs.Ytbjjhnlifgbpmaa
open Go.RowKit Go.Shelf

structure Env where
  bl : Nat
  bm : Nat
  bb : Nat
  br : Nat
  bf : Nat
  bd : Nat
  bh : Nat
  bo : Nat
  bk : Nat
  bg : Nat
  Df : Nat
  Dd : Nat
  H : Nat
  O : Nat
  mb : Nat
  Al : Option Addr
  cl : Nat
  n : Nat
/-- A share: a member, what it gets. -/
structure Ou where
  m : ByteArray
  r : Rw3
deriving Inhabited
def ouL (o : Ou) : List Value := [.string o.m, o.r.v]
theorem ouL_len (o : Ou) : (ouL o).length = 2 := rfl
def rwL (r : Rw3) : List Value := [r.v]
theorem rwL_len (r : Rw3) : (rwL r).length = 1 := rfl
abbrev ptr (b : Nat) : Value := .pointer (some ⟨b, 0, none⟩)
def Env.fx (E : Env) (base rest : Int) (fv dv : Value) (hads : List Rw3) (outs : List Ou) : List (Nat × List Value) :=
  [(E.bb, [.int .i64 base]), (E.br, [.int .i64 rest]), (E.bf, [ptr E.Df]), (E.bd, [ptr E.Dd]), (E.bh, [.slice (some ⟨E.H, 0, none⟩) E.n E.n]), (E.bo, [.slice (some ⟨E.O, 0, none⟩) E.n E.n]),
   (E.bk, [.func (.func 25) #[] #[ptr E.bh, ptr E.bf, ptr E.bo]]), (E.bg, [.func (.func 27) #[] #[ptr E.bf, ptr E.bo]]), (E.Df, [fv]), (E.Dd, [dv]), (E.H, hads.flatMap rwL), (E.O, outs.flatMap ouL)]
/-- The rows: the free ones, the ones to be dealt, what members had, what they get. -/
def rsOf (free dealt : Rw3) (hads : List Rw3) (outs : List Ou) : List Rw3 := free :: dealt :: (hads ++ outs.map (·.r))
structure StS (w : World) (B : Nat) (E : Env) (base rest : Int) (fv : Value) (free dealt : Rw3) (hads : List Rw3) (outs : List Ou) : Prop where
  mem : Mem w B (E.fx base rest fv dealt.v hads outs) (rsOf free dealt hads outs)
  hl : hads.length = E.n
  ol : outs.length = E.n
  nl : E.n ≤ 1000

theorem flat_set {α : Type} {k : Nat} {enc : α → List Value} (hk : ∀ x, (enc x).length = k) (y : α) (v : Value) : ∀ (l : List α) (i : Nat) (hi : i < l.length) (j : Nat), j < k → enc y = (enc l[i]).set j v → (l.flatMap enc).set (i * k + j) v = (l.set i y).flatMap enc
  | x :: l, 0, _, j, hj, h => by
    simp only [List.getElem_cons_zero] at h
    simp only [List.flatMap_cons, List.set_cons_zero, Nat.zero_mul, Nat.zero_add]
    rw [List.set_append, if_pos (by rw [hk]; exact hj), h]
  | x :: l, i + 1, hi, j, hj, h => by
    simp only [List.getElem_cons_succ] at h
    simp only [List.flatMap_cons, List.set_cons_succ]
    rw [List.set_append, if_neg (by rw [hk, Nat.succ_mul]; omega), hk, show (i + 1) * k + j - k = i * k + j from by rw [Nat.succ_mul]; omega, flat_set hk y v l i (by simpa using hi) j hj h]
theorem rs_free (free dealt : Rw3) (hads : List Rw3) (outs : List Ou) : (rsOf free dealt hads outs)[0]? = some free := rfl
theorem rs_dealt (free dealt : Rw3) (hads : List Rw3) (outs : List Ou) : (rsOf free dealt hads outs)[1]? = some dealt := rfl
theorem rs_had {free dealt : Rw3} {hads : List Rw3} {outs : List Ou} {i : Nat} (hi : i < hads.length) : (rsOf free dealt hads outs)[2 + i]? = some hads[i] := by
  simp only [rsOf, show 2 + i = i + 1 + 1 from by omega, List.getElem?_cons_succ]
  rw [List.getElem?_append_left hi, List.getElem?_eq_getElem hi]
theorem rs_out {free dealt : Rw3} {hads : List Rw3} {outs : List Ou} {i : Nat} (hi : i < outs.length) : (rsOf free dealt hads outs)[2 + (hads.length + i)]? = some outs[i].r := by
  simp only [rsOf, show 2 + (hads.length + i) = (hads.length + i) + 1 + 1 from by omega, List.getElem?_cons_succ]
  rw [List.getElem?_append_right (by omega)]
  simp [hi]
theorem rs_set_had {free dealt : Rw3} {hads : List Rw3} {outs : List Ou} {i : Nat} (hi : i < hads.length) (r : Rw3) : (rsOf free dealt hads outs).set (2 + i) r = rsOf free dealt (hads.set i r) outs := by
  simp only [rsOf, show 2 + i = i + 1 + 1 from by omega, List.set_cons_succ]
  rw [List.set_append, if_pos hi]
theorem rs_set_out {free dealt : Rw3} {hads : List Rw3} {outs : List Ou} {i : Nat} (o : Ou) : (rsOf free dealt hads outs).set (2 + (hads.length + i)) o.r = rsOf free dealt hads (outs.set i o) := by
  simp only [rsOf, show 2 + (hads.length + i) = (hads.length + i) + 1 + 1 from by omega, List.set_cons_succ]
  rw [List.set_append, if_neg (by omega), List.map_set]
  simp
theorem rs_set_free (free dealt r : Rw3) (hads : List Rw3) (outs : List Ou) : (rsOf free dealt hads outs).set 0 r = rsOf r dealt hads outs := rfl
theorem rs_set_dealt (free dealt r : Rw3) (hads : List Rw3) (outs : List Ou) : (rsOf free dealt hads outs).set 1 r = rsOf free r hads outs := rfl
end Go.Proofs.Ytbjjhnlifgbpmaa
