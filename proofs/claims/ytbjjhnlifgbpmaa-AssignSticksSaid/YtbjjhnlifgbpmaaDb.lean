/- The document's Sticky: its shares put together. -/
import Derived.Test.YtbjjhnlifgbpmaaRt
import Derived.Test.YtbjjhnlifgbpmaaRg
namespace Go.Proofs.Ytbjjhnlifgbpmaa
open Go Go.RowKit Go.Shelf

theorem quo_in2 {pn n : Nat} (hp : pn ≤ 32) : wrap64 ((pn : Int) / (n : Int)) = ((pn / n : Nat) : Int) := by
  have h1 : pn / n ≤ 32 := Nat.le_trans (Nat.div_le_self _ _) hp
  rw [← Int.natCast_ediv, w64n (by omega)]
/-- What a member owns below p. -/
def ofTo (own : List Int) (i p : Nat) : List Int := ((List.range p).filter fun q => own.getD q (-1) == (i : Int)).map Int.ofNat
theorem ofTo_all (own : List Int) (i : Nat) : ofTo own i own.length = ofL own i := rfl
theorem ofTo_zero (own : List Int) (i : Nat) : ofTo own i 0 = [] := rfl
theorem ofTo_yes {own : List Int} {i p : Nat} (h : own.getD p (-1) = (i : Int)) : ofTo own i (p + 1) = ofTo own i p ++ [(p : Int)] := by
  rw [List.getD_eq_getElem?_getD] at h
  rw [ofTo, List.range_succ, List.filter_append, List.map_append]
  simp [ofTo, List.filter_cons, h]
theorem ofTo_no {own : List Int} {i p : Nat} (h : ¬ own.getD p (-1) = (i : Int)) : ofTo own i (p + 1) = ofTo own i p := by
  rw [List.getD_eq_getElem?_getD] at h
  rw [ofTo, List.range_succ, List.filter_append, List.map_append]
  simp [ofTo, List.filter_cons, h]
theorem ofTo_len (own : List Int) (i p : Nat) : (ofTo own i p).length ≤ p := by
  rw [ofTo, List.length_map]; exact Nat.le_trans (List.length_filter_le _ _) (by simp)

section
variable {o : Oper} {a : Act} {w : World} {K : Act → World → Prop} {Q : Exit → Act → World → Prop}
theorem wp_oneS (x : Operand) (ho : o.op = .buildSlice 27 1 #[(0, x)]) (v1 v2 : Value) (hx : a.eval x = .agg #[v1, v2]) (dt : Nat) (hd : o.dst = some dt)
    (h : K { a with tmps := a.tmps.setIfInBounds dt (.slice (some ⟨w.heap.size, 0, none⟩) 1 1) } (w.alloc (.cells #[v1, v2] 49))) : o.wp Try.prog a w K Q := by
  obtain ⟨i0, hi0, hz0, hz1, hz2⟩ := info_parts info49
  refine wp_buildSlice 27 49 1 #[(0, x)] ho #[v1, v2] i0 _ Try.underlying27 hi0 hz0 (by rw [hz1]; omega) (by rw [hz1]; omega) ?_ (by rw [hd]; exact h)
  simp only [List.map_toArray, List.map_cons, List.map_nil, hx, hz1]
  simp only [Instr.fill, Value.cells]
  have e1 : Array.range (1 * 2) = #[0, 1] := Array.ext (by simp) fun i h1 h2 => by
    simp at h1 h2
    match i, h2 with
    | 0, _ => simp
    | 1, _ => simp
  rw [e1]
  simp
theorem wp_appS (s x : Operand) (ho : o.op = .call { callee := .builtin .append, args := #[s, x], argTypes := #[27, 27] }) (base : Nat) (A : Option Addr) (n c : Nat) (xs : List Value) (hs : a.eval s = .slice A n c)
    (hown : w.ownsRow base 49 2 (.slice A n c) n xs) (B : Option Addr) (news : List Value) (hxe : a.eval x = .slice B 1 1) (hsrc : SrcAt w B 1 2 news) (h1 : ∀ u ∈ news, u.oneCell' = true) (hn : n ≤ 1000000000) (hbase : base ≤ w.heap.size) (dt : Nat) (hd : o.dst = some dt)
    (h : ∀ A' c' w', w'.ownsRow base 49 2 (.slice A' (n + 1) c') (n + 1) (xs ++ news) → w.grownBy w' (Value.slice A n c).ownBlock → K { a with tmps := a.tmps.setIfInBounds dt (.slice A' (n + 1) c') } w') : o.wp Try.prog a w K Q := by
  obtain ⟨i0, hi0, hz0, hz1, hz2⟩ := info_parts info49
  obtain ⟨v', w', hr, h2, h3⟩ := run_append_src (P := Try.prog) (w := w) base 27 o.type 49 i0 _ 2 40 Try.underlying27 hi0 hz0 hz1 hz2 rfl (by omega) (.slice A n c) n xs hown B 1 1 news hsrc h1 (by simp only [maxLen]; omega) (by omega) hbase
  obtain ⟨A', c', rfl, _⟩ := ownsRow_tells h2
  unfold Oper.wp execOp
  simp only [ho, resolve, invoke, builtin, Sem.run_bind, Sem.run_pure, Result.andThen_ok, List.map_toArray, List.map_cons, List.map_nil, hs, hxe, hr, Oper.upon, Act.put, hd]
  exact h A' c' w' h2 h3
end
end Go.Proofs.Ytbjjhnlifgbpmaa
