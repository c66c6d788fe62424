/- Sticky's first closure: what a member had of what is to be dealt. -/
import Derived.Test.YtbjjhnlifgbpmaaCm
namespace Go.Proofs.Ytbjjhnlifgbpmaa
open Go.RowKit Go.Shelf Go.Maps
attribute [local go_sem] Oper.semAt_some

/-- What lies below Sticky's own memory: the names, and what each name had. -/
structure LowS (w : World) (B : Nat) (E : Env) (ls : List ByteArray) (nn : Nat) (fm : List (ByteArray × Rw3)) : Prop where
  bl : Blk w E.bl [.slice E.Al ls.length E.cl]
  bm : Blk w E.bm [.map (some E.mb)]
  names : LAt w E.Al 1 encS ls
  map : SM Try.prog 9 w E.mb nn Rw3.v fm
  vals : ∀ x ∈ fm, LAt w x.2.A 1 encI x.2.l
  ltl : E.bl < B
  ltm : E.bm < B
  ltn : LBel B E.Al ls
  ltb : E.mb < B
  ltv : ∀ x ∈ fm, LBel B x.2.A x.2.l
  kl : ∀ s ∈ ls, s.size ≤ maxLen
theorem LowS.below {w w' : World} {B : Nat} {E : Env} {ls : List ByteArray} {nn : Nat} {fm : List (ByteArray × Rw3)} (h : LowS w B E ls nn fm) (hb : Below B w w') : LowS w' B E ls nn fm :=
  ⟨h.bl.below hb h.ltl, h.bm.below hb h.ltm, h.names.low hb h.ltn, h.map.below hb h.ltb, fun x hx => (h.vals x hx).low hb (h.ltv x hx), h.ltl, h.ltm, h.ltn, h.ltb, h.ltv, h.kl⟩
def noRow : Rw3 := ⟨none, 0, []⟩
/-- What a name had. -/
def hadOf (fm : List (ByteArray × Rw3)) (s : ByteArray) : Rw3 := (lookS fm s).getD noRow
theorem zero37 : ∀ w : World, (zeroValue 37).run Try.prog w = .ok (Rw3.v noRow) w := fun w => Try.zeroValue37 w
theorem lookS_mem {α : Type} {m : List (ByteArray × α)} {k : ByteArray} {v : α} (h : lookS m k = some v) : ∃ x ∈ m, x.2 = v := by
  obtain ⟨x, hx, e⟩ := Option.map_eq_some_iff.1 h
  exact ⟨x, List.mem_of_find?_eq_some hx, e⟩
theorem hadOf_at {w : World} {B : Nat} {E : Env} {ls : List ByteArray} {nn : Nat} {fm : List (ByteArray × Rw3)} (h : LowS w B E ls nn fm) (s : ByteArray) : LAt w (hadOf fm s).A 1 encI (hadOf fm s).l := by
  unfold hadOf
  cases e : lookS fm s with
  | none => exact LAt.nil
  | some v => obtain ⟨x, hx, rfl⟩ := lookS_mem e; exact h.vals x hx

/-- values, sorted: of a slice that is read. -/
theorem had_sorted (fm : List (ByteArray × Rw3)) (s : ByteArray) (w : World) (hA : LAt w (hadOf fm s).A 1 encI (hadOf fm s).l) (hl : (hadOf fm s).l.length * 8 ≤ 140737488351232) :
    Calls Try.prog 30 #[.func (.func 48) #[] #[.pointer (some ⟨w.heap.size, 0, none⟩)]] (w.alloc (.cells #[(hadOf fm s).v] 37)) fun e w' => ∃ A' c', e = .returned (.slice A' (hadOf fm s).l.length c') ∧
      w'.ownsRow w.heap.size 3 1 (.slice A' (hadOf fm s).l.length c') (hadOf fm s).l.length ((sortZ (hadOf fm s).l).flatMap encI) ∧ Below w.heap.size w w' := by
  refine (sortedI_any w.heap.size (hadOf fm s).A (hadOf fm s).c (hadOf fm s).l _ (Blk.new' _ _ rfl) (hA.below (bl_alloc (Below.refl _ _) _)) hl).mono ?_
  rintro e w' ⟨A', c', rfl, h1, h2⟩
  exact ⟨A', c', rfl, ownsRow_le h1 (by simp; omega), bl_tr (bl_alloc (Below.refl _ _) _) h2⟩
end Go.Proofs.Ytbjjhnlifgbpmaa
