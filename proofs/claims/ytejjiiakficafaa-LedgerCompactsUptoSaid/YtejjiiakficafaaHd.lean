/- A region that draws its order, walked by hand: what is held of the world may be strengthened on the way. Over any program. -/
import Derived.Test.YtejjiiakficafaaLast
import Derived.Test.YtejjiiakficafaaBase
namespace Go.Proofs.Ytejjiiakficafaa
open Go Go.Shelf
section
variable {P : Program} {o : Oper} {a : Act} {w : World} {K : Act → World → Prop} {Q : Exit → Act → World → Prop} {ops : Array Oper} {md : Region.Mode} {S S' : World → Prop}
theorem wp_goCall1 (f : FuncId) (hf : Enters P f) (x : Operand) (ts : Array TypeId) (ho : o.op = .call { callee := .value (.func f), args := #[x], argTypes := ts }) (dt : Nat) (hd : o.dst = some dt)
    (h : Calls P f #[a.eval x] w fun e w' => ∃ v, e = .returned v ∧ K { a with tmps := a.tmps.setIfInBounds dt v } w') : o.wp P a w K Q := by
  unfold Oper.wp execOp
  simp only [ho, resolve, invoke, Sem.run_bind, Deferred.ofValue, Act.eval]
  simp [Result.andThen, hf _ _, Oper.upon_enter]
  refine h.mono ?_
  rintro e w' ⟨v, rfl, hk⟩
  simp only [hd, Act.put]
  exact hk

theorem wpAnyH.strong (hS : ∀ w, S' w → S w) : ∀ (n : Nat) (dn : Array Bool) (a : Act) (w : World), wpAnyH P md ops Q S' n dn a w → wpAnyH P md ops Q S n dn a w
  | 0, _, _, _, h => h
  | n + 1, _, _, _, h => ⟨h.1, fun i hi => wpOp_mono (fun a' w' h' => ⟨hS _ h'.1, wpAnyH.strong hS n _ a' w' h'.2⟩) (h.2 i hi)⟩
theorem wpAnyH.region {id : Nat} (hm : P.follows .mixedOrders = true) (S : World → Prop)
    (h : wpAnyH P .any ops (NoPanic Q) S ops.size (Array.replicate ops.size false) a w.drew) : (Code.region id ops true).wp P Q a w :=
  wp_region_noPanic (wp_region_any hm (wpAny_of_held _ _ _ _ h))
theorem wpAnyH.takeT {i t : Nat} {v : Value} {n : Nat} {dn : Array Bool} {oi : Oper} (hi : ops[i]? = some oi) (hd : oi.dst = some t) (hs : Region.noSelect ops = true) (hf : Region.free md ops dn i = true)
    (hr : (Region.ready md ops dn).contains i = true) (hQ : ∀ c a w, Q (.panic c) (a.put oi.dst v) w → Q (.panic c) a w) (hy : YieldsIf P ops S oi v a) (hS : S w)
    (h : wpAnyH P md ops Q S n (dn.setIfInBounds i true) { a with tmps := a.tmps.setIfInBounds t v } w) : wpAnyH P md ops Q S (n + 1) dn a w :=
  wpAnyH_take hi hs hf hr hQ hy hS (by rw [hd]; exact h)
theorem wpAnyH.one {i : Nat} {o : Oper} {n : Nat} {dn : Array Bool} (hr : Region.ready md ops dn = [i]) (hi : ops[i]? = some o) (hw : Region.wanted o (yielded ops a.tmps) = true)
    (h : o.wp P a w (fun a' w' => S w' ∧ wpAnyH P md ops Q S n (dn.setIfInBounds i true) a' w') Q) : wpAnyH P md ops Q S (n + 1) dn a w :=
  wpAnyH_all hr (by simp) fun j hj => by
    rw [List.mem_singleton] at hj
    subst hj
    unfold wpOp
    simp only [hi]
    rw [if_pos hw]
    exact .inl h
end
end Go.Proofs.Ytejjiiakficafaa
