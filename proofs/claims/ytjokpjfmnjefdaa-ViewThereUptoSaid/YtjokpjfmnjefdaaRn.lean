/- A region that draws its order within a round of a range over a function; stores in whatever order. Over any program. -/
import Derived.Test.YtjokpjfmnjefdaaHd
namespace Go.Proofs.Ytjokpjfmnjefdaa
open Go Go.Shelf Go.RowKit
section
variable {P : Program} {o : Oper} {a : Act} {w : World} {K : Act → World → Prop} {Q : Exit → Act → World → Prop} {ops : Array Oper} {md : Region.Mode} {S : World → Prop} {n l : Nat}

def OnlyN (Q : Exit → Act → World → Prop) : Exit → Act → World → Prop := fun e a w => e = .normal ∧ Q .normal a w
def notDefer (o : Oper) : Bool := match o.op with | .defer _ => false | _ => true

theorem wpIn_of_wp (hd : notDefer o = true) (h : o.wp P a w K Q) : o.wpIn (Fence.wide.inRound l) n P a w K Q := by
  have hd' : ∀ c, o.op ≠ .defer c := by intro c e; simp [notDefer, e] at hd
  refine ⟨fun _ _ => trivial, ?_⟩
  rw [show (Fence.wide.inRound l).round = some l from rfl, Oper.semAt_some _ _ _ hd']
  unfold Oper.wp at h
  generalize (execOp a.eval o).run P w = r at h
  cases r with
  | ok x w' =>
    cases x <;> simp only [Oper.upon, Oper.uponIn] at h ⊢
    all_goals first
      | exact h
      | exact h.elim
      | (refine ⟨fun e => ?_, CallsIn.inRound l (callsIn_wide.2 (h.mono fun e w'' he => ?_))⟩
         · cases e
         · cases e <;> exact he)
      | (refine ⟨fun e => (by cases e), fun c cs _ => ?_⟩
         obtain ⟨v, w2, h1, h2⟩ := h c cs
         exact ⟨v, w2, h1, stepsIn_wide.2 h2⟩)
  | halt x w' => cases x <;> simp only [Oper.upon, Oper.uponIn] at h ⊢ <;> exact h
theorem wpAnyIn_of : ∀ (fuel : Nat) (dn : Array Bool) (a : Act) (w : World), (∀ o ∈ ops, notDefer o = true) → (∀ a w, ¬ Q .outgrown a w) → wpAny P md ops Q fuel dn a w → wpAnyIn (Fence.wide.inRound l) n P md ops Q fuel dn a w
  | 0, _, _, _, _, _, h => h
  | fuel + 1, dn, a, w, hd, hq, h => by
    refine ⟨h.1, fun i hi => ?_⟩
    have h2 := h.2 i hi
    unfold wpOp at h2
    unfold wpOpIn
    cases ho : ops[i]? with
    | none => rw [ho] at h2; exact wpAnyIn_of fuel _ _ _ hd hq h2
    | some o =>
      rw [ho] at h2
      dsimp only at h2 ⊢
      have hmem : o ∈ ops := Array.mem_of_getElem? ho
      split
      · rename_i hw
        rw [if_pos hw] at h2
        rcases h2 with h2 | ⟨_, b, v, h2⟩
        · exact Oper.wpIn_mono (fun b v hb => wpAnyIn_of fuel _ b v hd hq hb) (wpIn_of_wp (hd o hmem) h2)
        · exact absurd h2 (hq _ _)
      · rename_i hw
        rw [if_neg hw] at h2
        exact ⟨fun _ _ => trivial, wpAnyIn_of fuel _ _ _ hd hq h2⟩

theorem regionIn {id : Nat} (hm : P.follows .mixedOrders = true) (hd : ops.all notDefer = true) (h : wpAny P .any ops (OnlyN Q) ops.size (Array.replicate ops.size false) a w.drew) :
    (Code.region id ops true).wpIn (Fence.wide.inRound l) n P Q a w := by
  refine Code.wpIn_mono (Q := OnlyN Q) (fun e a w h => ?_) (wpIn_region_any hm (wpAnyIn_of _ _ _ _ (fun o ho => (Array.all_eq_true_iff_forall_mem.1 hd) o ho) (fun a w h => by cases h.1) h))
  obtain ⟨rfl, h⟩ := h
  exact h

theorem wp_store_one (t : TypeId) (x y : Operand) (ho : o.op = .store t x y) {b k : Nat} {v : Value} (hx : a.eval x = .pointer (some ⟨b, k, none⟩)) (hv : a.eval y = v) (h1 : v.cells = #[v]) (hone : v.oneCell' = true)
    (hi : (P.info? t).map (·.size) = some 1) (hc : (w.cell? ⟨b, k, none⟩).isSome = true) (hf : w.frozen? ⟨b, k, none⟩ = false) (h : K (a.put o.dst undef) (w.setCell ⟨b, k, none⟩ v)) : o.wp P a w K Q := by
  obtain ⟨u, hu⟩ := Option.isSome_iff_exists.1 hc
  cases hq : P.info? t with
  | none => rw [hq] at hi; cases hi
  | some i =>
    rw [hq] at hi
    have hi2 : i.size = 1 := by simpa using hi
    unfold Oper.wp execOp
    simp only [ho, hx, hv, Instr.storeAt, Instr.sureAddr, Sem.run_bind, Sem.run_pure, Result.andThen_ok, storeVar, h1, sizeOf]
    rw [run_typeInfo _ hq]
    have hst : (storeCells ⟨b, k, none⟩ [v]).run P w = .ok () (w.setCell ⟨b, k, none⟩ v) := by
      simp only [storeCells, Sem.run_bind, Addr.add_mid, Nat.add_zero]
      rw [run_store P w _ v _ hone, hu]
      simp [hf]
    simp only [Result.andThen_ok, hi2, List.size_toArray, List.length_cons, List.length_nil, Nat.zero_add, ne_eq, not_true_eq_false, if_false, hst, Oper.upon]
    exact h

theorem OnlyN.no {e : Exit} {a a' : Act} {w w' : World} (he : e ≠ .normal) (h : OnlyN Q e a w) : OnlyN Q e a' w' := absurd h.1 he
/-- A store that alone may come up. -/
theorem wpAnyH.oneStore {i n : Nat} {dn : Array Bool} {o : Oper} {t : TypeId} {x y : Operand} {b k : Nat} {v : Value} {vs : List Value} (hr : Region.ready md ops dn = [i]) (hi : ops[i]? = some o) (hg : o.guard = none) (hd : o.dst = none)
    (ho : o.op = .store t x y) (hx : a.eval x = .pointer (some ⟨b, k, none⟩)) (hy : a.eval y = v) (h1 : v.cells = #[v]) (hone : v.oneCell' = true) (hi1 : (P.info? t).map (·.size) = some 1) (hB : Blk w b vs) (hk : k < vs.length)
    (h : ∀ w', Blk w' b (vs.set k v) → w.grownBy w' (some b) → S w' ∧ wpAnyH P md ops Q S n (dn.setIfInBounds i true) a w') : wpAnyH P md ops Q S (n + 1) dn a w := by
  refine wpAnyH.one hr hi (by simp [Region.wanted, hg]) (wp_store_one t x y ho hx hy h1 hone hi1 ?_ (hB.unf _) ?_)
  · rw [hB.cell, List.getElem?_eq_getElem hk]; rfl
  · rw [hd]
    exact h _ (hB.set_same _ _) (gr_set (World.grownBy.refl _ _) _ _)
theorem regionInH {id : Nat} (hm : P.follows .mixedOrders = true) (hd : ops.all notDefer = true) (S : World → Prop) (h : wpAnyH P .any ops (OnlyN Q) S ops.size (Array.replicate ops.size false) a w.drew) :
    (Code.region id ops true).wpIn (Fence.wide.inRound l) n P Q a w := regionIn hm hd (wpAny_of_held _ _ _ _ h)
end
end Go.Proofs.Ytjokpjfmnjefdaa
