/- Entries as a table: which may be one, and which table they are. No program in sight but for the words. -/
import Derived.Test.YtjpmdjjihdicdaaGd
import Derived.Test.YtjpmdjjihdicdaaRi
namespace Go.Proofs.Ytjpmdjjihdicdaa

def stOf (x : Ent) : Int × St := (x.p, ⟨x.ep, x.nx, x.last⟩)
def loadM (l : List Ent) : List (Int × St) := l.map stOf
/-- May entries be a table, each behind the one with the given number? -/
def goodFrom : Int → List Ent → Bool
  | _, [] => true
  | q, x :: r => rightE x && decide (q < x.p) && goodFrom x.p r
def goodL (l : List Ent) : Bool := goodFrom (-1) l

theorem rightE_ok {x : Ent} (h : rightE x = true) : 0 ≤ x.p ∧ x.p < 281474976710656 ∧ 0 ≤ x.ep ∧ x.ep < 2147483648 ∧ 0 ≤ x.nx ∧ x.nx ≤ 2147483648 ∧ x.last.length ≤ 5 := by
  unfold rightE badE at h
  simp at h
  omega

theorem insI_last {α : Type} (x : Int × α) : ∀ m : List (Int × α), (∀ y ∈ m, y.1 < x.1) → insI x m = m ++ [x]
  | [], _ => rfl
  | y :: m, h => by
    have h1 := h y (List.mem_cons_self ..)
    unfold insI
    rw [if_neg (by omega), insI_last x m (fun z hz => h z (List.mem_cons_of_mem _ hz))]
    rfl
theorem putI_last {α : Type} (m : List (Int × α)) (k : Int) (v : α) (h : ∀ y ∈ m, y.1 < k) : putI m k v = m ++ [(k, v)] := by
  unfold putI
  have hd : delI m k = m := by
    unfold delI
    rw [List.filter_eq_self]
    intro y hy
    have := h y hy
    simp; omega
  rw [hd]
  exact insI_last (k, v) m h
theorem loadM_snoc (l : List Ent) (x : Ent) (q : Int) (hq : ∀ y ∈ l, y.p ≤ q) (h : q < x.p) : putI (loadM l) x.p ⟨x.ep, x.nx, x.last⟩ = loadM (l ++ [x]) := by
  rw [putI_last]
  · simp [loadM, stOf]
  · intro y hy
    obtain ⟨z, hz, rfl⟩ := List.mem_map.1 hy
    have := hq z hz
    simp only [stOf]
    omega
theorem goodFrom_right : ∀ (l : List Ent) (q : Int), goodFrom q l = true → ∀ x ∈ l, rightE x = true
  | [], _, _, x, hx => by simp at hx
  | y :: l, q, h, x, hx => by
    simp only [goodFrom, Bool.and_eq_true] at h
    rcases List.mem_cons.1 hx with rfl | hx
    · exact h.1.1
    · exact goodFrom_right l _ h.2 x hx
theorem goodL_good {l : List Ent} (h : goodL l = true) : GoodM (loadM l) 5 := by
  intro y hy
  obtain ⟨x, hx, rfl⟩ := List.mem_map.1 hy
  have := rightE_ok (goodFrom_right l _ h x hx)
  simp only [stOf]
  omega
/-- The table's entries are those that were loaded. -/
theorem loadM_ents {l : List Ent} (h : goodL l = true) : (loadM l).map entOf = l := by
  unfold loadM
  rw [List.map_map]
  have hl : ∀ x ∈ l, (entOf ∘ stOf) x = x := by
    intro x hx
    have := rightE_ok (goodFrom_right l _ h x hx)
    simp only [Function.comp, entOf, stOf, lasts, show x.last.length - 5 = 0 by omega, List.drop_zero]
  rw [List.map_congr_left hl, List.map_id']
theorem goodFrom_drop {l : List Ent} {q : Int} {i : Nat} (hi : i < l.length) : goodFrom q (l.drop i) = (rightE l[i] && decide (q < l[i].p) && goodFrom l[i].p (l.drop (i + 1))) := by
  rw [List.drop_eq_getElem_cons hi]; rfl
end Go.Proofs.Ytjpmdjjihdicdaa
