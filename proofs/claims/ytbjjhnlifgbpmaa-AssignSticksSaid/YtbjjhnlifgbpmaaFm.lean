/- What each name had: the first old share of that name tells. -/
import Derived.Test.YtbjjhnlifgbpmaaBw
namespace Go.Proofs.Ytbjjhnlifgbpmaa
section
variable {α : Type}
theorem lookS_cons (y : ByteArray × α) (r : List (ByteArray × α)) (s : ByteArray) : lookS (y :: r) s = if y.1 = s then some y.2 else lookS r s := by
  unfold lookS
  by_cases h : y.1 = s <;> simp [h]
theorem lookS_ins (k : ByteArray) (v : α) (s : ByteArray) : ∀ l : List (ByteArray × α), (∀ y ∈ l, ¬ y.1 = k) → lookS (insS (k, v) l) s = if k = s then some v else lookS l s
  | [], _ => by rw [insS, lookS_cons]
  | y :: r, h => by
    rw [insS]
    split
    · rw [lookS_cons]
    · rw [lookS_cons, lookS_ins k v s r fun z hz => h z (List.mem_cons_of_mem _ hz), lookS_cons]
      by_cases hy : y.1 = s
      · have : ¬ k = s := fun e => h y List.mem_cons_self (hy.trans e.symm)
        simp [hy, this]
      · simp [hy]
theorem lookS_del (k s : ByteArray) (h : ¬ k = s) : ∀ l : List (ByteArray × α), lookS (delS l k) s = lookS l s
  | [] => rfl
  | y :: r => by
    have ih := lookS_del k s h r
    unfold delS at ih ⊢
    by_cases hy : y.1 = k
    · have : ¬ y.1 = s := fun e => h (hy.symm.trans e)
      rw [lookS_cons, if_neg this, ← ih, List.filter_cons_of_neg (by simp [hy])]
    · rw [List.filter_cons_of_pos (by simp [hy]), lookS_cons, lookS_cons, ih]
theorem lookS_put (m : List (ByteArray × α)) (k : ByteArray) (v : α) (s : ByteArray) : lookS (putS m k v) s = if k = s then some v else lookS m s := by
  unfold putS
  rw [lookS_ins k v s _ fun y hy => by simpa using (List.mem_filter.1 hy).2]
  by_cases h : k = s
  · simp [h]
  · rw [if_neg h, if_neg h, lookS_del k s h]
end
theorem look_fm (ds : List Ou) (s : ByteArray) (pre : List Nat) : lookS (fmL ds pre.reverse) s = (pre.find? fun j => decide ((ds.getD j default).m = s)).map fun j => (ds.getD j default).r := by
  induction pre with
  | nil => rfl
  | cons j r ih =>
    rw [List.reverse_cons, fmL_snoc, lookS_put, ih, List.find?_cons]
    by_cases h : (ds.getD j default).m = s
    · rw [if_pos h, decide_eq_true h]; rfl
    · rw [if_neg h, decide_eq_false h]
theorem find_range' (ds : List Ou) (s : ByteArray) : ∀ (l : List Ou) (i : Nat), (∀ j, l.getD j default = ds.getD (i + j) default) →
    ((List.range' i l.length).find? fun j => decide ((ds.getD j default).m = s)).map (fun j => (ds.getD j default).r) = (l.find? fun x => decide (x.m = s)).map (·.r)
  | [], _, _ => rfl
  | x :: r, i, h => by
    have h0 : ds.getD i default = x := by simpa using (h 0).symm
    rw [List.length_cons, List.range'_succ, List.find?_cons, List.find?_cons, h0]
    by_cases hx : x.m = s
    · rw [decide_eq_true hx]; exact congrArg (fun z : Ou => some z.r) h0
    · have := find_range' ds s r (i + 1) fun j => by
        have h1 := h (j + 1)
        rw [List.getD_cons_succ] at h1
        rw [h1, show i + (j + 1) = i + 1 + j by omega]
      simpa [hx] using this
/-- The name's own row: that of the first share that bears it. -/
theorem look_first (ds : List Ou) (s : ByteArray) : lookS (fmL ds (bk ds.length)) s = (ds.find? fun x => decide (x.m = s)).map (·.r) := by
  rw [bk, look_fm, List.range_eq_range']
  exact find_range' ds s ds 0 fun j => by simp
end Go.Proofs.Ytbjjhnlifgbpmaa
