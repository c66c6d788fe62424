/- Two lists of pairs, side by side by their keys: as data. -/
import Derived.Test.YtjokpjfmnjefdaaOn
namespace Go.Proofs.Ytjokpjfmnjefdaa

def tx (l m : List Pr) (i j : Nat) : Bool := decide (i < l.length) && (decide (m.length ≤ j) || !sb (m.getD j default).key (l.getD i default).key)
def ty (l m : List Pr) (i j : Nat) : Bool := decide (j < m.length) && (decide (l.length ≤ i) || !sb (l.getD i default).key (m.getD j default).key)
def mrgF (l m : List Pr) : Nat → Nat → Nat → List (Option Nat × Option Nat)
  | 0, _, _ => []
  | f + 1, i, j => if i < l.length ∨ j < m.length then (if tx l m i j then some i else none, if ty l m i j then some j else none) :: mrgF l m f (if tx l m i j then i + 1 else i) (if ty l m i j then j + 1 else j) else []
def mrg (l m : List Pr) (i j : Nat) : List (Option Nat × Option Nat) := mrgF l m (l.length - i + (m.length - j)) i j

theorem mrgF_succ (l m : List Pr) (f i j : Nat) : mrgF l m (f + 1) i j = if i < l.length ∨ j < m.length then (if tx l m i j then some i else none, if ty l m i j then some j else none) :: mrgF l m f (if tx l m i j then i + 1 else i) (if ty l m i j then j + 1 else j) else [] := rfl
theorem mrgF_more (l m : List Pr) : ∀ (f i j : Nat), l.length - i + (m.length - j) ≤ f → mrgF l m (f + 1) i j = mrgF l m f i j := by
  intro f
  induction f with
  | zero => intro i j h; simp only [mrgF]; rw [if_neg (by omega)]
  | succ f ih =>
    intro i j h
    rw [mrgF_succ l m (f + 1) i j, mrgF_succ l m f i j]
    by_cases hc : i < l.length ∨ j < m.length
    · rw [if_pos hc, if_pos hc]
      congr 1
      refine ih _ _ ?_
      cases hx : tx l m i j <;> cases hy : ty l m i j
      · exfalso
        simp only [tx, ty, Bool.and_eq_false_iff, Bool.or_eq_false_iff, decide_eq_false_iff_not, Bool.not_eq_false'] at hx hy
        rcases hx with hx | ⟨hx1, hx2⟩
        · rcases hy with hy | ⟨hy1, hy2⟩
          · omega
          · omega
        · rcases hy with hy | ⟨hy1, hy2⟩
          · omega
          · have := sb_trans hx2 hy2; rw [sb_irrefl] at this; cases this
      all_goals
        have h1 : tx l m i j = true → i < l.length := fun h => by simp [tx] at h; exact h.1
        have h2 : ty l m i j = true → j < m.length := fun h => by simp [ty] at h; exact h.1
        simp only [hx, hy, true_implies] at h1 h2
        simp
        omega
    · rw [if_neg hc, if_neg hc]
theorem mrgF_add (l m : List Pr) (i j : Nat) : ∀ (g f : Nat), l.length - i + (m.length - j) ≤ f → mrgF l m (f + g) i j = mrgF l m f i j
  | 0, _, _ => rfl
  | g + 1, f, h => by rw [← Nat.add_assoc, mrgF_more _ _ _ _ _ (by omega), mrgF_add l m i j g f h]
theorem mrg_eq (l m : List Pr) (i j f : Nat) (h : l.length - i + (m.length - j) ≤ f) : mrgF l m f i j = mrg l m i j := by
  obtain ⟨g, rfl⟩ : ∃ g, f = l.length - i + (m.length - j) + g := ⟨f - (l.length - i + (m.length - j)), by omega⟩
  exact mrgF_add l m i j g _ (Nat.le_refl _)
theorem mrg_end (l m : List Pr) {i j : Nat} (hi : l.length ≤ i) (hj : m.length ≤ j) : mrg l m i j = [] := by
  unfold mrg; rw [show l.length - i + (m.length - j) = 0 from by omega]; rfl
theorem mrg_step (l m : List Pr) {i j : Nat} (h : i < l.length ∨ j < m.length) :
    mrg l m i j = (if tx l m i j then some i else none, if ty l m i j then some j else none) :: mrg l m (if tx l m i j then i + 1 else i) (if ty l m i j then j + 1 else j) := by
  rw [← mrg_eq l m i j (l.length - i + (m.length - j) + 1) (by omega), mrgF, if_pos h]
  congr 1
  refine mrg_eq _ _ _ _ _ ?_
  split <;> split <;> omega
theorem mrg_l (l m : List Pr) {i j : Nat} (hi : i < l.length) (hj : m.length ≤ j) : mrg l m i j = (some i, none) :: mrg l m (i + 1) j := by
  have h1 : tx l m i j = true := by simp [tx, hi, hj]
  have h2 : ty l m i j = false := by simp [ty]; omega
  rw [mrg_step l m (.inl hi), h1, h2]; rfl
theorem mrg_r (l m : List Pr) {i j : Nat} (hi : l.length ≤ i) (hj : j < m.length) : mrg l m i j = (none, some j) :: mrg l m i (j + 1) := by
  have h1 : tx l m i j = false := by simp [tx]; omega
  have h2 : ty l m i j = true := by simp [ty, hi, hj]
  rw [mrg_step l m (.inr hj), h1, h2]; rfl
theorem mrg_lt (l m : List Pr) {i j : Nat} (hi : i < l.length) (hj : j < m.length) (h : sb l[i].key m[j].key = true) : mrg l m i j = (some i, none) :: mrg l m (i + 1) j := by
  have hn : sb m[j].key l[i].key = false := sb_asymm h
  have h1 : tx l m i j = true := by simp [tx, hi, hj, hn]
  have h2 : ty l m i j = false := by simp [ty, hi, hj, h]
  rw [mrg_step l m (.inl hi), h1, h2]; rfl
theorem mrg_gt (l m : List Pr) {i j : Nat} (hi : i < l.length) (hj : j < m.length) (h : sb m[j].key l[i].key = true) : mrg l m i j = (none, some j) :: mrg l m i (j + 1) := by
  have hn : sb l[i].key m[j].key = false := sb_asymm h
  have h1 : tx l m i j = false := by simp [tx, hi, hj, h]
  have h2 : ty l m i j = true := by simp [ty, hi, hj, hn]
  rw [mrg_step l m (.inl hi), h1, h2]; rfl
theorem mrg_same (l m : List Pr) {i j : Nat} (hi : i < l.length) (hj : j < m.length) (h : l[i].key = m[j].key) : mrg l m i j = (some i, some j) :: mrg l m (i + 1) (j + 1) := by
  have h1 : tx l m i j = true := by simp [tx, hi, hj, ← h, sb_irrefl]
  have h2 : ty l m i j = true := by simp [ty, hi, hj, h, sb_irrefl]
  rw [mrg_step l m (.inl hi), h1, h2]; rfl
end Go.Proofs.Ytjokpjfmnjefdaa
