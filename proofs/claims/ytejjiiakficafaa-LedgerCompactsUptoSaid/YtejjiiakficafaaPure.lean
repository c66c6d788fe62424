/- A producer's state as data: its last batches in a ring of five. No program in sight. -/
import GoSem.Core.Value
namespace Go.Proofs.Ytejjiiakficafaa

/-- A batch that is there. -/
structure Dn where
  seq : Int
  len : Int
  off : Int
deriving Inhabited, DecidableEq

/-- A producer's state: its epoch, the next number, and all batches that were noted. -/
structure St where
  epoch : Int
  next : Int
  ds : List Dn
deriving Inhabited, DecidableEq

def dn0 : Dn := ⟨0, 0, 0⟩
def st0 : St := ⟨0, 0, []⟩

def ringGo : Nat → List Dn → List Dn → List Dn
  | _, a, [] => a
  | i, a, d :: l => ringGo (i + 1) (a.set (i % 5) d) l
/-- The ring of five. -/
def ring (ds : List Dn) : List Dn := ringGo 0 [dn0, dn0, dn0, dn0, dn0] ds

theorem ringGo_snoc (l : List Dn) (d : Dn) : ∀ i a, ringGo i a (l ++ [d]) = (ringGo i a l).set ((i + l.length) % 5) d := by
  induction l with
  | nil => intro i a; simp [ringGo]
  | cons x l ih => intro i a; simp only [List.cons_append, ringGo, ih, List.length_cons]; congr 2; omega
theorem ring_snoc (ds : List Dn) (d : Dn) : ring (ds ++ [d]) = (ring ds).set (ds.length % 5) d := by
  unfold ring; rw [ringGo_snoc]; simp
theorem ringGo_length (l : List Dn) : ∀ i a, (ringGo i a l).length = a.length := by
  induction l with
  | nil => intro i a; rfl
  | cons x l ih => intro i a; simp only [ringGo, ih, List.length_set]
theorem ring_length (ds : List Dn) : (ring ds).length = 5 := by unfold ring; rw [ringGo_length]; rfl
theorem ring_get (ds : List Dn) : ∀ i (h : i < ds.length), ds.length ≤ i + 5 → (ring ds)[i % 5]? = some ds[i] := by
  intro i h h5
  obtain ⟨n, hn⟩ : ∃ n, ds.length = n := ⟨_, rfl⟩
  induction n generalizing ds i with
  | zero => omega
  | succ n ih =>
    rcases List.eq_nil_or_concat ds with rfl | ⟨l, d, rfl⟩
    · simp at h
    · simp only [List.concat_eq_append, List.length_append, List.length_cons, List.length_nil] at h h5 hn ⊢
      rw [ring_snoc]
      by_cases e : i = l.length
      · subst e
        rw [List.getElem?_set_self (by rw [ring_length]; omega)]
        simp
      · rw [List.getElem?_set_ne (by omega)]
        rw [ih l i (by omega) (by omega) (by omega)]
        simp [show i < l.length from by omega]

def gd (ds : List Dn) (j : Nat) : Dn := (ring ds).getD j dn0
theorem gd_get (ds : List Dn) (i : Nat) (h : i < ds.length) (h5 : ds.length ≤ i + 5) : gd ds (i % 5) = ds[i] := by
  unfold gd; rw [List.getD_eq_getElem?_getD, ring_get ds i h h5]; rfl
theorem gd_snoc (ds : List Dn) (d : Dn) (j : Nat) (h : j < 5) : gd (ds ++ [d]) j = if j = ds.length % 5 then d else gd ds j := by
  unfold gd
  rw [ring_snoc, List.getD_eq_getElem?_getD, List.getD_eq_getElem?_getD, List.getElem?_set]
  by_cases e : ds.length % 5 = j
  · rw [if_pos e, if_pos (by rw [ring_length]; omega), if_pos e.symm]; rfl
  · rw [if_neg e, if_neg (fun h => e h.symm)]

/-- The last batches, at most five, the oldest first. -/
def lasts (ds : List Dn) : List Dn := ds.drop (ds.length - 5)
theorem lasts_length (ds : List Dn) : (lasts ds).length = min ds.length 5 := by simp [lasts]; omega
end Go.Proofs.Ytejjiiakficafaa
