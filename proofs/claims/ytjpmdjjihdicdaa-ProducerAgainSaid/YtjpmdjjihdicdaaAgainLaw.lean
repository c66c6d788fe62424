/- The plain law behind ProducerAgain: one producer's batches, one behind the other. -/
import Derived.Test.YtjpmdjjihdicdaaKnows
import Derived.Test.YtjpmdjjihdicdaaOnceLaw
namespace Go.Proofs.Ytjpmdjjihdicdaa

structure Chain (ds : List Dn) (nx : Int) : Prop where
  each : ∀ i (h : i < ds.length), 1 ≤ ds[i].len ∧ ds[i].len ≤ 8 ∧ ds[i].off = 1000 + ds[i].seq ∧ 0 ≤ ds[i].seq ∧ ds[i].seq + ds[i].len ≤ nx
  lt : ∀ i j (hi : i < j) (hj : j < ds.length), ds[i].seq < ds[j].seq
  nx0 : 0 ≤ nx
  nx8 : nx ≤ 8 * ds.length

theorem Chain.nil : Chain [] 0 := ⟨fun i h => by simp at h, fun i j _ h => by simp at h, by omega, by simp⟩
theorem Chain.snoc {ds : List Dn} {nx : Int} (h : Chain ds nx) {n : Nat} (h1 : 1 ≤ n) (h8 : n ≤ 8) : Chain (ds ++ [⟨nx, n, 1000 + nx⟩]) (nx + n) := by
  have h0 := h.nx0
  have h9 := h.nx8
  refine ⟨fun i hi => ?_, fun i j hij hj => ?_, by omega, by simp; omega⟩
  · by_cases hl : i < ds.length
    · simp only [List.getElem_append_left hl]
      obtain ⟨a, b, c, d, e⟩ := h.each i hl
      exact ⟨a, b, c, d, by omega⟩
    · obtain rfl : i = ds.length := by simp at hi; omega
      simp
      omega
  · by_cases hl : j < ds.length
    · simp only [List.getElem_append_left hl, List.getElem_append_left (show i < ds.length by omega)]
      exact h.lt i j hij hl
    · obtain rfl : j = ds.length := by simp at hj; omega
      simp only [List.getElem_append_left (show i < ds.length by omega)]
      have := h.each i hij
      simp
      omega

def mOf (ds : List Dn) (nx : Int) : List (Int × St) := if ds.length = 0 then [] else [(3, ⟨2, nx, ds⟩)]

theorem check_k (n : Nat) (h1 : 1 ≤ n) (h8 : n ≤ 8) (s : Int) (h0 : 0 ≤ s) (h9 : s ≤ 10000) : checkE 1 3 2 s false (List.replicate n kRec) = 0 := by
  have hn : n = 1 ∨ n = 2 ∨ n = 3 ∨ n = 4 ∨ n = 5 ∨ n = 6 ∨ n = 7 ∨ n = 8 := by omega
  have e1 : q1 1 (isM 1) = false := rfl
  have e2 : q2 3 2 s false (isM 1) = false := rfl
  have e3 : q3 3 = false := rfl
  have e4 : q4 2 s false (isM 1) = false := rfl
  have e6 : q6 s (isM 1) n = false := by
    simp [q6, lenB, isM]; omega
  unfold checkE
  rw [List.length_replicate, e1, e2, e3, e4, e6]
  rcases hn with rfl | rfl | rfl | rfl | rfl | rfl | rfl | rfl <;> decide +kernel

theorem lookI_mOf (ds : List Dn) (nx : Int) : lookI (mOf ds nx) 3 = if ds.length = 0 then none else some ⟨2, nx, ds⟩ := by
  unfold mOf
  split <;> simp [lookI]

/-- A new batch is noted. -/
theorem note_new {ds : List Dn} {nx : Int} (h : Chain ds nx) (hl : ds.length < 100) {n : Nat} (h1 : 1 ≤ n) (h8 : n ≤ 8) :
    noteF (mOf ds nx) 1 3 2 nx false (List.replicate n kRec) (1000 + nx) = (0, mOf (ds ++ [⟨nx, n, 1000 + nx⟩]) (nx + n)) := by
  have h0 := h.nx0
  have h9 := h.nx8
  have hc := check_k n h1 h8 nx h0 (by omega)
  have hd : decideF (lookI (mOf ds nx) 3) 1 3 2 nx false (List.replicate n kRec) = (0, false, 0) := by
    unfold decideF
    rw [hc, lookI_mOf]
    by_cases hz : ds.length = 0
    · obtain rfl := List.eq_nil_of_length_eq_zero hz
      have := h.nx8
      obtain rfl : nx = 0 := by simp at this; omega
      simp [ringF, st0]
    · simp [hz, ringF]
  unfold noteF
  rw [if_neg (by omega), hd, if_neg (by simp)]
  simp only [List.length_replicate, lookI_mOf]
  congr 1
  by_cases hz : ds.length = 0
  · obtain rfl := List.eq_nil_of_length_eq_zero hz
    have := h.nx8
    obtain rfl : nx = 0 := by simp at this; omega
    simp [noteSt, mOf, putI, insI, delI]
  · simp [hz, noteSt, mOf, putI, insI, delI]

/-- A batch that is there, sent again. -/
theorem dec_old {ds : List Dn} {nx : Int} (h : Chain ds nx) (hl : ds.length ≤ 100) (K : Nat) (hK : K < ds.length) (n : Nat) (hn : ds[K].len = n) :
    decideF (lookI (mOf ds nx) 3) 1 3 2 ds[K].seq false (List.replicate n kRec) = if ds.length ≤ K + 5 then (ds[K].off, true, 0) else (0, false, 52) := by
  have h0 := h.nx0
  have h9 := h.nx8
  obtain ⟨a1, a2, a3, a4, a5⟩ := h.each K hK
  have hc := check_k n (by omega) (by omega) ds[K].seq a4 (by omega)
  unfold decideF
  rw [hc, lookI_mOf]
  simp only [show ¬ ds.length = 0 by omega, if_false]
  simp [ringF]
  rw [if_neg (by omega)]
  cases hf : (lasts ds).find? (fun d => d.seq == ds[K].seq && d.len == (n : Int)) with
  | some d =>
    have hp := List.find?_some hf
    obtain ⟨j, hj, hd⟩ := List.getElem_of_mem (List.mem_of_find?_eq_some hf)
    simp [lasts] at hj hd
    simp at hp
    subst hd
    have hjk : ds.length - 5 + j = K := by
      rcases Nat.lt_trichotomy (ds.length - 5 + j) K with hlt | e | hlt
      · have := h.lt _ _ hlt hK; omega
      · exact e
      · have := h.lt _ _ hlt (by omega); omega
    simp only [hjk]
    rw [if_pos (by omega)]
  | none =>
    simp only
    rw [if_pos (show ds[K].seq < nx by omega), if_neg]
    intro hle
    have := List.find?_eq_none.1 hf ds[K] (List.mem_of_getElem (i := K - (ds.length - 5)) (h := by simp [lasts]; omega) (by simp only [lasts, List.getElem_drop]; congr 1; omega))
    simp [hn] at this

theorem note_old {ds : List Dn} {nx : Int} (h : Chain ds nx) (hl : ds.length ≤ 100) (K : Nat) (hK : K < ds.length) (n : Nat) (hn : ds[K].len = n) :
    noteF (mOf ds nx) 1 3 2 ds[K].seq false (List.replicate n kRec) 5 = (if ds.length ≤ K + 5 then 0 else 52, mOf ds nx) := by
  unfold noteF
  rw [if_neg (by omega), dec_old h hl K hK n hn]
  split
  · rw [if_pos (by simp)]
  · rw [if_pos (by simp)]
end Go.Proofs.Ytjpmdjjihdicdaa
