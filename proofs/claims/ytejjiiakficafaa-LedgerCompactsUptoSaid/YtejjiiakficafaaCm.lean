/- LedgerCompacts: its plain law. -/
import Derived.Test.YtejjiiakficafaaPg
namespace Go.Proofs.Ytejjiiakficafaa

/-- No row lies below the start. -/
def StaR (L : Lg) : Prop := ∀ r ∈ L.rows, L.start ≤ r.off
theorem sta_put {L : Lg} {nn : Nat} (h : GoodL L nn) (hs : StaR L) (b : Bat) : StaR (L.put b) := fun r hr => by
  have hr2 : r ∈ L.rows ++ rowsOf L.fin b.p b.t b.rs := hr
  rcases List.mem_append.1 hr2 with hr | hr
  · exact hs r hr
  · obtain ⟨i, hi, rfl⟩ := List.mem_mapIdx.1 hr
    have := h.sf
    show L.start ≤ _
    dsimp only
    omega
theorem sta_apply {L : Lg} {nn : Nat} (h : GoodL L nn) (hs : StaR L) (x : En) : StaR (L.apply x) :=
  apply_cases (P := StaR) L x hs (fun _ _ _ _ => sta_put h hs x.b) (fun _ _ _ _ r hr => by simpa using (List.mem_filter.1 hr).2) (fun _ _ _ r hr => hs r (List.mem_filter.1 hr).1)

theorem filt_at {α : Type} {P : α → Bool} {l : List α} {i : Nat} (h : i < l.length) (hp : P l[i] = true) : (l.filter P)[((l.take i).filter P).length]? = some l[i] := by
  have e : l.filter P = (l.take i).filter P ++ (l[i] :: (l.drop (i + 1)).filter P) := by
    conv => lhs; rw [← List.take_append_drop i l, List.filter_append, List.drop_eq_getElem_cons h, List.filter_cons_of_pos hp]
  rw [e, List.getElem?_append_right (Nat.le_refl _)]
  simp
theorem filt_ne {α : Type} {P : α → Bool} {l : List α} {i : Nat} (h : i < l.length) (hp : P l[i] = false) {k : Nat} {y : α} (hy : (l.filter P)[k]? = some y) : y ≠ l[i] := by
  rintro rfl
  have := (List.mem_filter.1 (List.mem_of_getElem? hy)).2
  rw [hp] at this
  cases this
theorem filt_step {α : Type} {P : α → Bool} {l : List α} {i : Nat} (h : i < l.length) : ((l.take (i + 1)).filter P).length = ((l.take i).filter P).length + if P l[i] = true then 1 else 0 := by
  rw [filter_take P l i h, List.length_append]
  split <;> simp
theorem filt_le {α : Type} (P : α → Bool) (l : List α) (i : Nat) : ((l.take i).filter P).length ≤ (l.filter P).length := by
  conv => rhs; rw [← List.take_append_drop i l, List.filter_append, List.length_append]
  omega

def noBat : Bat := ⟨0, 0, 0, 0, false, []⟩
def cx (n : Int) : En := ⟨3, n, noBat⟩
def rx (n : Int) : En := ⟨2, n, noBat⟩
theorem filter_full {α : Type} {P : α → Bool} {l : List α} (h : (l.filter P).length = l.length) : l.filter P = l := List.filter_eq_self.2 fun a ha => List.length_filter_eq_length_iff.1 h a ha

theorem compact_said {L : Lg} {n : Int} (h0 : 0 ≤ n) (h1 : n ≤ L.stable) (h2 : n ≤ 281474976710656) : L.said (cx n) = (0, 0) ∧ (L.apply (cx n)).rows = L.kept n ∧ (L.apply (cx n)).start = L.start ∧ (L.apply (cx n)).fin = L.fin ∧ (L.apply (cx n)).opn = L.opn ∧ (L.apply (cx n)).gone = L.gone := by
  have hr : rightB (cx n) = true := by simp [rightB, cx, noBat, h0, h2]
  have hd : L.decide (cx n) = (0, decide ((L.kept n).length = L.rows.length), 0) := by
    unfold Lg.decide
    rw [if_neg (by simp [hr]), if_neg (by simp [cx]; omega), if_neg (by simp [cx]), if_pos (by simp [cx])]
    rfl
  refine ⟨by simp [Lg.said, hd], ?_⟩
  unfold Lg.apply
  rw [hd]
  by_cases e : (L.kept n).length = L.rows.length
  · rw [if_pos (by simp [e])]
    exact ⟨(filter_full e).symm, rfl, rfl, rfl, rfl⟩
  · rw [if_neg (by simp [e]), if_neg (by simp [cx]), if_neg (by simp [cx])]
    exact ⟨rfl, rfl, rfl, rfl, rfl⟩
theorem retain_said {L : Lg} {n : Int} (hs : StaR L) (h0 : 0 ≤ n) (h1 : n ≤ L.stable) (h2 : n ≤ 281474976710656) : L.said (rx n) = (0, 0) ∧ (L.apply (rx n)).rows = L.rows.filter (fun r => decide (max L.start n ≤ r.off)) ∧ (L.apply (rx n)).start = max L.start n := by
  have hr : rightB (rx n) = true := by simp [rightB, rx, noBat, h0, h2]
  have hd : L.decide (rx n) = (0, decide (n ≤ L.start), 0) := by
    unfold Lg.decide
    rw [if_neg (by simp [hr]), if_neg (by simp [rx]; omega), if_pos (by simp [rx])]
    rfl
  refine ⟨by simp [Lg.said, hd], ?_⟩
  unfold Lg.apply
  rw [hd]
  by_cases e : n ≤ L.start
  · rw [if_pos (by simp [e])]
    refine ⟨(List.filter_eq_self.2 fun r hr => ?_).symm, by omega⟩
    have := hs r hr
    simp; omega
  · rw [if_neg (by simp [e]), if_neg (by simp [rx]), if_pos (by simp [rx])]
    refine ⟨?_, ?_⟩
    · show L.rows.filter (fun r => decide (n ≤ r.off)) = _
      apply List.filter_congr
      intro r hr
      congr 1
      rw [Int.max_eq_right (by omega)]
    · show n = _
      omega

/-- The law's own maps. -/
def lastG (n : Int) (G : List Rw) : ByteArray → Int := G.foldl (fun f r => if decide (r.off < n) then (fun y => if y = r.rc.key then r.off else f y) else f) (fun _ => 0)
def metF (N : List Rw) : Int → Bool := N.foldl (fun f r => fun y => if y = r.off then true else f y) (fun _ => false)
theorem lastG_snoc (n : Int) (l : List Rw) (i : Nat) (h : i < l.length) : lastG n (l.take (i + 1)) = if decide (l[i].off < n) then (fun y => if y = l[i].rc.key then l[i].off else lastG n (l.take i) y) else lastG n (l.take i) := by
  rw [List.take_succ_eq_append_getElem h]
  unfold lastG
  rw [List.foldl_append]
  rfl
theorem metF_snoc (l : List Rw) (i : Nat) (h : i < l.length) : metF (l.take (i + 1)) = fun y => if y = l[i].off then true else metF (l.take i) y := by
  rw [List.take_succ_eq_append_getElem h]
  unfold metF
  rw [List.foldl_append]
  rfl
theorem metF_mem {r : Rw} : ∀ {N : List Rw} (f : Int → Bool), (r ∈ N ∨ f r.off = true) → N.foldl (fun f r => fun y => if y = r.off then true else f y) f r.off = true
  | [], f, h => by rcases h with h | h; cases h; exact h
  | x :: N, f, h => by
    rw [List.foldl_cons]
    refine metF_mem _ ?_
    rcases h with h | h
    · rcases List.mem_cons.1 h with rfl | h
      · exact .inr (by simp)
      · exact .inl h
    · exact .inr (by simp [h])

theorem lastF_filter (gs : List Gn) (n : Int) (P : Rw → Bool) : ∀ (l : List Rw) (f : ByteArray → Int), (∀ r ∈ l, r.off < n → P r = !lost gs r) →
    (l.filter P).foldl (fun f r => if decide (r.off < n) then (fun y => if y = r.rc.key then r.off else f y) else f) f = l.foldl (fun f r => if decide (r.off < n) && !lost gs r then (fun y => if y = r.rc.key then r.off else f y) else f) f
  | [], f, _ => rfl
  | x :: l, f, h => by
    have ih := fun f => lastF_filter gs n P l f (fun r hr => h r (List.mem_cons_of_mem _ hr))
    have hx := h x (List.mem_cons_self ..)
    by_cases e : x.off < n
    · have hp := hx e
      cases hl : lost gs x with
      | true =>
        rw [hl] at hp
        rw [List.filter_cons_of_neg (by rw [hp]; simp), List.foldl_cons, ih]
        simp [hl]
      | false =>
        rw [hl] at hp
        rw [List.filter_cons_of_pos (by rw [hp]; simp), List.foldl_cons, List.foldl_cons, ih]
        simp [hl]
    · rw [List.foldl_cons]
      simp only [decide_eq_false e, Bool.false_and, Bool.false_eq_true, if_false]
      by_cases hp : P x = true
      · rw [List.filter_cons_of_pos hp, List.foldl_cons, ih]
        simp only [decide_eq_false e, Bool.false_eq_true, if_false]
      · rw [List.filter_cons_of_neg hp, ih]

/-- What the law's map of the committed rows says, the ledger's says. -/
theorem last_same {L : Lg} (hs : StaR L) {n : Int} (h1 : n ≤ L.stable) : lastG n (L.from true L.start) = lastF L.gone n L.rows := by
  unfold lastG lastF Lg.from
  refine lastF_filter L.gone n _ L.rows _ fun r hr hn => ?_
  have := hs r hr
  have h2 : r.off < L.upto true := by simp only [Lg.upto, if_true]; omega
  simp [fetchP, this, h2]
/-- The latest committed one of a key stays. -/
theorem kept_met {L : Lg} (hs : StaR L) {n : Int} (h1 : n ≤ L.stable) {r : Rw} (hr : r ∈ L.from true L.start) (hn : r.off < n) (hl : lastG n (L.from true L.start) r.rc.key = r.off) : metF (L.kept n) r.off = true := by
  refine metF_mem _ (.inl ?_)
  obtain ⟨h2, h3⟩ := List.mem_filter.1 hr
  rw [last_same hs h1] at hl
  simp only [fetchP, Bool.and_eq_true, Bool.not_eq_true', Bool.true_and] at h3
  exact List.mem_filter.2 ⟨h2, by simp [staysP, h3.2, hl]⟩
theorem not_kept {L : Lg} {n : Int} {r : Rw} (h : staysP L.gone n (lastF L.gone n L.rows) r = false) : r.off < n := by
  unfold staysP at h
  simp at h
  omega
theorem modS (a S : Int) (h0 : 0 ≤ S) (h1 : S ≤ 1000000000000) : ∃ m : Int, 0 ≤ m ∧ m ≤ S ∧ (a.tmod (S + 1) + S + 1).tmod (S + 1) = m ∧ -S - 1 ≤ a.tmod (S + 1) ∧ a.tmod (S + 1) ≤ S := by
  have h2 : -(S + 1) < a.tmod (S + 1) ∧ a.tmod (S + 1) < S + 1 := by
    rcases Int.le_total 0 a with h | h
    · rw [Int.tmod_eq_emod_of_nonneg h]
      exact ⟨by have := Int.emod_nonneg a (show S + 1 ≠ 0 by omega); omega, Int.emod_lt_of_pos a (by omega)⟩
    · have e : a.tmod (S + 1) = -((-a).tmod (S + 1)) := by rw [Int.neg_tmod]; omega
      rw [e, Int.tmod_eq_emod_of_nonneg (by omega)]
      have := Int.emod_nonneg (-a) (show S + 1 ≠ 0 by omega)
      have := Int.emod_lt_of_pos (-a) (show 0 < S + 1 by omega)
      omega
  refine ⟨_, ?_, ?_, rfl, by omega, by omega⟩
  · rw [Int.tmod_eq_emod_of_nonneg (by omega)]; exact Int.emod_nonneg _ (by omega)
  · rw [Int.tmod_eq_emod_of_nonneg (by omega)]; have := Int.emod_lt_of_pos (a.tmod (S + 1) + S + 1) (show 0 < S + 1 by omega); omega
end Go.Proofs.Ytejjiiakficafaa
