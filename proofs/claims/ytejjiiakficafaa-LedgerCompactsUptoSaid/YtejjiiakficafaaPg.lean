/- LedgerPages: its plain law. -/
import Derived.Test.YtejjiiakficafaaGr
namespace Go.Proofs.Ytejjiiakficafaa

/-- The rows rise. -/
def SrtR (l : List Rw) : Prop := l.Pairwise fun a b => a.off < b.off
theorem srt_put {L : Lg} {nn : Nat} (h : GoodL L nn) (hs : SrtR L.rows) (b : Bat) : SrtR (L.put b).rows := by
  show (L.rows ++ rowsOf L.fin b.p b.t b.rs).Pairwise _
  rw [List.pairwise_append]
  refine ⟨hs, ?_, fun x hx y hy => ?_⟩
  · rw [List.pairwise_iff_getElem]
    intro i j hi hj hij
    simp [rowsOf]
    omega
  · obtain ⟨i, hi, rfl⟩ := List.mem_mapIdx.1 hy
    have := h.off x hx
    dsimp only
    omega
theorem srt_apply {L : Lg} {nn : Nat} (h : GoodL L nn) (hs : SrtR L.rows) (x : En) : SrtR (L.apply x).rows :=
  apply_cases (P := fun L' => SrtR L'.rows) L x hs (fun _ _ _ _ => srt_put h hs x.b) (fun _ _ _ _ => hs.filter _) (fun _ _ _ => hs.filter _)

theorem drop_of_srt {l : List Rw} (hs : SrtR l) (m : Nat) (h : m < l.length) : l.filter (fun r => decide (l[m].off + 1 ≤ r.off)) = l.drop (m + 1) := by
  have hp := List.pairwise_iff_getElem.1 hs
  have e0 : l.filter (fun r => decide (l[m].off + 1 ≤ r.off)) = (l.take (m + 1) ++ l.drop (m + 1)).filter (fun r => decide (l[m].off + 1 ≤ r.off)) := by rw [List.take_append_drop]
  rw [e0, List.filter_append]
  have h1 : (l.take (m + 1)).filter (fun r => decide (l[m].off + 1 ≤ r.off)) = [] := by
    rw [List.filter_eq_nil_iff]
    intro r hr
    obtain ⟨i, hi, rfl⟩ := List.getElem_of_mem hr
    rw [List.length_take] at hi
    rw [List.getElem_take]
    by_cases e : i = m
    · subst e; simp; omega
    · have := hp i m (by omega) h (by omega)
      simp; omega
  have h2 : (l.drop (m + 1)).filter (fun r => decide (l[m].off + 1 ≤ r.off)) = l.drop (m + 1) := by
    rw [List.filter_eq_self]
    intro r hr
    obtain ⟨i, hi, rfl⟩ := List.getElem_of_mem hr
    rw [List.length_drop] at hi
    rw [List.getElem_drop]
    have := hp m (m + 1 + i) h (by omega) (by omega)
    simp; omega
  rw [h1, h2, List.nil_append]

/-- A page's next, and what is left. -/
theorem page_next {gs : List Gn} {l : List Rw} (hs : SrtR l) (frm fin : Int) (co : Bool) (m : Nat) (h : m < (l.filter (fetchP gs frm fin co)).length) :
    frm ≤ (l.filter (fetchP gs frm fin co))[m].off ∧ (l.filter (fetchP gs frm fin co))[m].off < fin ∧ l.filter (fetchP gs ((l.filter (fetchP gs frm fin co))[m].off + 1) fin co) = (l.filter (fetchP gs frm fin co)).drop (m + 1) := by
  have hm := (List.mem_filter.1 (List.getElem_mem h)).2
  simp only [fetchP, Bool.and_eq_true, decide_eq_true_eq] at hm
  refine ⟨hm.1.1, hm.1.2, ?_⟩
  rw [← drop_of_srt (hs.filter _) m h, List.filter_filter]
  apply List.filter_congr
  intro r hr
  simp only [fetchP]
  by_cases e : (l.filter (fetchP gs frm fin co))[m].off + 1 ≤ r.off
  · have e2 : frm ≤ r.off := by have := hm.1.1; omega
    simp [e, e2]
  · simp [e]
theorem page_end {gs : List Gn} {l : List Rw} (fin : Int) (co : Bool) : l.filter (fetchP gs fin fin co) = [] := by
  rw [List.filter_eq_nil_iff]
  intro r hr
  simp only [fetchP]
  by_cases e : fin ≤ r.off
  · simp [show ¬ r.off < fin by omega]
  · simp [e]

/-- Where a fetch ends. -/
def Lg.upto (L : Lg) (co : Bool) : Int := if co = true then L.stable else L.fin
def Lg.from (L : Lg) (co : Bool) (frm : Int) : List Rw := L.rows.filter (fetchP L.gone frm (L.upto co) co)
theorem upto_ge {L : Lg} {nn : Nat} (h : GoodL L nn) (hi : OpnL L) (co : Bool) : L.start ≤ L.upto co ∧ L.upto co ≤ L.fin := by
  have h1 : L.start ≤ L.stable := le_stable.2 ⟨h.sf, hi⟩
  have h2 := h.stable.2
  have h3 := h.sf
  unfold Lg.upto
  split <;> omega
/-- One fetch of all that is left. -/
theorem fetch_all {L : Lg} {nn : Nat} (h : GoodL L nn) (hn : nn ≤ 1048576) (hi : OpnL L) (co : Bool) (frm : Int) (hf : L.start ≤ frm) (hf2 : frm ≤ L.upto co) : L.fetch frm 1073741824 co = (L.from co frm, L.upto co, 0) := by
  have h0 := h.s0
  have hu := upto_ge h hi co
  have hl := h.rl
  have hfl := List.length_filter_le (fetchP L.gone frm (L.upto co) co) L.rows
  unfold Lg.fetch
  rw [if_neg (by omega), if_neg (by omega), if_neg (by omega), if_neg (by omega)]
  rw [show (if co = true then L.stable else L.fin) = L.upto co from rfl]
  dsimp only
  rw [if_neg (by omega)]
  show (L.from co frm, max frm (L.upto co), 0) = _
  rw [Int.max_eq_right hf2]
/-- One page. -/
theorem fetch_page {L : Lg} {nn : Nat} (h : GoodL L nn) (hi : OpnL L) (hs : SrtR L.rows) (co : Bool) (frm : Int) (m : Nat) (hm : 1 ≤ m) (hf : L.start ≤ frm) (hf2 : frm < L.upto co) :
    ∃ (r : List Rw) (nx : Int), L.fetch frm m co = (r, nx, 0) ∧ frm < nx ∧ nx ≤ L.upto co ∧ r.length ≤ m ∧ r ++ L.from co nx = L.from co frm ∧ (nx = L.upto co ∨ 1 ≤ r.length) := by
  have h0 := h.s0
  have hu := upto_ge h hi co
  unfold Lg.fetch
  rw [if_neg (by omega), if_neg (by omega), if_neg (by omega), if_neg (by omega)]
  rw [show (if co = true then L.stable else L.fin) = L.upto co from rfl]
  dsimp only
  by_cases hl : (m : Int) ≤ (L.rows.filter (fetchP L.gone frm (L.upto co) co)).length
  · rw [if_pos hl]
    have hk : m - 1 < (L.rows.filter (fetchP L.gone frm (L.upto co) co)).length := by omega
    obtain ⟨k1, k2, k3⟩ := page_next (gs := L.gone) hs frm (L.upto co) co (m - 1) hk
    have hg : ((L.rows.filter (fetchP L.gone frm (L.upto co) co)).getD ((m : Int).toNat - 1) default) = (L.rows.filter (fetchP L.gone frm (L.upto co) co))[m - 1] := by
      rw [Int.toNat_natCast, List.getD_eq_getElem?_getD, List.getElem?_eq_getElem hk]; rfl
    rw [hg]
    refine ⟨_, _, rfl, by omega, by omega, by simp; omega, ?_, .inr (by simp; omega)⟩
    unfold Lg.from
    rw [k3, Int.toNat_natCast, show m - 1 + 1 = m by omega, List.take_append_drop]
  · rw [if_neg hl]
    refine ⟨_, _, rfl, by omega, by omega, by omega, ?_, .inl (by omega)⟩
    unfold Lg.from
    rw [Int.max_eq_right (by omega), page_end, List.append_nil]
end Go.Proofs.Ytejjiiakficafaa
