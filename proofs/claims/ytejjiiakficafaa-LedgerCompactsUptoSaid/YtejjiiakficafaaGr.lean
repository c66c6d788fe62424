/- LedgerGrows: its plain law and its walk. -/
import Derived.Test.YtejjiiakficafaaOpn
namespace Go.Proofs.Ytejjiiakficafaa
open Go Go.RowKit Go.Shelf Go.Maps
attribute [local go_sem] Oper.semAt_some

theorem le_stableF {x : Int} : ∀ (o : List Tx) (f : Int), x ≤ stableF f o ↔ x ≤ f ∧ ∀ t ∈ o, x ≤ t.first
  | [], f => by simp [stableF]
  | t :: o, f => by
    have ih := le_stableF (x := x) o (min f t.first)
    have e : stableF f (t :: o) = stableF (min f t.first) o := rfl
    rw [e, ih]
    simp only [List.mem_cons, forall_eq_or_imp]
    constructor
    · rintro ⟨h1, h2⟩; exact ⟨by omega, by omega, h2⟩
    · rintro ⟨h1, h2, h3⟩; exact ⟨by omega, h3⟩
theorem le_stable {x : Int} {L : Lg} : x ≤ L.stable ↔ x ≤ L.fin ∧ ∀ t ∈ L.opn, x ≤ t.first := le_stableF L.opn L.fin

/-- No open transaction begins below the start. -/
def OpnL (L : Lg) : Prop := ∀ t ∈ L.opn, L.start ≤ t.first
theorem opn0 : OpnL lg0 := fun t h => by simp [lg0] at h

theorem put_opn {L : Lg} {b : Bat} {t : Tx} (h : t ∈ (L.put b).opn) : t ∈ L.opn ∨ t = ⟨b.p, L.fin⟩ := by
  simp only [Lg.put] at h
  split at h
  · split at h
    · rcases List.mem_append.1 h with h | h
      · exact .inl h
      · exact .inr (List.mem_singleton.1 h)
    · exact .inl h
  · split at h
    · exact .inl (List.mem_of_mem_eraseIdx h)
    · exact .inl h

theorem apply_cases {P : Lg → Prop} (L : Lg) (x : En) (h0 : P L) (h1 : rightB x = true → x.kind = 1 → (L.decide x).2.2 = 0 → (L.decide x).2.1 = false → P (L.put x.b))
    (h2 : rightB x = true → x.kind = 2 → x.n ≤ L.stable → L.start < x.n → P { L with start := x.n, rows := L.rows.filter (fun r => Decidable.decide (x.n ≤ r.off)), gone := L.gone.filter (fun g => Decidable.decide (x.n ≤ g.last)) })
    (h3 : rightB x = true → x.kind = 3 → x.n ≤ L.stable → P { L with rows := L.kept x.n }) : P (L.apply x) := by
  unfold Lg.apply
  by_cases hd : (L.decide x).2.2 ≠ 0 ∨ (L.decide x).2.1 = true
  · rw [if_pos hd]; exact h0
  · rw [if_neg hd]
    have e1 : (L.decide x).2.2 = 0 := by
      by_cases e : (L.decide x).2.2 = 0
      · exact e
      · exact absurd (.inl e) hd
    have e2 : (L.decide x).2.1 = false := by
      cases e : (L.decide x).2.1
      · rfl
      · exact absurd (.inr e) hd
    obtain ⟨r1, r2, r3⟩ := decide_go e1 e2
    by_cases k1 : x.kind = 1
    · rw [if_pos k1]; exact h1 r1 k1 e1 e2
    · rw [if_neg k1]
      by_cases k2 : x.kind = 2
      · rw [if_pos k2]; exact h2 r1 k2 (r2 k1) (r3 k2)
      · rw [if_neg k2]
        rcases right_kind r1 with k | k | k
        · exact absurd k k1
        · exact absurd k k2
        · exact h3 r1 k (r2 k1)

theorem grows {L : Lg} {nn : Nat} (h : GoodL L nn) (hi : OpnL L) (x : En) :
    L.start ≤ (L.apply x).start ∧ L.stable ≤ (L.apply x).stable ∧ L.fin ≤ (L.apply x).fin ∧ (L.apply x).start ≤ (L.apply x).stable ∧ (L.apply x).stable ≤ (L.apply x).fin ∧ OpnL (L.apply x) := by
  have hs := h.stable
  have hss : L.start ≤ L.stable := le_stable.2 ⟨h.sf, hi⟩
  have hst := le_stable (x := L.stable) (L := L)
  obtain ⟨g1, g2⟩ := hst.1 (Int.le_refl _)
  refine apply_cases (P := fun L' => L.start ≤ L'.start ∧ L.stable ≤ L'.stable ∧ L.fin ≤ L'.fin ∧ L'.start ≤ L'.stable ∧ L'.stable ≤ L'.fin ∧ OpnL L') L x ?_ ?_ ?_ ?_
  · exact ⟨Int.le_refl _, Int.le_refl _, Int.le_refl _, hss, hs.2, hi⟩
  · intro r1 k1 e1 e2
    have hck : checkE x.b.k x.b.p x.b.ep x.b.s x.b.t x.b.rs = 0 := by simp [rightB, k1] at r1; exact r1.2
    have hl := lenB_le x.b.k (checkE_len hck)
    have hf : (L.put x.b).fin = L.fin + lenB (isM x.b.k) x.b.rs.length := rfl
    have ht : (L.put x.b).start = L.start := rfl
    have hno : ∀ t ∈ (L.put x.b).opn, L.stable ≤ t.first ∧ L.start ≤ t.first ∧ t.first ≤ (L.put x.b).fin := fun t ht => by
      rcases put_opn ht with e | rfl
      · have a := g2 t e
        have b := hi t e
        have c := h.fst t e
        rw [hf]; omega
      · dsimp only; rw [hf]; omega
    refine ⟨by rw [ht]; omega, le_stable.2 ⟨by rw [hf]; omega, fun t h => (hno t h).1⟩, by rw [hf]; omega, le_stable.2 ⟨by rw [hf, ht]; omega, fun t h => by rw [ht]; exact (hno t h).2.1⟩, ?_, fun t h => by rw [ht]; exact (hno t h).2.1⟩
    exact (le_stable.1 (Int.le_refl (L.put x.b).stable)).1
  · intro r1 k2 hn hlt
    refine ⟨by dsimp only; omega, Int.le_refl _, Int.le_refl _, hn, hs.2, fun t ht => ?_⟩
    have := g2 t ht
    dsimp only
    omega
  · intro r1 k3 hn
    exact ⟨Int.le_refl _, Int.le_refl _, Int.le_refl _, hss, hs.2, hi⟩

theorem fold_snoc (l : List En) (i : Nat) (h : i < l.length) (L : Lg) : (l.take (i + 1)).foldl Lg.apply L = ((l.take i).foldl Lg.apply L).apply l[i] := by
  rw [List.take_succ_eq_append_getElem h, List.foldl_append]; rfl

set_option maxRecDepth 100000 in
set_option maxHeartbeats 4000000 in
theorem grows_any (A : Option Addr) (c : Nat) (l : List En) (w : World) (hl : EnsAt w A l) (hll : l.length ≤ 1048576) :
    Calls Try.prog 5 #[.slice A l.length c] w fun e w' => e = .returned (.bool true) ∧ Below w.heap.size w w' := by
  have hL0 := led_new (a := w) w rfl
  go_enter Try.func5, Try.ntmps5
  go_wp2_with (go_at_call 8; refine (lnew_any _).mono ?_; rintro e w' ⟨rfl, rfl⟩)
  obtain ⟨W, hW⟩ : ∃ W, W = ((w.alloc (.map #[] 0)).alloc (.cells #[.map (some w.heap.size)] 88)).alloc (.cells #[.pointer (some ⟨w.heap.size + 1, 0, none⟩), .int .i64 0, .int .i64 0, .slice none 0 0, .slice none 0 0, .slice none 0 0] 64) := ⟨_, rfl⟩
  rw [← hW] at hL0 ⊢
  clear hW
  refine (lknows_any W).mono ?_
  rintro e w1 ⟨rfl, hb1⟩
  have hL1 := hL0.below hb1
  clear hL0 hb1
  go_wp2_with fail
  go_loopw [4] (fun u wr => ∃ (i : Nat) (L : Lg), u = .int .i64 i ∧ i ≤ l.length ∧ Hid (OpnL L) ∧ Led w (w.heap.size + 3) (w.heap.size + 1 + 1) (w.heap.size + 1) w.heap.size i L wr) (fun u _ => l.length - (intOf u).toNat)
  case atStart => exact ⟨0, lg0, rfl, Nat.zero_le _, Lib.hid opn0, hL1⟩
  case round =>
    obtain ⟨i, L, rfl, hi, hO, hL⟩ := hrel
    clear hL1
    by_cases hlt : i < l.length
    · have hlw := hl.below hL.bel
      obtain ⟨b, o, A', c', rfl, hbl, hR, hF, e0, e1, e2, e3, e4, e5, e6, e7⟩ := hlw i hlt
      clear hlw
      generalize l[i] = x at hR hF e0 e1 e2 e3 e4 e5 e6 e7
      obtain ⟨s1, s2, s3, s4, s5, hO2⟩ := grows hL.good hO.out x
      replace hO2 := Lib.hid hO2
      clear hO
      replace hF := Lib.hid hF
      have hLw := Lib.hid hL
      go_wp2_with (first | (go_at_call 17; refine (start_led hL).mono ?_; rintro e w' ⟨rfl, rfl⟩) | (go_at_call 16; refine (stable_led hL (by omega)).mono ?_; rintro e w2 ⟨rfl, hb2⟩; replace hL := hL.below hb2; obtain ⟨hc2, _⟩ := bcell hb2; replace hR := hR.below hb2) | (go_at_call 11; refine (end_led hL).mono ?_; rintro e w' ⟨rfl, rfl⟩))
      refine (own_any x A' c' _ hR).mono ?_
      rintro e w3 ⟨A3, c3, rfl, hR3, _, hb3⟩
      replace hL := hL.below hb3
      clear hc2 e0 e1 e2 e3 e4 e5 e6 e7 hR hb2 hb3 hLw hbl
      go_wp2_with fail
      refine (apply_led hL (by omega) x A3 c3 hR3 hF.out.2.2.2.2.2).mono ?_
      rintro e w4 ⟨rfl, hL4⟩
      clear hL hR3
      generalize (L.said x).1 = sa
      generalize (L.said x).2 = sb
      generalize L.apply x = L2 at *
      have hn2 : i + 1 ≤ 1000000000 := by omega
      go_wp2_with (first | (go_at_call 17; refine (start_led hL4).mono ?_; rintro e w' ⟨rfl, rfl⟩) | (go_at_call 16; refine (stable_led hL4 hn2).mono ?_; rintro e w5 ⟨rfl, hb5⟩; replace hL4 := hL4.below hb5; clear hb5) | (go_at_call 11; refine (end_led hL4).mono ?_; rintro e w' ⟨rfl, rfl⟩))
      exact ⟨⟨i + 1, L2, by go_num, by omega, hO2, hL4⟩, by simp [intOf]; omega⟩
    · obtain rfl : i = l.length := by omega
      go_wp2_with fail
      go_ret
      exact ⟨rfl, hL.bel⟩
end Go.Proofs.Ytejjiiakficafaa
