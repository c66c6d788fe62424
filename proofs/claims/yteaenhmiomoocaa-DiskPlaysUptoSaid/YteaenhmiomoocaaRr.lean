/- The document's disk: Read (36). -/
import Derived.Test.YteaenhmiomoocaaAp
namespace Go.Proofs.Yteaenhmiomoocaa
open Go.RowKit Go.Shelf
attribute [local go_sem] Oper.semAt_some

/-- The slice v of w holds the text t. -/
def TextAt (w : World) (v : Value) (t : Tx) : Prop := (t = [] ∧ ∃ A c, v = .slice A 0 c) ∨ ∃ b o c, v = .slice (some ⟨b, o, none⟩) t.length c ∧ b < w.heap.size ∧ w.rangeAt b o (tC t)
theorem TextAt.keep {w w' : World} {v : Value} {t : Tx} (h : TextAt w v t) (hs : w.heap.size ≤ w'.heap.size) (hk : ∀ b, v.ownBlock = some b → w'.heap[b]? = w.heap[b]?) : TextAt w' v t := by
  rcases h with h | ⟨b, o, c, e, hl, hr⟩
  · exact .inl h
  · subst e
    exact .inr ⟨b, o, c, rfl, by omega, fun j x hx => (World.cell?_of_block (w := w) (a := ⟨b, o + j, none⟩) (hk b rfl)).trans (hr j x hx)⟩
theorem TextAt.below {w w' : World} {v : Value} {t : Tx} (h : TextAt w v t) (hb : Below w.heap.size w w') : TextAt w' v t := by
  rcases h with h | ⟨b, o, c, e, hl, hr⟩
  · exact .inl h
  · exact .inr ⟨b, o, c, e, Nat.lt_of_lt_of_le hl hb.size, fun j x hx => (hb.cell (p := ⟨b, o + j, none⟩) hl).trans (hr j x hx)⟩
theorem TextAt.slice {w : World} {v : Value} {t : Tx} (h : TextAt w v t) : ∃ A c, v = .slice A t.length c := by
  rcases h with ⟨rfl, A, c, e⟩ | ⟨b, o, c, e, _⟩
  · exact ⟨A, c, e⟩
  · exact ⟨_, c, e⟩
theorem TextAt.src {w : World} {A : Option Addr} {n c : Nat} {t : Tx} (h : TextAt w (.slice A n c) t) : n = t.length ∧ SrcAt w A t.length 1 (tC t) := by
  rcases h with ⟨rfl, A', c', e⟩ | ⟨b, o, c', e, _, hr⟩
  · cases e; exact ⟨rfl, by simp, fun h => absurd rfl h⟩
  · cases e
    refine ⟨rfl, by simp, fun _ => ⟨_, rfl, fun j u hu => ?_⟩⟩
    rw [Addr.add_mid]
    exact hr j u hu
theorem conv_text {w : World} {v : Value} {t : Tx} (h : TextAt w v t) : (convert 30 9 v).run Try.prog w = .ok (.string ⟨t.toArray⟩) w := by
  rcases h with ⟨rfl, A, c, rfl⟩ | ⟨b, o, c, rfl, _, hr⟩
  · rw [run_convert_bytes_string w 30 9 5 A 0 c Try.underlying30 Try.underlying5 Try.underlying9]
    cases A <;> (simp [Conv.bytesToString]; rfl)
  · exact run_convert_bytes_back (P := Try.prog) w 30 9 5 ⟨b, o, none⟩ c t Try.underlying30 Try.underlying5 Try.underlying9 (fun j hj => by
      rw [Addr.add_mid]
      exact hr j _ (by simp [tC, bV, hj]))
theorem BufT.text {F : Nat → Prop} {w : World} {v : Value} {t : Tx} (h : BufT F w v t) : TextAt w v t := by
  obtain ⟨b, c, e, ht, hr, _⟩ := h
  exact .inr ⟨b, 0, c, e, ht.lt, hr⟩
theorem BufT.of_own {F : Nat → Prop} {base : Nat} {w : World} {A : Option Addr} {n c : Nat} {t : Tx} (h : w.ownsRow base 5 1 (.slice A n c) n (tC t)) (hn : n = t.length) (h0 : A ≠ none) (hF : ∀ g, (Value.slice A n c).ownBlock = some g → ¬ F g) : BufT F w (.slice A n c) t := by
  subst hn
  have ht := fun g e => ownsRow_ty h (g := g) e
  obtain ⟨A2, c2, e2, htl⟩ := ownsRow_tells h
  cases e2
  obtain ⟨_, ⟨e, hx⟩ | ⟨g, cap, cur, e, hg, hh, hle, hc, hs, htk⟩⟩ := h
  · injection e with e1
    exact absurd e1 h0
  · cases e
    refine ⟨g, c, rfl, ht g rfl, fun j x hx => ?_, hF g rfl⟩
    have hj : j < t.length := by have := (List.getElem?_eq_some_iff.1 hx).1; simpa using this
    obtain ⟨g', e, _, _, hc⟩ := htl (by omega)
    cases e
    rw [Nat.zero_add]
    exact hc j x hx
theorem TextAt.of_own {base : Nat} {w : World} {A : Option Addr} {n c : Nat} {t : Tx} (h : w.ownsRow base 5 1 (.slice A n c) n (tC t)) (hn : n = t.length) : TextAt w (.slice A n c) t := by
  subst hn
  obtain ⟨A2, c2, e2, htl⟩ := ownsRow_tells h
  cases e2
  by_cases h0 : t = []
  · subst h0; exact .inl ⟨rfl, A, c, rfl⟩
  · obtain ⟨g, rfl, _, hl, hc⟩ := htl (by simpa using h0)
    exact .inr ⟨g, 0, c, rfl, hl, fun j x hx => by rw [Nat.zero_add]; exact hc j x hx⟩

theorem SrcAt.belowT {w w' : World} {b m : Nat} {t : Tx} (h : SrcAt w (some ⟨b, 0, none⟩) m 1 (tC t)) (hl : b < w.heap.size) (hb : Below w.heap.size w w') : SrcAt w' (some ⟨b, 0, none⟩) m 1 (tC t) := by
  refine ⟨h.1, fun hm => ?_⟩
  obtain ⟨ad, e, hc⟩ := h.2 hm
  cases e
  refine ⟨_, rfl, fun j u hu => ?_⟩
  have := hc j u hu
  rw [Addr.add_mid] at this ⊢
  exact (hb.cell (p := ⟨b, 0 + j, none⟩) hl).trans this
theorem BufT.src256 {F : Nat → Prop} {w : World} {bt ct : Nat} {t : Tx} (h : BufT F w (.slice (some ⟨bt, 0, none⟩) t.length ct) t) (hl : t.length = 256) : SrcAt w (some ⟨bt, 0, none⟩) 256 1 (tC t) := by
  have := h.text.src.2
  rwa [hl] at this
theorem info5' : (Try.prog.info? 5).map (fun i => (i.zero, i.size, i.bytes)) = some (some (.int .u8 0), 1, 1) := by kernel_rfl

set_option maxRecDepth 100000 in
set_option maxHeartbeats 2000000 in
theorem rread_any {F : Nat → Prop} (w : World) (n0 rb g c : Nat) (bs : List Bk) (d : Dsk) (N : Nat) (i : Int) (h : RfAt F w n0 rb g c bs d) (hO : d.Ok N) (hi64 : -9223372036854775808 ≤ i ∧ i ≤ 9223372036854775807) (hN : N < 549755813888) :
    Calls Try.prog 36 #[.pointer (some ⟨rb, 0, none⟩), .int .i64 i] w fun e w' => ∃ v, e = .returned (.tuple #[v, .int .i64 (readD d i).2]) ∧ TextAt w' v (readT d i) ∧ Below w.heap.size w w' := by
  have q := h.box.cell
  have l := h.box.lt
  have hg := h.gl.2.lt
  have hlen := h.len
  have hle := hO.len
  have hb1 : bs.length ≤ 4096 := by omega
  obtain ⟨i5, hi5, hz5, hs5, hy5⟩ := info_parts info5'
  have hone : ∀ t : Tx, ∀ v ∈ tC t, v.oneCell' = true := fun t => tC_one
  by_cases h1 : i < 0
  · have HR := Lib.hid (show readD d i = (none, 1) from by unfold readD; rw [if_pos (.inl h1)])
    clear hlen
    go_enter Try.func36, Try.ntmps36
    go_wp2
    go_ret2
    exact ⟨_, by rw [HR.out]; rfl, .inl ⟨by unfold readT; rw [HR.out]; rfl, _, _, rfl⟩, Below.refl _ _⟩
  · by_cases h2 : (bs.length : Int) ≤ i
    · have HR := Lib.hid (show readD d i = (none, 1) from by unfold readD; rw [if_pos (.inr (by omega))])
      clear hlen
      go_enter Try.func36, Try.ntmps36
      go_wp2
      go_ret2
      exact ⟨_, by rw [HR.out]; rfl, .inl ⟨by unfold readT; rw [HR.out]; rfl, _, _, rfl⟩, Below.refl _ _⟩
    · obtain ⟨j, rfl⟩ : ∃ j : Nat, i = j := ⟨i.toNat, by omega⟩
      have hj : j < bs.length := by omega
      have hR0 : readD d j = if d.off then (none, (8 : Int)) else match lookI d.vs j with
        | some l => (some (lastT l), 0)
        | none => if (lookI d.bad j).getD false then (none, 22) else (some (d.ts[j]?.getD []), 0) := by unfold readD; rw [if_neg (by omega), Int.toNat_natCast]; rfl
      obtain ⟨t0, t1, t2⟩ := h.cells hj
      clear h1 h2
      have hj0 : (0 : Int) ≤ (j : Int) := by omega
      cases hoff : d.off with
      | true =>
        rw [hoff] at q hR0
        simp only [if_true] at hR0
        have HR := Lib.hid hR0
        clear hR0 hoff hlen
        go_enter Try.func36, Try.ntmps36
        go_wp2
        go_ret2
        exact ⟨_, by rw [HR.out]; rfl, .inl ⟨by unfold readT; rw [HR.out]; rfl, _, _, rfl⟩, Below.refl _ _⟩
      | false =>
        rw [hoff] at q hR0
        simp only [Bool.false_eq_true, if_false] at hR0
        clear hoff
        obtain ⟨hs, hrow, hvr⟩ := h.ver j hj
        have hbad := h.bad j hj
        have htx := h.txt j hj
        obtain ⟨AT, nT, cT, hsl⟩ := h.sl _ (List.getElem_mem hj)
        generalize bs[j] = bk at *
        obtain ⟨bT, bB, bV⟩ := bk
        dsimp only at t0 t1 t2 hbad htx hrow hsl
        subst hsl
        cases hv : lookI d.vs j with
        | some lv =>
          obtain ⟨_, _, hne, hlN, hl256⟩ := hO.vs j lv hv
          have hvs : vsOf d j = lv := by unfold vsOf; rw [hv]; rfl
          rw [hvs] at hrow hvr
          rw [hv] at hR0
          dsimp only at hR0
          have hpos : lv.length ≠ 0 := by simpa using hne
          obtain ⟨v, hvk, hbuf⟩ := hvr (lv.length - 1) (lastT lv) (by rw [lastT_get hpos]; exact List.getElem?_eq_getElem (by omega))
          have hlast : (lastT lv).length = 256 := hl256 _ (lastT_mem hne)
          obtain ⟨A, c', e, htl⟩ := ownsRow_tells hrow
          subst e
          obtain ⟨gq, rfl, _, hgq, hcq⟩ := htl hpos
          have hcv := hcq _ _ hvk
          have HR := Lib.hid hR0
          obtain ⟨m, hm⟩ : ∃ m, lv.length = m + 1 := ⟨lv.length - 1, by omega⟩
          rw [hm] at t2
          rw [show lv.length - 1 = m from by omega] at hcv
          have hmN : m < 549755813888 := by omega
          have hm0 : (0 : Int) ≤ (m : Int) := by omega
          generalize lastT lv = tx at *
          obtain ⟨bt, ct, rfl, ht5, hr5⟩ := hbuf
          have hbuf : BufT F w (.slice (some ⟨bt, 0, none⟩) tx.length ct) tx := ⟨bt, ct, rfl, ht5, hr5⟩
          have hbl := ht5.lt
          rw [hlast] at hcv
          have hl2 : tx.length ≤ 256 := by omega
          clear hR0 hlen hrow hvr htl hcq hvk hm hvs hv hl256 hlN hpos hne hbad htx ht5 hr5
          replace hlast := Lib.hid hlast
          go_enter Try.func36, Try.ntmps36
          go_wp2_with (at_builtin; refine wpList_append_srcT rfl _ _ 30 rfl (w.heap.size + 1) 5 i5 _ 1 1 Try.underlying30 hi5 hz5 hs5 hy5 rfl (by omega) (.slice (some ⟨w.heap.size + 1, 0, none⟩) 0 0) 0 [] rfl ?hown1 (some ⟨bt, 0, none⟩) 256 ct (tC tx) rfl ?hsrc1 (hone tx) ?h631 ?hby1 ?hbase1 ?nx1; case' nx1 => intro A5 c5 w5 hown5 hg5)
          case hown1 => simpa using ownsRow_empty (w.alloc (.cells #[.slice AT nT cT, .bool bB, .slice (some ⟨gq, 0, none⟩) (m + 1) c'] 67)) 5 1 (w.heap.size + 1) (by simp)
          case hsrc1 => exact (hbuf.src256 hlast.out).belowT hbl (bl_alloc (bl_alloc (Below.refl _ _) _) _)
          case h631 => simp only [maxLen]; omega
          case hby1 => omega
          case hbase1 => simp
          have hb5 : Below w.heap.size w w5 := bl_gr (bl_alloc (bl_alloc (Below.refl _ _) _) _) (g := w.heap.size + 1) (by simpa [Value.ownBlock] using hg5) (by omega)
          go_ret2
          simp only [Nat.zero_add, List.nil_append] at hown5 ⊢
          exact ⟨_, by rw [HR.out]; rfl, by unfold readT; rw [HR.out]; exact TextAt.of_own hown5 hlast.out.symm, hb5⟩
        | none =>
          have hvs : vsOf d j = [] := by unfold vsOf; rw [hv]; rfl
          rw [hvs] at hrow
          rw [hv] at hR0
          dsimp only at hR0
          rw [← hbad] at hR0
          obtain ⟨A, c', e, _⟩ := ownsRow_tells hrow
          subst e
          simp only [List.length_nil] at t2
          cases bB with
          | true =>
            simp only [if_true] at hR0
            have HR := Lib.hid hR0
            clear hR0 hlen hrow hvr hv hvs hbad htx
            go_enter Try.func36, Try.ntmps36
            go_wp2
            go_ret2
            exact ⟨_, by rw [HR.out]; rfl, .inl ⟨by unfold readT; rw [HR.out]; rfl, _, _, rfl⟩, bl_alloc (Below.refl _ _) _⟩
          | false =>
            simp only [Bool.false_eq_true, if_false] at hR0
            have HR := Lib.hid hR0
            obtain ⟨bt, ct, e, ht5, hr5⟩ := htx rfl
            cases e
            have hlast : (d.ts[j]?.getD []).length = 256 := by rw [List.getElem?_eq_getElem (by omega)]; exact hO.tx _ (List.getElem_mem _)
            have hbuf : BufT F w (.slice (some ⟨bt, 0, none⟩) (d.ts[j]?.getD []).length cT) (d.ts[j]?.getD []) := ⟨bt, cT, rfl, ht5, hr5⟩
            have hbl := ht5.lt
            generalize d.ts[j]?.getD [] = tx at *
            rw [hlast] at t0
            clear hR0 hlen hrow hvr hv hvs hbad htx ht5 hr5
            have hl2 : tx.length ≤ 256 := by omega
            replace hlast := Lib.hid hlast
            go_enter Try.func36, Try.ntmps36
            go_wp2_with (at_builtin; refine wpList_append_srcT rfl _ _ 30 rfl (w.heap.size + 1) 5 i5 _ 1 1 Try.underlying30 hi5 hz5 hs5 hy5 rfl (by omega) (.slice (some ⟨w.heap.size + 1, 0, none⟩) 0 0) 0 [] rfl ?hown2 (some ⟨bt, 0, none⟩) 256 cT (tC tx) rfl ?hsrc2 (hone tx) ?h632 ?hby2 ?hbase2 ?nx2; case' nx2 => intro A5 c5 w5 hown5 hg5)
            case hown2 => simpa using ownsRow_empty (w.alloc (.cells #[.slice (some ⟨bt, 0, none⟩) 256 cT, .bool false, .slice A 0 c'] 67)) 5 1 (w.heap.size + 1) (by simp)
            case hsrc2 => exact (hbuf.src256 hlast.out).belowT hbl (bl_alloc (bl_alloc (Below.refl _ _) _) _)
            case h632 => simp only [maxLen]; omega
            case hby2 => omega
            case hbase2 => simp
            have hb5 : Below w.heap.size w w5 := bl_gr (bl_alloc (bl_alloc (Below.refl _ _) _) _) (g := w.heap.size + 1) (by simpa [Value.ownBlock] using hg5) (by omega)
            go_ret2
            simp only [Nat.zero_add, List.nil_append] at hown5 ⊢
            exact ⟨_, by rw [HR.out]; rfl, by unfold readT; rw [HR.out]; exact TextAt.of_own hown5 hlast.out.symm, hb5⟩
end Go.Proofs.Yteaenhmiomoocaa
