/- The walk of LedgerPages. -/
import Derived.Test.YtejjiiakficafaaPg
import Derived.Laws.StructEq
namespace Go.Proofs.Ytejjiiakficafaa
open Go Go.RowKit Go.Shelf Go.Maps
attribute [local go_sem] Oper.semAt_some

theorem run_neqRw (r : Rw) (w : World) : (binOp .neq 51 (.agg #[.int .i64 r.off, .int .i64 r.prod, .bool r.tx, .string r.rc.key, .string r.rc.val, .bool r.rc.dead]) (.agg #[.int .i64 r.off, .int .i64 r.prod, .bool r.tx, .string r.rc.key, .string r.rc.val, .bool r.rc.dead])).run Try.prog w = .ok (.bool false) w := by
  rw [run_neq_struct]
  simp [go_sem, Try.underlying51, Try.underlying43]
theorem mod7 (a : Int) : ∃ m : Nat, 1 ≤ m ∧ m ≤ 7 ∧ wrap64 (1 + (wrap64 (a.tmod 7 + 7)).tmod 7) = (m : Int) := by
  have h1 : -7 < a.tmod 7 ∧ a.tmod 7 < 7 := by
    rcases Int.le_total 0 a with h | h
    · rw [Int.tmod_eq_emod_of_nonneg h]; omega
    · have e : a.tmod 7 = -((-a).tmod 7) := by rw [Int.neg_tmod]; omega
      rw [e, Int.tmod_eq_emod_of_nonneg (by omega)]; omega
  have h2 : wrap64 (a.tmod 7 + 7) = a.tmod 7 + 7 := IntWalk.wrap64_in _ (by omega)
  rw [h2, Int.tmod_eq_emod_of_nonneg (by omega)]
  refine ⟨(1 + (a.tmod 7 + 7) % 7).toNat, by omega, by omega, ?_⟩
  rw [IntWalk.wrap64_in _ (by omega)]
  omega

set_option maxRecDepth 100000 in
set_option maxHeartbeats 4000000 in
theorem pages_any (A : Option Addr) (c : Nat) (l : List En) (most : Int) (co : Bool) (w : World) (hl : EnsAt w A l) (hll : l.length ≤ 1048576) (hmo : okI most) :
    Calls Try.prog 4 #[.slice A l.length c, .int .i64 most, .bool co] w fun e w' => e = .returned (.bool true) ∧ Below w.heap.size w w' := by
  have hL0 := led_new (a := w) w rfl
  go_enter Try.func4, Try.ntmps4
  go_wp2_with (go_at_call 8; refine (lnew_any _).mono ?_; rintro e w' ⟨rfl, rfl⟩)
  obtain ⟨W, hW⟩ : ∃ W, W = ((w.alloc (.map #[] 0)).alloc (.cells #[.map (some w.heap.size)] 88)).alloc (.cells #[.pointer (some ⟨w.heap.size + 1, 0, none⟩), .int .i64 0, .int .i64 0, .slice none 0 0, .slice none 0 0, .slice none 0 0] 64) := ⟨_, rfl⟩
  rw [← hW] at hL0 ⊢
  clear hW
  refine (lknows_any W).mono ?_
  rintro e w1 ⟨rfl, hb1⟩
  have hL1 := hL0.below hb1
  clear hL0 hb1
  go_wp2_with fail
  go_loopw [8] (fun u wr => ∃ (i : Nat) (L : Lg), u = .int .i64 i ∧ i ≤ l.length ∧ Hid (OpnL L ∧ SrtR L.rows) ∧ Led w (w.heap.size + 3) (w.heap.size + 1 + 1) (w.heap.size + 1) w.heap.size i L wr) (fun u _ => l.length - (intOf u).toNat)
  case atStart => exact ⟨0, lg0, rfl, Nat.zero_le _, Lib.hid ⟨opn0, by simp [SrtR, lg0]⟩, hL1⟩
  case round =>
    obtain ⟨i, L, rfl, hi, hO, hL⟩ := hrel
    clear hL1
    by_cases hlt : i < l.length
    · have hlw := hl.below hL.bel
      obtain ⟨b, o, A', c', rfl, hbl, hR, hF, e0, e1, e2, e3, e4, e5, e6, e7⟩ := hlw i hlt
      clear hlw
      generalize l[i] = x at hR hF e0 e1 e2 e3 e4 e5 e6 e7
      have hO2 := Lib.hid (And.intro (grows hL.good hO.out.1 x).2.2.2.2.2 (srt_apply hL.good hO.out.2 x))
      clear hO
      replace hF := Lib.hid hF
      go_wp2_with fail
      refine (own_any x A' c' _ hR).mono ?_
      rintro e w3 ⟨A3, c3, rfl, hR3, _, hb3⟩
      replace hL := hL.below hb3
      clear e0 e1 e2 e3 e4 e5 e6 e7 hR hb3 hbl
      go_wp2_with fail
      refine (apply_led hL (by omega) x A3 c3 hR3 hF.out.2.2.2.2.2).mono ?_
      rintro e w4 ⟨rfl, hL4⟩
      clear hL hR3
      generalize (L.said x).1 = sa
      generalize (L.said x).2 = sb
      generalize L.apply x = L2 at *
      go_wp2_with fail
      exact ⟨⟨i + 1, L2, by go_num, by omega, hO2, hL4⟩, by simp [intOf]; omega⟩
    · obtain rfl : i = l.length := by omega
      clear hl
      have hu := upto_ge hL.good hO.out.1 co
      have hg0 := hL.good.s0
      have hff := hL.good.ff
      have hfa := Lib.hid (fetch_all hL.good hll hO.out.1 co L.start (Int.le_refl _) hu.1)
      have hok : okI L.start ∧ okI 1073741824 := by unfold okI; omega
      have hnl : l.length ≤ 1000000000 := by omega
      go_upto_region 9 with (fail)
      obtain ⟨m, hm1, hm7, hme⟩ := mod7 most
      rw [hme]
      clear hme
      obtain ⟨i0, hi0, hz0, hz1, hz2⟩ := info_parts info51
      have hgood := Lib.hid hL.good
      have hrl := hL.good.rl
      have hfl : (L.from co L.start).length ≤ L.rows.length := List.length_filter_le _ _
      have hpg := Lib.hid (fun at' (h1 : L.start ≤ at') (h2 : at' < L.upto co) => fetch_page hgood.out hO.out.1 hO.out.2 co at' m hm1 h1 h2)
      clear hgood hO
      go_wp2_with (go_at_call 17; refine (start_led hL).mono ?_; rintro e w' ⟨rfl, rfl⟩)
      have c1 := fetch_led hL hnl L.start 1073741824 co hok.1 hok.2
      rw [hfa.out] at c1
      refine Calls.mono c1 ?_
      clear c1
      rintro e w2 ⟨A2, c2, rfl, hc2, hat2, _, hb2⟩
      dsimp only at hc2 hat2 ⊢
      replace hL := hL.below hb2
      clear hb2 hfa
      obtain ⟨F, hFe⟩ : ∃ F, F = L.from co L.start := ⟨_, rfl⟩
      rw [← hFe] at hc2 hat2 hfl ⊢
      replace hFe := Lib.hid hFe
      obtain ⟨E, hE⟩ : ∃ E, E = L.upto co := ⟨_, rfl⟩
      rw [← hE] at hpg hu ⊢
      replace hE := Lib.hid hE
      go_wp2_with (go_at_call 17; refine (start_led hL).mono ?_; rintro e w' ⟨rfl, rfl⟩)
      go_loopw [12, 13, 14] (fun v a u wr => ∃ (i : Nat) (at' : Int) (G : List Rw) (Ag : Option Addr) (cg : Nat), v = .slice Ag G.length cg ∧ a = .int .i64 at' ∧ u = .int .i64 i ∧ L.start ≤ at' ∧ at' ≤ E ∧ Hid (G ++ L.from co at' = F) ∧ (at' = E ∨ i ≤ G.length) ∧ i ≤ F.length + 1 ∧ wr.ownsRow w2.heap.size 51 6 (.slice Ag G.length cg) G.length (G.flatMap rwL) ∧ Below w2.heap.size w2 wr) (fun _ a _ _ => (E - intOf a).toNat)
      case atStart => exact ⟨0, L.start, [], none, 0, rfl, rfl, rfl, Int.le_refl _, hu.1, Lib.hid (by rw [hFe.out]; rfl), .inr (Nat.le_refl _), by omega, World.ownsRow_nil _ _ _ _, Below.refl _ _⟩
      case round =>
        obtain ⟨i, at', G, Ag, cg, rfl, rfl, rfl, ha1, ha2, hG, hor, hi1, hown, hb⟩ := hrel
        have hLr := hL.below hb
        have hgl : G.length ≤ F.length := by rw [← hG.out]; simp
        have hi0' : (0 : Int) ≤ (i : Int) := by omega
        by_cases hat : at' < E
        · obtain ⟨r, nx, hp1, hp2, hp3, hp4, hp5, hp6⟩ := hpg.out at' ha1 hat
          have hG2 := Lib.hid (show (G ++ r) ++ L.from co nx = F by rw [List.append_assoc, hp5, hG.out])
          have hgl2 : (G ++ r).length ≤ F.length := by rw [← hG2.out]; simp
          have hlen : (G ++ r).length = G.length + r.length := List.length_append
          have hfm := Lib.hid (show (G ++ r).flatMap rwL = G.flatMap rwL ++ r.flatMap rwL by rw [List.flatMap_append])
          have hor2 : nx = E ∨ i + 1 ≤ (G ++ r).length := by
            rcases hp6 with e | e
            · exact .inl e
            · refine .inr ?_
              rcases hor with e2 | e2
              · omega
              · omega
          have hii : i ≤ F.length := by
            rcases hor with e2 | e2
            · omega
            · omega
          clear hp5 hp6 hG hor
          have c3 := fetch_led hLr hnl at' m co (by unfold okI; omega) (by unfold okI; omega)
          rw [hp1] at c3
          clear hp1
          replace hlen := Lib.hid hlen
          have hcond : (i : Int) ≤ (F.length : Int) + 1 := by omega
          go_wp2_with fail
          refine Calls.mono c3 ?_
          clear c3
          rintro e w3 ⟨A3, c3, rfl, hc3, hat3, _, hb3⟩
          dsimp only at hc3 hat3 ⊢
          have hne : (nx == at') = false := by simp; omega
          have hown3 := ownsRow_below hown hb3
          have hb23 : Below w2.heap.size w2 w3 := bl_tr hb hb3
          have hbs := hb23.size
          have hglr := hlen.out
          go_wp2_with (first | (go_at_call 14; refine (num_any _ _).mono ?_; rintro e w' ⟨rfl, rfl⟩) | (at_builtin; refine wpList_append_srcT rfl _ _ 46 rfl w2.heap.size 51 i0 _ 6 64 Try.underlying46 hi0 hz0 hz1 hz2 rfl (by omega) (.slice Ag G.length cg) G.length _ rfl hown3 A3 r.length c3 (r.flatMap rwL) rfl (hat3.src rwL_len (by omega)) (flat_one rwL_one r) (by simp only [maxLen]; omega) (by omega) hbs ?_; intro A4 c4 w4 hown4 hg4))
          have hb4 := bl_own hb23 hown3 (Nat.le_refl _) hg4
          rw [← hfm.out, ← hlen.out] at hown4
          exact ⟨⟨i + 1, nx, G ++ r, A4, c4, by rw [hlen.out], rfl, by go_num, by omega, hp3, hG2, hor2, by omega, hown4, hb4⟩, by simp [intOf]; omega⟩
        · obtain rfl : at' = E := by omega
          have hGF : G = F := by
            have h1 := hG.out
            rw [hE.out, show L.from co (L.upto co) = [] from page_end _ co, List.append_nil] at h1
            exact h1
          subst hGF
          have hLG := LAt.of_own rwL_len hown rfl
          have hLF := hat2.below hb
          have hbw := bl_tr hL.bel hb
          clear hpg hG hor hown hat2 hL hLr
          go_wp2_with (go_at_call 14; refine (num_any _ _).mono ?_; rintro e w' ⟨rfl, rfl⟩)
          go_loopw [18] (fun u ws => ∃ k : Nat, u = .int .i64 k ∧ k ≤ G.length ∧ Below wr.heap.size wr ws) (fun u _ => G.length - (intOf u).toNat)
          case atStart => exact ⟨0, rfl, Nat.zero_le _, Below.refl _ _⟩
          case round =>
            obtain ⟨k, rfl, hk, hbs⟩ := hrel
            by_cases hlt2 : k < G.length
            · obtain ⟨b1, o1, rfl, hbl1, ca⟩ := (hLG.below hbs) k hlt2
              obtain ⟨b2, o2, rfl, hbl2, cb⟩ := (hLF.below hbs) k hlt2
              generalize G[k] = x at ca cb
              have a0 := ca 0 _ rfl
              have a1 := ca 1 _ rfl
              have a2 := ca 2 _ rfl
              have a3 := ca 3 _ rfl
              have a4 := ca 4 _ rfl
              have a5 := ca 5 _ rfl
              have d0 := cb 0 _ rfl
              have d1 := cb 1 _ rfl
              have d2 := cb 2 _ rfl
              have d3 := cb 3 _ rfl
              have d4 := cb 4 _ rfl
              have d5 := cb 5 _ rfl
              simp only [Nat.add_zero] at a0 d0
              have hneq := run_neqRw x
              have hltI : (k : Int) < (G.length : Int) := by omega
              clear ca cb hLG hLF
              go_wp2_with fail
              go_quiet (fail)
              go_wp2_with fail
              exact ⟨⟨k + 1, by go_num, by omega, below_drewN hbs _⟩, by simp [intOf]; omega⟩
            · obtain rfl : k = G.length := by omega
              go_wp2_with fail
              go_ret
              exact ⟨rfl, bl_tr hbw hbs⟩
end Go.Proofs.Ytejjiiakficafaa
