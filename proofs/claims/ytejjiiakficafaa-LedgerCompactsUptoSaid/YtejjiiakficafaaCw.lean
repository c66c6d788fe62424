/- The walk of LedgerCompacts. -/
import Derived.Test.YtejjiiakficafaaCm
import Derived.Test.YtejjiiakficafaaPw
namespace Go.Proofs.Ytejjiiakficafaa
open Go Go.RowKit Go.Shelf Go.Maps
attribute [local go_sem] Oper.semAt_some

theorem str_eqB (x y : ByteArray) : (x.toList == y.toList) = decide (x = y) := by
  rw [Bool.eq_iff_iff]
  simp only [beq_iff_eq, decide_eq_true_eq]
  constructor
  · intro h
    rw [Lib.toList_data, Lib.toList_data] at h
    cases x; cases y
    simp at h
    rw [h]
  · rintro rfl; rfl
theorem tl_inj (x y : ByteArray) : (x.toList = y.toList) = (x = y) := by
  have h := str_eqB x y
  by_cases e : x = y
  · subst e; simp
  · have : ¬ x.toList = y.toList := fun h2 => by rw [h2] at h; simp [e] at h
    simp [e, this]
def LedB (v a : World) (n0 lb tb mb nn : Nat) (L : Lg) (w : World) : Prop := Led a n0 lb tb mb nn L w ∧ Below v.heap.size v w
theorem LedB.below {v a w w1 : World} {n0 lb tb mb nn : Nat} {L : Lg} (h : LedB v a n0 lb tb mb nn L w) (hb : Below w.heap.size w w1) : LedB v a n0 lb tb mb nn L w1 := ⟨h.1.below hb, bl_tr h.2 hb⟩
def encB (b : Bool) : Value := .bool b
theorem zero4 (w : World) : (zeroValue 4).run Try.prog w = .ok (encB false) w := by kernel_rfl
theorem wp_mapUpdate_fm {P : Program} {κ α : Type} {kv : κ → Value} {kl : κ → Lit} {ok : κ → Prop} {enc : α → Value} {z : α} {f : κ → α} {K e : TypeId} {o : Oper} {a : Act} {w : World} {KK : Act → World → Prop} {Q : Exit → Act → World → Prop}
    [DecidableEq κ] (x y v : Operand) (t : TypeId) (ho : o.op = Op.mapUpdate t x y v) (hd : o.dst = none) (T : KeyTold P K κ ok kv kl) (ht : P.underlying t = some (.map K e))
    (b n : Nat) (hx : a.eval x = .map (some b)) (h : FM P K kl ok w b n enc z f) (hn : n < maxLen) (k : κ) (hk : ok k) (hy : a.eval y = kv k) (u : α) (hv : a.eval v = enc u)
    (h' : ∀ w', FM P K kl ok w' b (n + 1) enc z (fun y => if y = k then u else f y) → w.grownBy w' (some b) → KK a w') : o.wp P a w KK Q := by
  obtain ⟨w', hrun, r1, r2⟩ := h.store T ht hn hk u
  unfold Oper.wp
  simp only [execOp, ho, hx, hy, hv, hrun, Sem.run_bind, Sem.run_pure, Result.andThen_ok, Oper.upon, Act.put, hd]
  exact h' w' r1 r2
theorem run_eqlRw (a b : Rw) (w : World) : (binOp .eql 51 (.agg #[.int .i64 a.off, .int .i64 a.prod, .bool a.tx, .string a.rc.key, .string a.rc.val, .bool a.rc.dead]) (.agg #[.int .i64 b.off, .int .i64 b.prod, .bool b.tx, .string b.rc.key, .string b.rc.val, .bool b.rc.dead])).run Try.prog w = .ok (.bool (decide (a = b))) w := by
  rw [run_eql_struct]
  simp [go_sem, Try.underlying51, Try.underlying43]
  simp only [tl_inj]
  obtain ⟨a1, a2, a3, a4, a5, a6⟩ := a
  obtain ⟨b1, b2, b3, b4, b5, b6⟩ := b
  simp only [Rw.mk.injEq, Rec.mk.injEq]
  repeat' split
  all_goals simp_all
theorem run_neqRw2 (a b : Rw) (w : World) : (binOp .neq 51 (.agg #[.int .i64 a.off, .int .i64 a.prod, .bool a.tx, .string a.rc.key, .string a.rc.val, .bool a.rc.dead]) (.agg #[.int .i64 b.off, .int .i64 b.prod, .bool b.tx, .string b.rc.key, .string b.rc.val, .bool b.rc.dead])).run Try.prog w = .ok (.bool (!decide (a = b))) w := by
  rw [run_neq_struct]
  simp [go_sem, Try.underlying51, Try.underlying43]
  simp only [tl_inj]
  obtain ⟨a1, a2, a3, a4, a5, a6⟩ := a
  obtain ⟨b1, b2, b3, b4, b5, b6⟩ := b
  simp only [Rw.mk.injEq, Rec.mk.injEq]
  repeat' split
  all_goals simp_all

set_option maxRecDepth 100000 in
set_option maxHeartbeats 4000000 in
theorem compacts_any (A : Option Addr) (c : Nat) (l : List En) (n frm : Int) (w : World) (hl : EnsAt w A l) (hll : l.length ≤ 1048576) :
    Calls Try.prog 6 #[.slice A l.length c, .int .i64 n, .int .i64 frm] w fun e w' => e = .returned (.bool true) ∧ Below w.heap.size w w' := by
  have hL0 := led_new (a := w) w rfl
  go_enter Try.func6, Try.ntmps6
  go_wp2_with (go_at_call 8; refine (lnew_any _).mono ?_; rintro e w' ⟨rfl, rfl⟩)
  obtain ⟨W, hW⟩ : ∃ W, W = ((w.alloc (.map #[] 0)).alloc (.cells #[.map (some w.heap.size)] 88)).alloc (.cells #[.pointer (some ⟨w.heap.size + 1, 0, none⟩), .int .i64 0, .int .i64 0, .slice none 0 0, .slice none 0 0, .slice none 0 0] 64) := ⟨_, rfl⟩
  rw [← hW] at hL0 ⊢
  clear hW
  refine (lknows_any W).mono ?_
  rintro e w1 ⟨rfl, hb1⟩
  have hL1 := hL0.below hb1
  clear hL0 hb1
  go_wp2_with fail
  go_loopw [8] (fun u wr => ∃ (i : Nat) (L : Lg), u = .int .i64 i ∧ i ≤ l.length ∧ Hid (OpnL L ∧ SrtR L.rows ∧ StaR L) ∧ Led w (w.heap.size + 3) (w.heap.size + 1 + 1) (w.heap.size + 1) w.heap.size i L wr) (fun u _ => l.length - (intOf u).toNat)
  case atStart => exact ⟨0, lg0, rfl, Nat.zero_le _, Lib.hid ⟨opn0, by simp [SrtR, lg0], by simp [StaR, lg0]⟩, hL1⟩
  case round =>
    obtain ⟨i, L, rfl, hi, hO, hL⟩ := hrel
    clear hL1
    by_cases hlt : i < l.length
    · have hlw := hl.below hL.bel
      obtain ⟨b, o, A', c', rfl, hbl, hR, hF, e0, e1, e2, e3, e4, e5, e6, e7⟩ := hlw i hlt
      clear hlw
      generalize l[i] = x at hR hF e0 e1 e2 e3 e4 e5 e6 e7
      have hO2 := Lib.hid (And.intro (grows hL.good hO.out.1 x).2.2.2.2.2 (And.intro (srt_apply hL.good hO.out.2.1 x) (sta_apply hL.good hO.out.2.2 x)))
      clear hO
      replace hF := Lib.hid hF
      go_wp2_with fail
      refine (own_any x A' c' _ hR).mono ?_
      rintro e w3 ⟨A3, c3, rfl, hR3, _, hb3⟩
      replace hL := hL.below hb3
      clear e0 e1 e2 e3 e4 e5 e6 e7 hR hb3 hbl
      go_wp2_with fail
      refine (apply_led hL (by omega) x A3 c3 hR3 hF.out.2.2.2.2.2).mono ?_
      rintro e w4 ⟨rfl, hL4⟩
      clear hL hR3
      generalize (L.said x).1 = sa
      generalize (L.said x).2 = sb
      generalize L.apply x = L2 at *
      go_wp2_with fail
      exact ⟨⟨i + 1, L2, by go_num, by omega, hO2, hL4⟩, by simp [intOf]; omega⟩
    · obtain rfl : i = l.length := by omega
      clear hl
      have hu := upto_ge hL.good hO.out.1 true
      have hst := hL.good.stable
      have hg0 := hL.good.s0
      have hff := hL.good.ff
      have hfa := Lib.hid (fetch_all hL.good hll hO.out.1 true L.start (Int.le_refl _) hu.1)
      have hok : okI L.start ∧ okI 1073741824 := by unfold okI; omega
      have hnl : l.length ≤ 1000000000 := by omega
      go_upto_region 8 with (fail)
      obtain ⟨m, m0, m1, me, ma, mb⟩ := modS n L.stable (by omega) (by omega)
      have hw1 : IntKind.i64.wrap (L.stable + 1) = L.stable + 1 := IntWalk.i64_in _ (by omega)
      have hw2 : IntKind.i64.wrap (n.tmod (L.stable + 1) + L.stable) = n.tmod (L.stable + 1) + L.stable := IntWalk.i64_in _ (by omega)
      have hw3 : IntKind.i64.wrap (n.tmod (L.stable + 1) + L.stable + 1) = n.tmod (L.stable + 1) + L.stable + 1 := IntWalk.i64_in _ (by omega)
      have hw4 : (L.stable + 1 == 0) = false := by simp; omega
      have hw5 : (L.stable + 1 = 0) = False := by simp; omega
      go_region_held3 (fun w' => Led w (w.heap.size + 3) (w.heap.size + 1 + 1) (w.heap.size + 1) w.heap.size l.length L w') (first | assumption | exact hL.drew | (refine Led.below ?_ hb4; assumption)) ((go_at_call 16; refine (stable_led ‹Led _ _ _ _ _ _ _ _› hnl).mono ?_; rintro e w4 ⟨rfl, hb4⟩))
      rename_i hHeld
      replace hL := hHeld
      clear hHeld hw1 hw2 hw3 hw4 hw5
      have hm2 : m ≤ 281474976710656 := by omega
      have hcs := compact_said m0 m1 hm2
      have hrl2 := hL.good.rl
      have hky := Lib.hid (show ∀ r ∈ L.from true L.start, r.rc.key.size ≤ 140737488351232 ∧ okI r.off from fun r hr => ⟨hL.good.key r (List.mem_filter.1 hr).1, by have := hL.good.off r (List.mem_filter.1 hr).1; unfold okI; omega⟩)
      have hkN := Lib.hid (show ∀ r ∈ L.kept m, okI r.off from fun r hr => by have := hL.good.off r (List.mem_filter.1 hr).1; unfold okI; omega)
      have hO2 := Lib.hid (And.intro (grows hL.good hO.out.1 (cx m)).2.2.2.2.2 (sta_apply hL.good hO.out.2.2 (cx m)))
      have hgl : (L.from true L.start).length ≤ L.rows.length := List.length_filter_le _ _
      have hkm := Lib.hid (fun r hr hn hl => kept_met (r := r) hO.out.2.2 m1 hr hn hl)
      obtain ⟨hcs1, hcs2, hcs3, hcs4, hcs5, hcs6⟩ := hcs
      clear hm2
      obtain ⟨W4, hW4⟩ : ∃ W4, W4 = w4 := ⟨_, rfl⟩
      rw [← hW4] at hL ⊢
      clear hW4 ma mb
      go_wp2_with fail
      refine (rows_led hL hnl).mono ?_
      rintro e w5 ⟨A9, c9, rfl, hat9, hnw9, hb5⟩
      have hL5 := hL.below hb5
      go_wp2_with (go_at_call 17; refine (start_led hL5).mono ?_; rintro e w' ⟨rfl, rfl⟩)
      have k1 := fetch_led hL5 hnl L.start 1073741824 true hok.1 hok.2
      rw [hfa.out] at k1
      refine Calls.mono k1 ?_
      clear k1
      rintro e w6 ⟨A10, c10, rfl, _, hat10, hnw10, hb6⟩
      dsimp only at hat10 hnw10 ⊢
      have hb46 := bl_tr hb5 hb6
      replace hat9 := hat9.below hb6
      have k2 := apply_led2 hL hb46 (by omega) (cx m) none 0 ⟨⟨by simp [cx, noBat], fun i hi => by simp [cx, noBat] at hi⟩, fun b o hn => absurd rfl hn⟩ (by unfold okI; simp [cx, noBat])
      rw [hcs1] at k2
      go_wp2_with fail
      refine Calls.mono k2 ?_
      clear k2
      rintro e w7 ⟨rfl, hL7, hk7⟩
      replace hat9 := rows_over hat9 hnw9 hk7
      replace hat10 := rows_over hat10 (fun b o h e => Nat.le_trans hb5.size (hnw10 b o h e)) hk7
      have hlow7 : W4.heap.size ≤ w6.heap.size := hb46.size
      clear hk7 hL5 hb5 hb6 hb46 hL hfa
      obtain ⟨L2, hL2e⟩ : ∃ L2, L2 = L.apply (cx m) := ⟨_, rfl⟩
      rw [← hL2e] at hO2 hL7 hcs2 hcs3 hcs4 hcs5 hcs6
      replace hL2e := Lib.hid hL2e
      go_wp2_with fail
      refine (rows_led hL7 (by omega)).mono ?_
      rw [hcs2]
      rintro e w8 ⟨A15, c15, rfl, hat15, hnw15, hb8⟩
      have hL8 := hL7.below hb8
      replace hat9 := hat9.below hb8
      replace hat10 := hat10.below hb8
      obtain ⟨N, hN⟩ : ∃ N, N = L.kept m := ⟨_, rfl⟩
      rw [← hN] at hkN hat15 hnw15 hcs2 hkm ⊢
      obtain ⟨G, hG⟩ : ∃ G, G = L.from true L.start := ⟨_, rfl⟩
      rw [← hG] at hky hgl hat10 hkm ⊢
      have hNP := Lib.hid (show N = L.rows.filter (staysP L.gone m (lastF L.gone m L.rows)) from hN)
      replace hN := Lib.hid hN
      replace hG := Lib.hid hG
      have hrl := hL8.good.rl
      rw [hcs2] at hrl
      clear hnw9 hnw10
      obtain ⟨P, hP⟩ : ∃ P, P = staysP L.gone m (lastF L.gone m L.rows) := ⟨_, rfl⟩
      have hNP2 := Lib.hid (show N = L.rows.filter P by rw [hP]; exact hNP.out)
      have hnk := Lib.hid (show ∀ r : Rw, P r = false → r.off < m from fun r h => not_kept (L := L) (by rw [← hP]; exact h))
      clear hNP
      replace hP := Lib.hid hP
      go_wp2_with fail
      go_loopw [16, 17] (fun a u wr => ∃ i : Nat, a = .int .i64 (((L.rows.take i).filter P).length : Nat) ∧ u = .int .i64 i ∧ i ≤ L.rows.length ∧ Below w8.heap.size w8 wr) (fun _ u _ => L.rows.length - (intOf u).toNat)
      case atStart => exact ⟨0, rfl, rfl, Nat.zero_le _, Below.refl _ _⟩
      case round =>
        obtain ⟨i, rfl, rfl, hi, hb⟩ := hrel
        have hle : ((L.rows.take i).filter P).length ≤ N.length := by rw [hNP2.out]; exact filt_le P L.rows i
        by_cases hlt : i < L.rows.length
        · have hstp := Lib.hid (filt_step (P := P) hlt)
          have hltI : (i : Int) < (L.rows.length : Int) := by omega
          have h9 := hat9.below hb
          have h15 := hat15.below hb
          obtain ⟨b1, o1, rfl, hbl1, c1⟩ := h9 i hlt

          have hfa2 := Lib.hid (fun hp => filt_at (P := P) hlt hp)
          have hfn := Lib.hid (fun hp k y => filt_ne (P := P) hlt hp (k := k) (y := y))
          have hnk2 := hnk.out L.rows[i]
          obtain ⟨K, hK⟩ : ∃ K, K = ((L.rows.take i).filter P).length := ⟨_, rfl⟩
          rw [← hK] at hle hstp hfa2 ⊢
          replace hK := Lib.hid hK
          generalize L.rows[i] = x at c1 hstp hfa2 hfn hnk2
          have a0 := c1 0 _ rfl
          have a1 := c1 1 _ rfl
          have a2 := c1 2 _ rfl
          have a3 := c1 3 _ rfl
          have a4 := c1 4 _ rfl
          have a5 := c1 5 _ rfl
          simp only [Nat.add_zero] at a0
          clear c1 h9
          by_cases hk : K < N.length
          · have hkI : decide ((K : Int) < (N.length : Int)) = true := by simp; omega
            obtain ⟨b2, o2, rfl, hbl2, c2⟩ := h15 K hk
            have hyN : (L.rows.filter P)[K]? = some N[K] := by rw [← hNP2.out]; exact List.getElem?_eq_getElem hk
            generalize N[K] = y at c2 hyN
            have d0 := c2 0 _ rfl
            have d1 := c2 1 _ rfl
            have d2 := c2 2 _ rfl
            have d3 := c2 3 _ rfl
            have d4 := c2 4 _ rfl
            have d5 := c2 5 _ rfl
            simp only [Nat.add_zero] at d0
            clear c2 h15
            have heq := run_eqlRw y x
            cases hp : P x with
            | true =>
              have hxy : y = x := by
                have := hfa2.out hp
                rw [hyN] at this
                exact Option.some.inj this
              rw [decide_eq_true hxy] at heq
              rw [hp] at hstp
              clear hfn hfa2 hyN hnk2
              go_wp2_with fail
              go_quiet (fail)
              go_wp2_with fail
              exact ⟨⟨i + 1, by rw [hstp.out]; go_num, by go_num, by omega, below_drewN hb _⟩, by simp [intOf]; omega⟩
            | false =>
              have hxy : ¬ y = x := hfn.out hp K y hyN
              rw [decide_eq_false hxy] at heq
              rw [hp] at hstp
              have hoff := hnk2 hp
              have hge : (m ≤ x.off) = False := by simp; omega
              clear hfn hfa2 hyN hnk2
              go_wp2_with fail
              go_quiet (fail)
              go_wp2_with fail
              exact ⟨⟨i + 1, by rw [hstp.out]; simp [hK.out], by go_num, by omega, below_drewN hb _⟩, by simp [intOf]; omega⟩
          · have hkI : decide ((K : Int) < (N.length : Int)) = false := by simp; omega
            have hp : P x = false := by
              cases hp : P x with
              | false => rfl
              | true =>
                have := hfa2.out hp
                rw [← hNP2.out, List.getElem?_eq_none (by omega)] at this
                cases this
            rw [hp] at hstp
            have hoff := hnk2 hp
            have hge : (m ≤ x.off) = False := by simp; omega
            clear hfn hfa2 hnk2
            go_wp2_with fail
            go_quiet (fail)
            go_wp2_with fail
            exact ⟨⟨i + 1, by rw [hstp.out]; simp [hK.out], by go_num, by omega, below_drewN hb _⟩, by simp [intOf]; omega⟩
        · obtain rfl : i = L.rows.length := by omega
          have hlen : ((L.rows.take L.rows.length).filter P).length = N.length := by rw [hNP2.out, List.take_length]
          rw [hlen]
          clear hnk hNP2 hlen hle
          replace hat10 := hat10.below hb
          replace hat15 := hat15.below hb
          replace hL8 := hL8.below hb
          obtain ⟨V, hV⟩ : ∃ V, V = wr := ⟨_, rfl⟩
          subst hV
          have hmm := @run_makeMap Try.prog
          go_wp2_with (go_at_call 14; refine (num_any _ _).mono ?_; rintro e w' ⟨rfl, rfl⟩)
          go_loopw [19] (fun u wq => ∃ i : Nat, u = .int .i64 i ∧ i ≤ G.length ∧ FM Try.prog 9 klS okS wq V.heap.size i encI 0 (lastG m (G.take i)) ∧ Below V.heap.size V wq) (fun u _ => G.length - (intOf u).toNat)
          case atStart => exact ⟨0, rfl, Nat.zero_le _, FM.made V Try.prog 9 klS okS encI 0, bl_alloc (Below.refl _ _) _⟩
          case round =>
            obtain ⟨i, rfl, hi, hF, hb3⟩ := hrel
            by_cases hlt : i < G.length
            · have hstp := Lib.hid (lastG_snoc m G i hlt)
              have hltI : (i : Int) < (G.length : Int) := by omega
              obtain ⟨b3, o3, rfl, hbl3, c3⟩ := (hat10.below hb3) i hlt
              obtain ⟨hkx, -⟩ := hky.out G[i] (List.getElem_mem hlt)
              generalize G[i] = x at c3 hstp hkx
              have a0 := c3 0 _ rfl
              have a3 := c3 3 _ rfl
              simp only [Nat.add_zero] at a0
              clear c3
              have hi0 : i < maxLen := by simp only [maxLen]; omega
              by_cases hn : x.off < m
              · rw [decide_eq_true hn] at hstp
                go_upto_region 28 with (fail)
                refine anyBut.region rfl 12 (fun w' => w'.cell? ⟨b3, o3 + i * 6 + 3, none⟩ = some (.string x.rc.key) ∧ w'.cell? ⟨b3, o3 + i * 6, none⟩ = some (.int .i64 x.off)) ?_
                try simp only [List.setIfInBounds_toArray, List.set_cons_zero, List.set_cons_succ]
                refine anyBut.takeW (i := 0) (t := 138) (v := (.map (some V.heap.size))) (by kernel_rfl) rfl rfl (by decide +kernel) (by decide +kernel) (by decide +kernel) (fun _ _ _ h => h.elim) (.inl ⟨rfl, fun w' hS => ?_⟩) ⟨a3, a0⟩ ?_
                · go_simp
                try simp only [List.setIfInBounds_toArray, List.set_cons_zero, List.set_cons_succ]
                refine anyBut.takeW (i := 1) (t := 139) (v := (.slice (some ⟨b3, o3, none⟩) G.length c10)) (by kernel_rfl) rfl rfl (by decide +kernel) (by decide +kernel) (by decide +kernel) (fun _ _ _ h => h.elim) (.inl ⟨rfl, fun w' hS => ?_⟩) ⟨a3, a0⟩ ?_
                · go_simp
                try simp only [List.setIfInBounds_toArray, List.set_cons_zero, List.set_cons_succ]
                refine anyBut.takeW (i := 2) (t := 140) (v := (.int .i64 (i : Nat))) (by kernel_rfl) rfl rfl (by decide +kernel) (by decide +kernel) (by decide +kernel) (fun _ _ _ h => h.elim) (.inl ⟨rfl, fun w' hS => ?_⟩) ⟨a3, a0⟩ ?_
                · go_simp
                try simp only [List.setIfInBounds_toArray, List.set_cons_zero, List.set_cons_succ]
                refine anyBut.takeW (i := 3) (t := 141) (v := (.pointer (some ⟨b3, o3 + i * 6, none⟩))) (by kernel_rfl) rfl rfl (by decide +kernel) (by decide +kernel) (by decide +kernel) (fun _ _ _ h => h.elim) (.inl ⟨rfl, fun w' hS => ?_⟩) ⟨a3, a0⟩ ?_
                · go_simp
                try simp only [List.setIfInBounds_toArray, List.set_cons_zero, List.set_cons_succ]
                refine anyBut.takeW (i := 4) (t := 142) (v := (.pointer (some ⟨b3, o3 + i * 6 + 3, none⟩))) (by kernel_rfl) rfl rfl (by decide +kernel) (by decide +kernel) (by decide +kernel) (fun _ _ _ h => h.elim) (.inl ⟨rfl, fun w' hS => ?_⟩) ⟨a3, a0⟩ ?_
                · go_simp
                try simp only [List.setIfInBounds_toArray, List.set_cons_zero, List.set_cons_succ]
                refine anyBut.takeW (i := 5) (t := 143) (v := (.pointer (some ⟨b3, o3 + i * 6 + 3, none⟩))) (by kernel_rfl) rfl rfl (by decide +kernel) (by decide +kernel) (by decide +kernel) (fun _ _ _ h => h.elim) (.inl ⟨rfl, fun w' hS => ?_⟩) ⟨a3, a0⟩ ?_
                · go_simp
                try simp only [List.setIfInBounds_toArray, List.set_cons_zero, List.set_cons_succ]
                refine anyBut.takeW (i := 6) (t := 144) (v := (.string x.rc.key)) (by kernel_rfl) rfl rfl (by decide +kernel) (by decide +kernel) (by decide +kernel) (fun _ _ _ h => h.elim) (.inl ⟨rfl, fun w' hS => ?_⟩) ⟨a3, a0⟩ ?_
                · have z1 := hS.1
                  go_simp
                try simp only [List.setIfInBounds_toArray, List.set_cons_zero, List.set_cons_succ]
                refine anyBut.takeW (i := 7) (t := 145) (v := (.slice (some ⟨b3, o3, none⟩) G.length c10)) (by kernel_rfl) rfl rfl (by decide +kernel) (by decide +kernel) (by decide +kernel) (fun _ _ _ h => h.elim) (.inl ⟨rfl, fun w' hS => ?_⟩) ⟨a3, a0⟩ ?_
                · go_simp
                try simp only [List.setIfInBounds_toArray, List.set_cons_zero, List.set_cons_succ]
                refine anyBut.takeW (i := 8) (t := 146) (v := (.int .i64 (i : Nat))) (by kernel_rfl) rfl rfl (by decide +kernel) (by decide +kernel) (by decide +kernel) (fun _ _ _ h => h.elim) (.inl ⟨rfl, fun w' hS => ?_⟩) ⟨a3, a0⟩ ?_
                · go_simp
                try simp only [List.setIfInBounds_toArray, List.set_cons_zero, List.set_cons_succ]
                refine anyBut.takeW (i := 9) (t := 147) (v := (.pointer (some ⟨b3, o3 + i * 6, none⟩))) (by kernel_rfl) rfl rfl (by decide +kernel) (by decide +kernel) (by decide +kernel) (fun _ _ _ h => h.elim) (.inl ⟨rfl, fun w' hS => ?_⟩) ⟨a3, a0⟩ ?_
                · go_simp
                try simp only [List.setIfInBounds_toArray, List.set_cons_zero, List.set_cons_succ]
                refine anyBut.takeW (i := 10) (t := 148) (v := (.pointer (some ⟨b3, o3 + i * 6, none⟩))) (by kernel_rfl) rfl rfl (by decide +kernel) (by decide +kernel) (by decide +kernel) (fun _ _ _ h => h.elim) (.inl ⟨rfl, fun w' hS => ?_⟩) ⟨a3, a0⟩ ?_
                · go_simp
                try simp only [List.setIfInBounds_toArray, List.set_cons_zero, List.set_cons_succ]
                refine anyBut.takeW (i := 11) (t := 149) (v := (.int .i64 x.off)) (by kernel_rfl) rfl rfl (by decide +kernel) (by decide +kernel) (by decide +kernel) (fun _ _ _ h => h.elim) (.inl ⟨rfl, fun w' hS => ?_⟩) ⟨a3, a0⟩ ?_
                · have z1 := hS.2
                  go_simp
                try simp only [List.setIfInBounds_toArray, List.set_cons_zero, List.set_cons_succ]
                refine anyBut.one (i := 12) (by decide +kernel) rfl rfl ?_
                refine wp_mapUpdate_fm (.tmp 138) (.tmp 144) (.tmp 149) 55 rfl rfl (told_str Try.underlying9) Try.underlying55 V.heap.size i rfl (enc := encI) (hF.drew) hi0 x.rc.key (by unfold okS maxLen; omega) rfl x.off rfl ?_
                intro w4 hF4 hg4
                refine ⟨.inl rfl, anyBut.done (by decide +kernel) ?_ _⟩
                refine NoPanic.normal ?_
                go_wp2_with fail
                refine ⟨⟨i + 1, by go_num, by omega, ?_, bl_gr hb3.drew hg4 (Nat.le_refl _)⟩, by simp [intOf]; omega⟩
                rw [hstp.out]
                exact hF4
              · rw [decide_eq_false hn] at hstp
                go_wp2_with fail
                refine ⟨⟨i + 1, by go_num, by omega, ?_, hb3⟩, by simp [intOf]; omega⟩
                rw [hstp.out]
                exact hF.mono (by omega)
            · obtain rfl : i = G.length := by omega
              rw [List.take_length] at hF
              replace hL8 := hL8.below hb3
              replace hat10 := hat10.below hb3
              replace hat15 := hat15.below hb3
              replace hb := bl_tr hb hb3
              have hFl := hF.lt
              obtain ⟨B1, hB1⟩ : ∃ B1, B1 = V.heap.size := ⟨_, rfl⟩
              rw [← hB1] at hF hFl ⊢
              clear hB1 hb3
              obtain ⟨V3, hV3⟩ : ∃ V3, V3 = wr := ⟨_, rfl⟩
              subst hV3
              go_wp2_with fail
              go_loopw [21] (fun u wq => ∃ i : Nat, u = .int .i64 i ∧ i ≤ N.length ∧ FM Try.prog 3 klI okI wq V3.heap.size i encB false (metF (N.take i)) ∧ Below V3.heap.size V3 wq) (fun u _ => N.length - (intOf u).toNat)
              case atStart => exact ⟨0, rfl, Nat.zero_le _, FM.made V3 Try.prog 3 klI okI encB false, bl_alloc (Below.refl _ _) _⟩
              case round =>
                obtain ⟨i, rfl, hi, hM, hb4⟩ := hrel
                by_cases hlt : i < N.length
                · have hstp := Lib.hid (metF_snoc N i hlt)
                  have hltI : (i : Int) < (N.length : Int) := by omega
                  obtain ⟨b3, o3, rfl, hbl3, c3⟩ := (hat15.below hb4) i hlt
                  have hkx := hkN.out N[i] (List.getElem_mem hlt)
                  generalize N[i] = x at c3 hstp hkx
                  have a0 := c3 0 _ rfl
                  simp only [Nat.add_zero] at a0
                  clear c3
                  have hi0 : i < maxLen := by simp only [maxLen]; omega
                  go_wp2_with (refine wpList_mapUpdate_fm rfl _ _ _ 56 rfl (told_int Try.underlying3) Try.underlying56 V3.heap.size i rfl (enc := encB) hM hi0 x.off hkx rfl true rfl ?_; intro w4 hM4 hg4)
                  refine ⟨⟨i + 1, by go_num, by omega, ?_, bl_gr hb4 hg4 (Nat.le_refl _)⟩, by simp [intOf]; omega⟩
                  rw [hstp.out]
                  exact hM4
                · obtain rfl : i = N.length := by omega
                  rw [List.take_length] at hM
                  replace hL8 := hL8.below hb4
                  replace hat10 := hat10.below hb4
                  replace hat15 := hat15.below hb4
                  replace hb := bl_tr hb hb4
                  replace hF := hF.below hb4 hFl
                  have hMl := hM.lt
                  replace hFl := hF.lt
                  obtain ⟨B2, hB2⟩ : ∃ B2, B2 = V3.heap.size := ⟨_, rfl⟩
                  rw [← hB2] at hM hMl ⊢
                  clear hB2 hb4
                  obtain ⟨V4, hV4⟩ : ∃ V4, V4 = wr := ⟨_, rfl⟩
                  subst hV4
                  go_wp2_with fail
                  go_loopw [22] (fun u wq => ∃ i : Nat, u = .int .i64 i ∧ i ≤ G.length ∧ Below V4.heap.size V4 wq) (fun u _ => G.length - (intOf u).toNat)
                  case atStart => exact ⟨0, rfl, Nat.zero_le _, Below.refl _ _⟩
                  case round =>
                    obtain ⟨i, rfl, hi, hb5⟩ := hrel
                    by_cases hlt : i < G.length
                    · have hltI : (i : Int) < (G.length : Int) := by omega
                      obtain ⟨b3, o3, rfl, hbl3, c3⟩ := (hat10.below hb5) i hlt
                      have hkm3 := hkm.out G[i] (List.getElem_mem hlt)
                      obtain ⟨hkx, hkx2⟩ := hky.out G[i] (List.getElem_mem hlt)
                      generalize G[i] = x at c3 hkm3 hkx hkx2
                      have a0 := c3 0 _ rfl
                      have a3 := c3 3 _ rfl
                      simp only [Nat.add_zero] at a0
                      clear c3
                      have hl1 := (hF.below hb5 hFl).look (told_str Try.underlying9) Try.underlying55 zero3 (x := x.rc.key) (by unfold okS maxLen; omega)
                      have hl2 := (hM.below hb5 hMl).look (told_int Try.underlying3) Try.underlying56 zero4 (x := x.off) hkx2
                      simp only [encI] at hl1
                      simp only [encB] at hl2
                      by_cases hn : x.off < m
                      · by_cases he : lastG m G x.rc.key = x.off
                        · have hbe : (lastG m G x.rc.key == x.off) = true := by simp [he]
                          rw [hkm3 hn he] at hl2
                          clear hkm3 he
                          generalize lastG m G x.rc.key = y at hl1 hbe
                          go_wp2_with fail
                          exact ⟨⟨i + 1, by go_num, by omega, hb5⟩, by simp [intOf]; omega⟩
                        · have hbe : (lastG m G x.rc.key == x.off) = false := by simp [he]
                          clear hkm3 hl2
                          generalize lastG m G x.rc.key = y at hl1 hbe he
                          go_wp2_with fail
                          exact ⟨⟨i + 1, by go_num, by omega, hb5⟩, by simp [intOf]; omega⟩
                      · clear hkm3 hl1 hl2
                        go_wp2_with fail
                        exact ⟨⟨i + 1, by go_num, by omega, hb5⟩, by simp [intOf]; omega⟩
                    · obtain rfl : i = G.length := by omega
                      replace hL8 := hL8.below hb5
                      replace hat15 := hat15.below hb5
                      replace hb := bl_tr hb hb5
                      clear hF hM hb5 hat10 hkm hky
                      go_wp2_with (go_at_call 17; refine (start_led hL8).mono ?_; rintro e w' ⟨rfl, rfl⟩)
                      obtain ⟨V5, hV5⟩ : ∃ V5, V5 = wr := ⟨_, rfl⟩
                      subst hV5
                      have hst2 := hL8.good.stable
                      have hff2 := hL8.good.ff
                      have hg02 := hL8.good.s0
                      have hnl2 : l.length + 1 ≤ 1000000000 := by omega
                      have hLB : LedB V5 w (w.heap.size + 3) (w.heap.size + 1 + 1) (w.heap.size + 1) w.heap.size (l.length + 1) L2 V5.drew := ⟨hL8.drew, (Below.refl _ _).drew⟩
                      go_upto_region 41 with (fail)
                      obtain ⟨q, q0, q1, qe, qa, qb⟩ := modS frm L2.stable (by omega) (by omega)
                      have hw1 : IntKind.i64.wrap (L2.stable + 1) = L2.stable + 1 := IntWalk.i64_in _ (by omega)
                      have hw2 : IntKind.i64.wrap (frm.tmod (L2.stable + 1) + L2.stable) = frm.tmod (L2.stable + 1) + L2.stable := IntWalk.i64_in _ (by omega)
                      have hw3 : IntKind.i64.wrap (frm.tmod (L2.stable + 1) + L2.stable + 1) = frm.tmod (L2.stable + 1) + L2.stable + 1 := IntWalk.i64_in _ (by omega)
                      have hw4 : (L2.stable + 1 == 0) = false := by simp; omega
                      have hw5 : (L2.stable + 1 = 0) = False := by simp; omega
                      go_region_held3 (fun w' => LedB V5 w (w.heap.size + 3) (w.heap.size + 1 + 1) (w.heap.size + 1) w.heap.size (l.length + 1) L2 w') (first | assumption | (refine LedB.below ?_ hb4; assumption)) ((go_at_call 16; refine (stable_led (And.left ‹LedB _ _ _ _ _ _ _ _ _›) hnl2).mono ?_; rintro e w4 ⟨rfl, hb4⟩))
                      rename_i hHeld
                      have hb9 := bl_tr hb8 (bl_tr hb hHeld.2)
                      have hat15' := hat15.below hHeld.2
                      clear hHeld hw1 hw2 hw3 hw4 hw5 hLB hat15
                      have hq2 : q ≤ 281474976710656 := by omega
                      obtain ⟨hr1, hr2, hr3⟩ := retain_said hO2.out.2 q0 q1 hq2
                      rw [hcs2] at hr2
                      have k3 := apply_led2 hL7 hb9 (by omega) (rx q) none 0 ⟨⟨by simp [rx, noBat], fun i hi => by simp [rx, noBat] at hi⟩, fun b o hn => absurd rfl hn⟩ (by unfold okI; simp [rx, noBat])
                      rw [hr1] at k3
                      obtain ⟨W6, hW6⟩ : ∃ W6, W6 = w4 := ⟨_, rfl⟩
                      rw [← hW6] at k3 hb9 hat15' ⊢
                      clear hW6 qa qb hb4
                      go_wp2_with fail
                      refine Calls.mono k3 ?_
                      clear k3
                      rintro e w7b ⟨rfl, hL9, hk9⟩
                      have hat15 := rows_over hat15' hnw15 hk9
                      clear hk9 hat15' hb9 hL8 hL7 hb8 hb hnw15
                      obtain ⟨L3, hL3e⟩ : ∃ L3, L3 = L2.apply (rx q) := ⟨_, rfl⟩
                      rw [← hL3e] at hL9 hr2 hr3
                      clear hL3e
                      go_wp2_with fail
                      refine (rows_led hL9 (by omega)).mono ?_
                      rw [hr2]
                      rintro e w9 ⟨A27, c27, rfl, hat27, _, hb10⟩
                      have hL10 := hL9.below hb10
                      replace hat15 := hat15.below hb10
                      clear hL9 hb10
                      obtain ⟨M, hM⟩ : ∃ M, M = max L2.start q := ⟨_, rfl⟩
                      rw [← hM] at hr2 hr3 hat27 ⊢
                      obtain ⟨Q, hQ⟩ : ∃ Q : Rw → Bool, Q = fun r => decide (M ≤ r.off) := ⟨_, rfl⟩
                      rw [← hQ] at hr2 hat27 ⊢
                      obtain ⟨Z, hZ⟩ : ∃ Z, Z = N.filter Q := ⟨_, rfl⟩
                      rw [← hZ] at hr2 hat27 ⊢
                      replace hZ := Lib.hid hZ
                      have hzl : Z.length ≤ N.length := by rw [hZ.out]; exact List.length_filter_le _ _
                      go_wp2_with fail
                      go_loopw [28, 29] (fun a u wr => ∃ i : Nat, a = .int .i64 (((N.take i).filter Q).length : Nat) ∧ u = .int .i64 i ∧ i ≤ N.length ∧ Below w9.heap.size w9 wr) (fun _ u _ => N.length - (intOf u).toNat)
                      case atStart => exact ⟨0, rfl, rfl, Nat.zero_le _, Below.refl _ _⟩
                      case round =>
                        obtain ⟨i, rfl, rfl, hi, hb⟩ := hrel
                        have hle : ((N.take i).filter Q).length ≤ Z.length := by rw [hZ.out]; exact filt_le Q N i
                        by_cases hlt : i < N.length
                        · have hstp := Lib.hid (filt_step (P := Q) hlt)
                          have hltI : (i : Int) < (N.length : Int) := by omega
                          have h9 := hat15.below hb
                          have h15 := hat27.below hb
                          obtain ⟨b1, o1, rfl, hbl1, c1⟩ := h9 i hlt
                          have hfa2 := Lib.hid (fun hp => filt_at (P := Q) hlt hp)
                          obtain ⟨K, hK⟩ : ∃ K, K = ((N.take i).filter Q).length := ⟨_, rfl⟩
                          rw [← hK] at hle hstp hfa2 ⊢
                          replace hK := Lib.hid hK
                          have hQx : Q N[i] = decide (M ≤ N[i].off) := by rw [hQ]
                          generalize N[i] = x at c1 hstp hfa2 hQx
                          have a0 := c1 0 _ rfl
                          have a1 := c1 1 _ rfl
                          have a2 := c1 2 _ rfl
                          have a3 := c1 3 _ rfl
                          have a4 := c1 4 _ rfl
                          have a5 := c1 5 _ rfl
                          simp only [Nat.add_zero] at a0
                          clear c1 h9
                          by_cases hk : M ≤ x.off
                          · have hp : Q x = true := by rw [hQx]; simp [hk]
                            rw [hp] at hstp
                            have hat := hfa2.out hp
                            rw [← hZ.out] at hat
                            have hkl : K < Z.length := by
                              rcases Nat.lt_or_ge K Z.length with h | h
                              · exact h
                              · rw [List.getElem?_eq_none h] at hat
                                cases hat
                            have hkI : decide ((Z.length : Int) ≤ (K : Int)) = false := by simp; omega
                            have hkZ : (K : Int) < (Z.length : Int) := by omega
                            obtain ⟨b2, o2, rfl, hbl2, c2⟩ := h15 K hkl
                            rw [List.getElem?_eq_getElem hkl] at hat
                            replace hat := Option.some.inj hat
                            rw [hat] at c2
                            have d0 := c2 0 _ rfl
                            have d1 := c2 1 _ rfl
                            have d2 := c2 2 _ rfl
                            have d3 := c2 3 _ rfl
                            have d4 := c2 4 _ rfl
                            have d5 := c2 5 _ rfl
                            simp only [Nat.add_zero] at d0
                            have hne := run_neqRw x
                            rw [hM] at hk
                            clear c2 h15 hfa2 hat hQx hp hQ hZ hM
                            go_wp2_with fail
                            go_quiet (fail)
                            go_wp2_with fail
                            exact ⟨⟨i + 1, by rw [hstp.out]; go_num, by go_num, by omega, below_drewN hb _⟩, by simp [intOf]; omega⟩
                          · have hp : Q x = false := by rw [hQx]; simp; omega
                            rw [hp] at hstp
                            rw [hM] at hk
                            clear h15 hfa2 hQx hp hQ hZ hM
                            go_wp2_with fail
                            exact ⟨⟨i + 1, by rw [hstp.out]; simp [hK.out], by go_num, by omega, hb⟩, by simp [intOf]; omega⟩
                        · obtain rfl : i = N.length := by omega
                          have hlen : ((N.take N.length).filter Q).length = Z.length := by rw [hZ.out, List.take_length]
                          rw [hlen]
                          have hL11 := hL10.below hb
                          have hfin := hL11.bel
                          rw [hM] at hr3
                          clear hZ hQ hlen hle hM
                          go_wp2_with (first | (go_at_call 14; refine (num_any _ _).mono ?_; rintro e w' ⟨rfl, rfl⟩) | (go_at_call 17; refine (start_led hL11).mono ?_; rintro e w' ⟨rfl, rfl⟩))
                          go_ret
                          exact ⟨rfl, hfin⟩
end Go.Proofs.Ytejjiiakficafaa
