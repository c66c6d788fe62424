/- Ledger.Fetch. -/
import Derived.Test.YtejjiiakficafaaAa
namespace Go.Proofs.Ytejjiiakficafaa
open Go Go.RowKit Go.Shelf Go.Maps
attribute [local go_sem] Oper.semAt_some

section
variable {w : World} {n0 lb tb mb nn rc oc gc : Nat} {rA oA gA : Option Addr} {L : Lg}

set_option maxHeartbeats 1000000 in
theorem fetch1_any (r : Rw) (frm fin : Int) (co : Bool) (b1 b2 b3 b4 lb tb : Nat) (s f : Int) (rv ov : Value) (A : Option Addr) (c : Nat) (l : List Gn) (w : World) (h1 : Blk w b1 [.int .i64 frm]) (h2 : Blk w b2 [.int .i64 fin]) (h3 : Blk w b3 [.bool co]) (h4 : Blk w b4 [.pointer (some ⟨lb, 0, none⟩)])
    (hB : Blk w lb (lgL tb s f rv ov (.slice A l.length c))) (hl : LAt w A 3 gnL l) (hll : l.length ≤ 4611686018427387904) :
    Calls Try.prog 36 #[.agg #[.int .i64 r.off, .int .i64 r.prod, .bool r.tx, .string r.rc.key, .string r.rc.val, .bool r.rc.dead], .pointer (some ⟨b1, 0, none⟩), .pointer (some ⟨b2, 0, none⟩), .pointer (some ⟨b3, 0, none⟩), .pointer (some ⟨b4, 0, none⟩)] w fun e w' => e = .returned (.bool (fetchP l frm fin co r)) ∧ Below w.heap.size w w' := by
  have q1 := h1.cell
  have q2 := h2.cell
  have q3 := h3.cell
  have q4 := h4.cell
  have l1 := h1.lt
  have l2 := h2.lt
  have l3 := h3.lt
  have l4 := h4.lt
  have HF := Lib.hid (show fetchP l frm fin co r = (decide (frm ≤ r.off) && decide (r.off < fin) && !(co && lost l r)) from rfl)
  have hb1 := bl_alloc (Below.refl w.heap.size w) (.cells #[.int .i64 r.off, .int .i64 r.prod, .bool r.tx, .string r.rc.key, .string r.rc.val, .bool r.rc.dead] 51)
  by_cases ha : frm ≤ r.off ∧ r.off < fin ∧ co = true
  · obtain ⟨ha1, ha2, rfl⟩ := ha
    have hcon := lost_any r lb tb s f rv ov A c l _ (hB.alloc (.cells #[.int .i64 r.off, .int .i64 r.prod, .bool r.tx, .string r.rc.key, .string r.rc.val, .bool r.rc.dead] 51)) (hl.below hb1) hll
    have HF2 := Lib.hid (show fetchP l frm fin true r = !(lost l r) by rw [HF.out]; simp [ha1, ha2])
    replace hcon := Lib.hid hcon
    clear HF
    go_enter Try.func36, Try.ntmps36
    go_wp2_with (go_at_call 37; refine hcon.out.mono ?_; rintro e w2 ⟨rfl, hb2⟩)
    all_goals go_ret
    all_goals exact ⟨ret_bool (by rw [HF2.out]), bl_tr hb1 hb2⟩
  · have HF2 := Lib.hid (show fetchP l frm fin co r = (decide (frm ≤ r.off) && decide (r.off < fin)) by
      rw [HF.out]
      by_cases e1 : frm ≤ r.off
      · by_cases e2 : r.off < fin
        · have : co = false := by cases co; rfl; exact absurd ⟨e1, e2, rfl⟩ ha
          simp [this]
        · simp [e2]
      · simp [e1])
    have hco : frm ≤ r.off → r.off < fin → co = false := fun e1 e2 => by cases co; rfl; exact absurd ⟨e1, e2, rfl⟩ ha
    clear HF ha
    by_cases e1 : frm ≤ r.off
    · by_cases e2 : r.off < fin
      · have hc0 := hco e1 e2
        subst hc0
        clear hco
        go_enter Try.func36, Try.ntmps36
        go_wp2_with fail
        all_goals go_ret
        all_goals exact ⟨ret_bool (by rw [HF2.out]; simp [e1, e2]), hb1⟩
      · clear hco
        go_enter Try.func36, Try.ntmps36
        go_wp2_with fail
        all_goals go_ret
        all_goals exact ⟨ret_bool (by rw [HF2.out]; simp [e2]), hb1⟩
    · clear hco
      go_enter Try.func36, Try.ntmps36
      go_wp2_with fail
      all_goals go_ret
      all_goals exact ⟨ret_bool (by rw [HF2.out]; simp; omega), hb1⟩

/-- The rows lie at or beyond block n. -/
def NewR (n : Nat) (A : Option Addr) (l : List Rw) : Prop := ∀ b o, l ≠ [] → A = some ⟨b, o, none⟩ → n ≤ b
/-- What a fetch has given: its rows, where they lie. -/
def Fetched (w : World) (R : List Rw × Int × Int) (e : Ending) (w' : World) : Prop := ∃ A' c', e = .returned (.tuple #[.slice A' R.1.length c', .int .i64 R.2.1, .int .i64 R.2.2]) ∧ R.1.length ≤ c' ∧ LAt w' A' 6 rwL R.1 ∧ NewR w.heap.size A' R.1 ∧ Below w.heap.size w w'
theorem fetched_nil {w : World} (w' : World) (n e : Int) (hb : Below w.heap.size w w') : Fetched w ([], n, e) (.returned (.tuple #[.slice none 0 0, .int .i64 n, .int .i64 e])) w' :=
  ⟨none, 0, rfl, Nat.le_refl _, LAt.nil, fun b o h => absurd rfl h, hb⟩

set_option maxRecDepth 100000 in
set_option maxHeartbeats 2000000 in
theorem fetch_any (h : LgAt w n0 lb tb mb nn rA rc oA oc gA gc L) (hn : nn ≤ 1000000000) (frm most : Int) (co : Bool) (hf : okI frm) (hm : okI most) :
    Calls Try.prog 15 #[.pointer (some ⟨lb, 0, none⟩), .int .i64 frm, .int .i64 most, .bool co] w fun e w' => Fetched w (L.fetch frm most co) e w' := by
  have hmf : ∀ (fn : Fn) (first cap : Array Value) (w : World), (Instr.makeFunc fn first cap).run Try.prog w = .ok (.func fn first cap) w := fun _ _ _ _ => rfl
  obtain ⟨W, hW⟩ : ∃ W, W = ((w.alloc (.cells #[.pointer (some ⟨lb, 0, none⟩)] 23)).alloc (.cells #[.int .i64 frm] 3)).alloc (.cells #[.bool co] 4) := ⟨_, rfl⟩
  have hb0 : Below w.heap.size w W := by rw [hW]; exact bl_alloc (bl_alloc (bl_alloc (Below.refl _ _) _) _) _
  have h0 := h.below hb0
  have hB1 : Blk W w.heap.size [.pointer (some ⟨lb, 0, none⟩)] := by rw [hW]; exact ((Blk.new' _ _ rfl).alloc _).alloc _
  have hB2 : Blk W (w.heap.size + 1) [.int .i64 frm] := by rw [hW]; exact (Blk.new' _ _ (by simp)).alloc _
  have hB3 : Blk W (w.heap.size + 1 + 1) [.bool co] := by rw [hW]; exact Blk.new' _ _ (by simp)
  obtain ⟨F, hF⟩ : ∃ F, F = if co = true then L.stable else L.fin := ⟨_, rfl⟩
  have hX := Lib.hid (show L.fetch frm most co = if frm < 0 ∨ most < 0 then ([], 0, 1) else if frm < L.start then ([], 0, 32) else if L.fin < frm then ([], 0, 11) else if most = 0 then ([], frm, 0) else
    (if most ≤ (L.rows.filter (fetchP L.gone frm F co)).length then ((L.rows.filter (fetchP L.gone frm F co)).take most.toNat, ((L.rows.filter (fetchP L.gone frm F co)).getD (most.toNat - 1) default).off + 1, 0)
      else (L.rows.filter (fetchP L.gone frm F co), max frm F, 0)) by rw [hF]; rfl)
  replace hF := Lib.hid hF
  have c0 := h0.c0
  have q1 := hB1.cell
  have q2 := hB2.cell
  have q3 := hB3.cell
  have f0 := h0.blk.cell
  simp only [lgL] at f0
  have l0 := h0.blk.lt
  have m1 := hB1.lt
  have m2 := hB2.lt
  have m3 := hB3.lt
  have hn0 := Lib.hid h
  clear h
  go_enter Try.func15, Try.ntmps15
  go_upto_region 1 with (fail)
  rw [← hW]
  replace hW := Lib.hid hW
  have h24 := Lib.hid (lnone_any lb tb W c0)
  by_cases hneg : frm < 0 ∨ most < 0
  · have hX2 := Lib.hid (show L.fetch frm most co = ([], 0, 1) by rw [hX.out, if_pos hneg])
    clear hX
    rcases hneg with hneg | hneg
    · go_wp2_with (go_at_call 24; refine h24.out.mono ?_; rintro e w' ⟨rfl, rfl⟩)
      go_ret3
      rw [hX2.out]
      exact fetched_nil _ _ _ hb0
    · by_cases hf0 : frm < 0
      · go_wp2_with (go_at_call 24; refine h24.out.mono ?_; rintro e w' ⟨rfl, rfl⟩)
        go_ret3
        rw [hX2.out]
        exact fetched_nil _ _ _ hb0
      · go_wp2_with (go_at_call 24; refine h24.out.mono ?_; rintro e w' ⟨rfl, rfl⟩)
        go_ret3
        rw [hX2.out]
        exact fetched_nil _ _ _ hb0
  · have hX2 := Lib.hid (show L.fetch frm most co = _ by rw [hX.out, if_neg hneg])
    have hf0 : 0 ≤ frm := by omega
    have hm0 : 0 ≤ most := by omega
    clear hX hneg
    by_cases hs : frm < L.start
    · have hX3 := Lib.hid (show L.fetch frm most co = ([], 0, 32) by rw [hX2.out, if_pos hs])
      clear hX2
      go_wp2_with (go_at_call 24; refine h24.out.mono ?_; rintro e w' ⟨rfl, rfl⟩)
      go_quiet (fail)
      go_wp2_with fail
      go_ret3
      rw [hX3.out]
      exact fetched_nil _ _ _ (below_drewN hb0 _)
    · have hX3 := Lib.hid (show L.fetch frm most co = _ by rw [hX2.out, if_neg hs])
      clear hX2
      go_wp2_with (go_at_call 24; refine h24.out.mono ?_; rintro e w' ⟨rfl, rfl⟩)
      go_quiet (fail)
      have hV := below_drewN (Below.refl W.heap.size W) nq
      replace h0 := h0.below hV
      replace hB1 := hB1.below hV m1
      replace hB2 := hB2.below hV m2
      replace hB3 := hB3.below hV m3
      replace hb0 := bl_tr hb0 hV
      clear hV c0 q1 q2 q3 f0 l0 m1 m2 m3 
      obtain ⟨W1, hVe⟩ : ∃ W1, W1 = W.drewN nq := ⟨_, rfl⟩
      rw [← hVe] at h0 hB1 hB2 hB3 hb0 ⊢
      clear hVe
      have c0 := h0.c0
      have q1 := hB1.cell
      have q2 := hB2.cell
      have q3 := hB3.cell
      have f0 := h0.blk.cell
      simp only [lgL] at f0
      have l0 := h0.blk.lt
      have m1 := hB1.lt
      have m2 := hB2.lt
      have m3 := hB3.lt
      go_wp2_with fail
      by_cases hs2 : L.fin < frm
      · have hX4 := Lib.hid (show L.fetch frm most co = ([], 0, 11) by rw [hX3.out, if_pos hs2])
        clear hX3
        go_quiet (fail)
        go_wp2_with fail
        go_ret3
        rw [hX4.out]
        exact fetched_nil _ _ _ (below_drewN hb0 _)
      · have hX4 := Lib.hid (show L.fetch frm most co = _ by rw [hX3.out, if_neg hs2])
        clear hX3
        go_quiet (fail)
        have hV := below_drewN (Below.refl W1.heap.size W1) nq
        replace h0 := h0.below hV
        replace hB1 := hB1.below hV m1
        replace hB2 := hB2.below hV m2
        replace hB3 := hB3.below hV m3
        replace hb0 := bl_tr hb0 hV
        clear hV c0 q1 q2 q3 f0 l0 m1 m2 m3 
        obtain ⟨W2, hVe⟩ : ∃ W2, W2 = W1.drewN nq := ⟨_, rfl⟩
        rw [← hVe] at h0 hB1 hB2 hB3 hb0 ⊢
        clear hVe
        have c0 := h0.c0
        have q1 := hB1.cell
        have q2 := hB2.cell
        have q3 := hB3.cell
        have f0 := h0.blk.cell
        simp only [lgL] at f0
        have l0 := h0.blk.lt
        have m1 := hB1.lt
        have m2 := hB2.lt
        have m3 := hB3.lt
        by_cases hm1 : most = 0
        · have hX5 := Lib.hid (show L.fetch frm most co = ([], frm, 0) by rw [hX4.out, if_pos hm1])
          have hma : (most == 0) = true := by simpa using hm1
          clear hX4 hm1
          go_wp2_with fail
          go_quiet (fail)
          go_wp2_with fail
          go_ret3
          rw [hX5.out]
          exact fetched_nil _ _ _ (below_drewN hb0 _)
        · have hX5 := Lib.hid (show L.fetch frm most co = _ by rw [hX4.out, if_neg hm1])
          have hma : (most == 0) = false := by simpa using hm1
          have hm2 : 1 ≤ most := by omega
          clear hX4 hm1
          cases co
          · have hFf := Lib.hid (show F = L.fin by rw [hF.out]; rfl)
            have h4 := h0.alloc (.cells #[.int .i64 L.fin] 3)
            have hE4 : Blk (W2.alloc (.cells #[.int .i64 L.fin] 3)) W2.heap.size [.int .i64 F] := by rw [hFf.out]; exact Blk.new' _ _ rfl
            have hB14 := hB1.alloc (.cells #[.int .i64 L.fin] 3)
            have hB24 := hB2.alloc (.cells #[.int .i64 L.fin] 3)
            have hB34 := hB3.alloc (.cells #[.int .i64 L.fin] 3)
            have hb4 := bl_alloc hb0 (.cells #[.int .i64 L.fin] 3)
            go_upto_region 14 with (fail)
            obtain ⟨W4, hW4⟩ : ∃ W4, W4 = W2.alloc (.cells #[.int .i64 L.fin] 3) := ⟨_, rfl⟩
            rw [← hW4] at h4 hE4 hB14 hB24 hB34 hb4 ⊢
            replace hW4 := Lib.hid hW4
            clear h0 hB1 hB2 hB3 hb0 c0 q1 q2 q3 f0 l0 m1 m2 m3
            have f4 := h4.blk.cell
            simp only [lgL] at f4
            have q1 := hB14.cell
            have q2 := hB24.cell
            have q3 := hB34.cell
            have q4 := hE4.cell
            have l4 := h4.blk.lt
            have m1 := hB14.lt
            have m2 := hB24.lt
            have m3 := hB34.lt
            have m4 := hE4.lt
            have hrl := h4.good.rl
            have hgl := h4.good.gl
            have hoff := Lib.hid h4.good.off
            have hff := h4.good.ff
            have hst := h4.good.stable
            have hFF : 0 ≤ F ∧ F ≤ L.fin := by rw [hFf.out]; exact ⟨by have := h4.good.s0; have := h4.good.sf; omega, by omega⟩
            have hcl := Lib.hid (fun (y : Rw) (hy : y ∈ L.rows) (W' : World) (hW' : Below W4.heap.size W4 W') => fetch1_any y frm F false (w.heap.size + 1) W2.heap.size (w.heap.size + 1 + 1) w.heap.size lb tb _ _ _ _ _ _ L.gone W' (hB24.below hW' hB24.lt) (hE4.below hW' hE4.lt) (hB34.below hW' hB34.lt) (hB14.below hW' hB14.lt) (h4.below hW').blk (h4.below hW').goneAt (by omega))
            go_wp2_with fail
            refine (keep36_any rA rc L.rows (fetchP L.gone frm F false) _ _ _ _ _ h4.rowsAt (by omega) hcl.out).mono ?_
            clear hcl
            have hRo := Lib.hid (fun r (hr : r ∈ L.rows.filter (fetchP L.gone frm F false)) => hoff.out r (List.mem_filter.1 hr).1)
            have hRl := List.length_filter_le (fetchP L.gone frm F false) L.rows
            clear hoff
            generalize L.rows.filter (fetchP L.gone frm F false) = R at hX5 hRo hRl ⊢
            rintro e w5 ⟨A5, c5, rfl, hown5, hb5⟩
            have hb6 := bl_tr hb4 hb5
            have hLR := LAt.of_own rwL_len hown5 rfl
            have hcap := ownsRow_cap hown5
            by_cases hlen : most ≤ R.length
            · have hX6 := Lib.hid (show L.fetch frm most false = (R.take most.toNat, (R.getD (most.toNat - 1) default).off + 1, 0) by rw [hX5.out, if_pos hlen])
              clear hX5
              obtain ⟨k, rfl⟩ : ∃ k : Nat, most = (k : Int) + 1 := ⟨(most - 1).toNat, by omega⟩
              have hk : k < R.length := by omega
              obtain ⟨g, o, rfl, hgl5, hc5⟩ := hLR k hk
              have hck : w5.cell? ⟨g, o + k * 6, none⟩ = some (.int .i64 R[k].off) := hc5 0 _ rfl
              have hov := hRo.out R[k] (List.getElem_mem hk)
              have hX7 := Lib.hid (show L.fetch frm ((k : Int) + 1) false = (R.take (k + 1), R[k].off + 1, 0) by rw [hX6.out, show ((k : Int) + 1).toNat = k + 1 by omega]; simp [hk])
              clear hX6 hc5
              have hn1 : (0 : Int) ≤ (k : Int) + 1 := by omega
              have hn2 : ((k : Int) + 1).toNat = k + 1 := by omega
              have hn3 : (k : Int) + 1 ≤ (c5 : Int) := by omega
              generalize R[k].off = ok at hck hov hX7
              have hw2 : IntKind.i64.wrap (ok + 1) = ok + 1 := IntWalk.i64_in _ (by omega)
              have hw3 : IntKind.i64.wrap ((k : Int) + 1 - 1) = (k : Int) := by rw [show (k : Int) + 1 - 1 = k by omega]; exact IntWalk.i64_in _ (by omega)
              have hki : (k : Int) < (k : Int) + 1 := by omega
              go_wp2_with fail
              go_quiet (fail)
              go_wp2_with fail
              go_ret3
              rw [hX7.out]
              have hlt : (R.take (k + 1)).length = k + 1 := by rw [List.length_take]; omega
              refine ⟨some ⟨g, o, none⟩, c5, ?_, by rw [hlt]; omega, (hLR.take (k + 1)).below (below_drewN (Below.refl _ _) _), fun b o _ e => Nat.le_trans hb4.size (ownsRow_base hown5 (by rw [e]; rfl)), below_drewN hb6 _⟩
              rw [hlt]
            
              rfl
            · have hX6 := Lib.hid (show L.fetch frm most false = (R, max frm F, 0) by rw [hX5.out, if_neg hlen])
              clear hX5
              have q22 := (hB24.below hb5 hB24.lt).cell
              have q24 := (hE4.below hb5 hE4.lt).cell
              have m22 := (hB24.below hb5 hB24.lt).lt
              have m24 := (hE4.below hb5 hE4.lt).lt
              go_wp2_with fail
              go_quiet (fail)
              go_wp2_with fail
              go_ret3
              rw [hX6.out]
              exact ⟨A5, c5, rfl, hcap, hLR.below (below_drewN (Below.refl _ _) _), fun b o _ e => Nat.le_trans hb4.size (ownsRow_base hown5 (by rw [e]; rfl)), below_drewN hb6 _⟩
          · have hFf := Lib.hid (show F = L.stable by rw [hF.out]; rfl)
            go_upto_region 14 with (go_at_call 16; refine (stable_any (h0.alloc _) hn).mono ?_; rintro e w3 ⟨rfl, hb3⟩; have hE3 := (Blk.new' (w := W2) #[.int .i64 L.fin] 3 rfl).below hb3 (by simp); have e3 := hE3.cell; have u3 := hE3.unf; have k3 := hE3.lt)
            have h3 := (h0.alloc (.cells #[.int .i64 L.fin] 3)).below hb3
            have h4 : LgAt (w3.setCell ⟨W2.heap.size, 0, none⟩ (.int .i64 L.stable)) n0 lb tb mb nn rA rc oA oc gA gc L := h3.keep (fun b hb => set_keep (by have := h0.lt hb; omega)) (by rw [set_size]; exact Nat.le_refl _)
            have hE4 : Blk (w3.setCell ⟨W2.heap.size, 0, none⟩ (.int .i64 L.stable)) W2.heap.size [.int .i64 F] := by rw [hFf.out]; exact hE3.set_same 0 _
            have hB14 := ((hB1.alloc (.cells #[.int .i64 L.fin] 3)).below hb3 (hB1.alloc _).lt).set_ne (a := ⟨W2.heap.size, 0, none⟩) (show W2.heap.size ≠ w.heap.size by omega) (.int .i64 L.stable)
            have hB24 := ((hB2.alloc (.cells #[.int .i64 L.fin] 3)).below hb3 (hB2.alloc _).lt).set_ne (a := ⟨W2.heap.size, 0, none⟩) (show W2.heap.size ≠ w.heap.size + 1 by omega) (.int .i64 L.stable)
            have hB34 := ((hB3.alloc (.cells #[.int .i64 L.fin] 3)).below hb3 (hB3.alloc _).lt).set_ne (a := ⟨W2.heap.size, 0, none⟩) (show W2.heap.size ≠ w.heap.size + 1 + 1 by omega) (.int .i64 L.stable)
            have hb4 := bl_set (bl_tr (bl_alloc hb0 (.cells #[.int .i64 L.fin] 3)) hb3) (p := ⟨W2.heap.size, 0, none⟩) (by dsimp only; omega) (.int .i64 L.stable)
            clear h3 hE3 e3 u3
            obtain ⟨W4, hW4⟩ : ∃ W4, W4 = w3.setCell ⟨W2.heap.size, 0, none⟩ (.int .i64 L.stable) := ⟨_, rfl⟩
            rw [← hW4] at h4 hE4 hB14 hB24 hB34 hb4 ⊢
            replace hW4 := Lib.hid hW4
            clear h0 hB1 hB2 hB3 hb0 c0 q1 q2 q3 f0 l0 m1 m2 m3
            have f4 := h4.blk.cell
            simp only [lgL] at f4
            have q1 := hB14.cell
            have q2 := hB24.cell
            have q3 := hB34.cell
            have q4 := hE4.cell
            have l4 := h4.blk.lt
            have m1 := hB14.lt
            have m2 := hB24.lt
            have m3 := hB34.lt
            have m4 := hE4.lt
            have hrl := h4.good.rl
            have hgl := h4.good.gl
            have hoff := Lib.hid h4.good.off
            have hff := h4.good.ff
            have hst := h4.good.stable
            have hFF : 0 ≤ F ∧ F ≤ L.fin := by rw [hFf.out]; exact ⟨by have := h4.good.s0; have := h4.good.sf; omega, by omega⟩
            have hcl := Lib.hid (fun (y : Rw) (hy : y ∈ L.rows) (W' : World) (hW' : Below W4.heap.size W4 W') => fetch1_any y frm F true (w.heap.size + 1) W2.heap.size (w.heap.size + 1 + 1) w.heap.size lb tb _ _ _ _ _ _ L.gone W' (hB24.below hW' hB24.lt) (hE4.below hW' hE4.lt) (hB34.below hW' hB34.lt) (hB14.below hW' hB14.lt) (h4.below hW').blk (h4.below hW').goneAt (by omega))
            go_wp2_with fail
            refine (keep36_any rA rc L.rows (fetchP L.gone frm F true) _ _ _ _ _ h4.rowsAt (by omega) hcl.out).mono ?_
            clear hcl
            have hRo := Lib.hid (fun r (hr : r ∈ L.rows.filter (fetchP L.gone frm F true)) => hoff.out r (List.mem_filter.1 hr).1)
            have hRl := List.length_filter_le (fetchP L.gone frm F true) L.rows
            clear hoff
            generalize L.rows.filter (fetchP L.gone frm F true) = R at hX5 hRo hRl ⊢
            rintro e w5 ⟨A5, c5, rfl, hown5, hb5⟩
            have hb6 := bl_tr hb4 hb5
            have hLR := LAt.of_own rwL_len hown5 rfl
            have hcap := ownsRow_cap hown5
            by_cases hlen : most ≤ R.length
            · have hX6 := Lib.hid (show L.fetch frm most true = (R.take most.toNat, (R.getD (most.toNat - 1) default).off + 1, 0) by rw [hX5.out, if_pos hlen])
              clear hX5
              obtain ⟨k, rfl⟩ : ∃ k : Nat, most = (k : Int) + 1 := ⟨(most - 1).toNat, by omega⟩
              have hk : k < R.length := by omega
              obtain ⟨g, o, rfl, hgl5, hc5⟩ := hLR k hk
              have hck : w5.cell? ⟨g, o + k * 6, none⟩ = some (.int .i64 R[k].off) := hc5 0 _ rfl
              have hov := hRo.out R[k] (List.getElem_mem hk)
              have hX7 := Lib.hid (show L.fetch frm ((k : Int) + 1) true = (R.take (k + 1), R[k].off + 1, 0) by rw [hX6.out, show ((k : Int) + 1).toNat = k + 1 by omega]; simp [hk])
              clear hX6 hc5
              have hn1 : (0 : Int) ≤ (k : Int) + 1 := by omega
              have hn2 : ((k : Int) + 1).toNat = k + 1 := by omega
              have hn3 : (k : Int) + 1 ≤ (c5 : Int) := by omega
              generalize R[k].off = ok at hck hov hX7
              have hw2 : IntKind.i64.wrap (ok + 1) = ok + 1 := IntWalk.i64_in _ (by omega)
              have hw3 : IntKind.i64.wrap ((k : Int) + 1 - 1) = (k : Int) := by rw [show (k : Int) + 1 - 1 = k by omega]; exact IntWalk.i64_in _ (by omega)
              have hki : (k : Int) < (k : Int) + 1 := by omega
              go_wp2_with fail
              go_quiet (fail)
              go_wp2_with fail
              go_ret3
              rw [hX7.out]
              have hlt : (R.take (k + 1)).length = k + 1 := by rw [List.length_take]; omega
              refine ⟨some ⟨g, o, none⟩, c5, ?_, by rw [hlt]; omega, (hLR.take (k + 1)).below (below_drewN (Below.refl _ _) _), fun b o _ e => Nat.le_trans hb4.size (ownsRow_base hown5 (by rw [e]; rfl)), below_drewN hb6 _⟩
              rw [hlt]
            
              rfl
            · have hX6 := Lib.hid (show L.fetch frm most true = (R, max frm F, 0) by rw [hX5.out, if_neg hlen])
              clear hX5
              have q22 := (hB24.below hb5 hB24.lt).cell
              have q24 := (hE4.below hb5 hE4.lt).cell
              have m22 := (hB24.below hb5 hB24.lt).lt
              have m24 := (hE4.below hb5 hE4.lt).lt
              go_wp2_with fail
              go_quiet (fail)
              go_wp2_with fail
              go_ret3
              rw [hX6.out]
              exact ⟨A5, c5, rfl, hcap, hLR.below (below_drewN (Below.refl _ _) _), fun b o _ e => Nat.le_trans hb4.size (ownsRow_base hown5 (by rw [e]; rfl)), below_drewN hb6 _⟩
end
end Go.Proofs.Ytejjiiakficafaa
