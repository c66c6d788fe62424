/- Ledger.put: a batch at the end. -/
import Derived.Test.YtejjiiakficafaaLd
import Derived.Test.YtejjiiakficafaaDl
import Derived.Test.YtejjiiakficafaaAp
import Derived.Deep.CutBlock
namespace Go.Proofs.Ytejjiiakficafaa
open Go Go.RowKit Go.Shelf Go.Maps
attribute [local go_sem] Oper.semAt_some

/-- Records in a row of their own type. -/
def RecsT (w : World) (A : Option Addr) (rs : List Rec) : Prop := RecsAt w A rs ∧ ∀ b o, rs ≠ [] → A = some ⟨b, o, none⟩ → TyAt w b 43
theorem RecsT.lt {w : World} {A : Option Addr} {rs : List Rec} (h : RecsT w A rs) {b o : Nat} (hn : rs ≠ []) (e : A = some ⟨b, o, none⟩) : b < w.heap.size := (h.2 b o hn e).lt
theorem RecsT.keep {w w' : World} {A : Option Addr} {rs : List Rec} (h : RecsT w A rs) (hk : ∀ b, TyAt w b 43 → w'.heap[b]? = w.heap[b]?) : RecsT w' A rs := by
  refine ⟨⟨h.1.1, fun i hi => ?_⟩, fun b o hn e => (h.2 b o hn e).of_heap (hk b (h.2 b o hn e))⟩
  obtain ⟨bb, o, hA, hlt, c1, c2, c3, c4⟩ := h.1.2 i hi
  have ht := h.2 bb o (by rintro rfl; simp at hi) hA
  have e : ∀ j, w'.cell? ⟨bb, j, none⟩ = w.cell? ⟨bb, j, none⟩ := fun j => World.cell?_of_block (w := w) (w' := w') (a := ⟨bb, j, none⟩) (hk bb ht)
  exact ⟨bb, o, hA, (ht.of_heap (hk bb ht)).lt, by rw [e]; exact c1, by rw [e]; exact c2, by rw [e]; exact c3, c4⟩
theorem RecsT.below {w w' : World} {A : Option Addr} {rs : List Rec} (h : RecsT w A rs) (hb : Below w.heap.size w w') : RecsT w' A rs := h.keep fun b ht => hb.block b ht.lt

theorem FrL.ty {w w' : World} {n0 lb tb mb nn rc oc gc : Nat} {rA oA gA rA' oA' gA' : Option Addr} {L : Lg} (hf : FrL w w' lb mb rA oA gA rA' oA' gA') (h : LgM w n0 lb tb mb nn rA rc oA oc gA gc L) {b : Nat} {T : TypeId} (ht : TyAt w b T)
    (hT : T ≠ 64 ∧ T ≠ 51 ∧ T ≠ 82 ∧ T ≠ 79) : w'.heap[b]? = w.heap[b]? :=
  hf.block b ht.lt (ht.ne h.lty hT.1) (h.im.ne_ty ht) (fun e => ht.ne (ownsRow_ty h.rows (own_block e)) hT.2.1 rfl) (fun e => ht.ne (ownsRow_ty h.opn (own_block e)) hT.2.2.1 rfl) (fun e => ht.ne (ownsRow_ty h.gone (own_block e)) hT.2.2.2 rfl)

/-- Within put: the ledger stands at L, the batch in its box, its records where they were. -/
def PutS (w : World) (n0 lb tb mb nn : Nat) (rA0 oA0 gA0 : Option Addr) (bb : Nat) (bv : List Value) (A : Option Addr) (rs : List Rec) (L : Lg) (W : World) : Prop :=
  ∃ rA rc oA oc gA gc, LgM W n0 lb tb mb nn rA rc oA oc gA gc L ∧ FrL w W lb mb rA0 oA0 gA0 rA oA gA ∧ Blk W bb bv ∧ TyAt W bb 30 ∧ RecsT W A rs

section
variable {w W W' : World} {n0 lb tb mb nn bb rc oc gc : Nat} {rA0 oA0 gA0 rA oA gA rA' oA' gA' : Option Addr} {bv : List Value} {A : Option Addr} {rs : List Rec} {L L' : Lg}
theorem putS_step (h : LgM W n0 lb tb mb nn rA rc oA oc gA gc L) (hf : FrL w W lb mb rA0 oA0 gA0 rA oA gA) (hB : Blk W bb bv) (hT : TyAt W bb 30) (hR : RecsT W A rs) {nn' rc' oc' gc' : Nat}
    (h' : LgM W' n0 lb tb mb nn' rA' rc' oA' oc' gA' gc' L') (hf' : FrL W W' lb mb rA oA gA rA' oA' gA') : PutS w n0 lb tb mb nn' rA0 oA0 gA0 bb bv A rs L' W' :=
  ⟨_, _, _, _, _, _, h', hf.tr hf', hB.of_heap (hf'.ty h hT (by decide)), hT.of_heap (hf'.ty h hT (by decide)), hR.keep fun b ht => hf'.ty h ht (by decide)⟩
theorem PutS.below (h : PutS w n0 lb tb mb nn rA0 oA0 gA0 bb bv A rs L W) (hb : Below W.heap.size W W') : PutS w n0 lb tb mb nn rA0 oA0 gA0 bb bv A rs L W' := by
  obtain ⟨rA, rc, oA, oc, gA, gc, h1, h2, h3, h4, h5⟩ := h
  exact ⟨rA, rc, oA, oc, gA, gc, h1.below hb, h2.tr (FrL.of_below hb), h3.below hb h3.lt, h4.of_heap (hb.block _ h4.lt), h5.below hb⟩
end

theorem fi_txn (o : List Tx) {p : Int} (hp : 0 ≤ p) : fiI (o.findIdx? (hitT p)) = fiI (txnI o p) := by
  unfold txnI
  rw [if_neg (by omega)]
  rfl
def opn2 (L : Lg) (k p : Int) (t : Bool) : List Tx := if k = 1 then (if t = true ∧ txnI L.opn p = none then L.opn ++ [⟨p, L.fin⟩] else L.opn) else match txnI L.opn p with
  | some i => L.opn.eraseIdx i
  | none => L.opn
def gone2 (L : Lg) (k p : Int) : List Gn := if k = 1 then L.gone else match txnI L.opn p with
  | some i => if k = 3 then L.gone ++ [⟨p, (L.opn.getD i default).first, L.fin⟩] else L.gone
  | none => L.gone
theorem txnI_lt {o : List Tx} {p : Int} {i : Nat} (h : txnI o p = some i) : i < o.length := by
  unfold txnI at h
  split at h
  · cases h
  · exact (List.findIdx?_eq_some_iff_getElem.1 h).1
theorem rowsOf_snoc (f p : Int) (t : Bool) (rs : List Rec) (i : Nat) (h : i < rs.length) : (rowsOf f p t rs).take (i + 1) = (rowsOf f p t rs).take i ++ [⟨f + i, p, t, rs[i]⟩] := by
  rw [List.take_succ_eq_append_getElem (by simpa [rowsOf] using h)]
  simp [rowsOf]
theorem checkE_len {k p ep s : Int} {t : Bool} {rs : List Rec} (h : checkE k p ep s t rs = 0) : rs.length ≤ 64 := by
  unfold checkE at h
  repeat' split at h
  all_goals first | (exfalso; omega) | skip
  all_goals (simp [q5] at *; omega)
theorem lenB_le (k : Int) {n : Nat} (h : n ≤ 64) : 0 ≤ lenB (isM k) n ∧ lenB (isM k) n ≤ 64 := by
  unfold lenB; split <;> omega
/-- The ledger behind a call: L, what is not its own kept. -/
def LgNext (w : World) (n0 lb tb mb nn : Nat) (rA oA gA : Option Addr) (L : Lg) (w' : World) : Prop := ∃ rA' rc' oA' oc' gA' gc', LgM w' n0 lb tb mb nn rA' rc' oA' oc' gA' gc' L ∧ FrL w w' lb mb rA oA gA rA' oA' gA'
def batL (b : Bat) (A : Option Addr) (c : Nat) : List Value := [.int .i64 b.k, .int .i64 b.p, .int .i64 b.ep, .int .i64 b.s, .bool b.t, .slice A b.rs.length c]

section
variable {w : World} {n0 lb tb mb nn rc oc gc : Nat} {rA oA gA : Option Addr} {L : Lg}
set_option maxRecDepth 100000 in
set_option maxHeartbeats 4000000 in
theorem lput_any (h : LgAt w n0 lb tb mb nn rA rc oA oc gA gc L) (hn : nn < 1000000000) (b : Bat) (A : Option Addr) (c : Nat) (hR : RecsT w A b.rs) (hs : okI b.s) (hck : checkE b.k b.p b.ep b.s b.t b.rs = 0) :
    Calls Try.prog 31 #[.pointer (some ⟨lb, 0, none⟩), .agg #[.int .i64 b.k, .int .i64 b.p, .int .i64 b.ep, .int .i64 b.s, .bool b.t, .slice A b.rs.length c]] w fun e w' =>
      e = .returned (.tuple #[]) ∧ LgNext w n0 lb tb mb (nn + 1) rA oA gA (L.put b) w' := by
  obtain ⟨k, p, ep, s, t, rs⟩ := b
  dsimp only at hR hs hck ⊢
  have l0 := h.blk.lt
  have h0 := h.alloc (.cells #[.int .i64 k, .int .i64 p, .int .i64 ep, .int .i64 s, .bool t, .slice A rs.length c] 30)
  have hB0 : Blk (w.alloc (.cells #[.int .i64 k, .int .i64 p, .int .i64 ep, .int .i64 s, .bool t, .slice A rs.length c] 30)) w.heap.size [.int .i64 k, .int .i64 p, .int .i64 ep, .int .i64 s, .bool t, .slice A rs.length c] := Blk.new' _ _ rfl
  have hT0 : TyAt (w.alloc (.cells #[.int .i64 k, .int .i64 p, .int .i64 ep, .int .i64 s, .bool t, .slice A rs.length c] 30)) w.heap.size 30 := ty_new _ _ _
  have hR0 := hR.below (bl_alloc (Below.refl w.heap.size w) (.cells #[.int .i64 k, .int .i64 p, .int .i64 ep, .int .i64 s, .bool t, .slice A rs.length c] 30))
  have hf0 : FrL w (w.alloc (.cells #[.int .i64 k, .int .i64 p, .int .i64 ep, .int .i64 s, .bool t, .slice A rs.length c] 30)) lb mb rA oA gA rA oA gA := FrL.of_below (bl_alloc (Below.refl w.heap.size w) _)
  obtain ⟨W, hWe⟩ : ∃ W, W = w.alloc (.cells #[.int .i64 k, .int .i64 p, .int .i64 ep, .int .i64 s, .bool t, .slice A rs.length c] 30) := ⟨_, rfl⟩
  go_enter Try.func31, Try.ntmps31
  go_wp2_with fail
  rw [← hWe] at h0 hB0 hT0 hR0 hf0 ⊢
  clear hWe
  have hgl := Lib.hid h.good
  clear h hR
  have q0 := hB0.cell
  have f0 := h0.blk.cell
  simp only [lgL] at f0
  have m0 := hB0.lt
  have l1 := h0.blk.lt
  have ff := h0.good.ff
  have fs := h0.good.s0
  have fss := h0.good.sf
  have hds := Lib.hid (show ∀ st, lookI L.m p = some st → st.ds.length ≤ 4611686018427387904 ∧ 0 ≤ st.next ∧ st.next ≤ 2147483648 from fun st e => by have := h0.good.m.look e; omega)
  have hnl : some lb ≠ some mb := by have := h0.mem.ne_lt.2.1; simpa using this
  have hnb : some w.heap.size ≠ some mb := by have := h0.im.ne_ty hT0; simpa using this
  go_region_held3 (fun w' => ((∀ j, w'.cell? ⟨lb, j, none⟩ = W.cell? ⟨lb, j, none⟩) ∧ lb < w'.heap.size) ∧ ((∀ j, w'.cell? ⟨w.heap.size, j, none⟩ = W.cell? ⟨w.heap.size, j, none⟩) ∧ w.heap.size < w'.heap.size))
    (first | exact ⟨⟨fun _ => rfl, l1⟩, ⟨fun _ => rfl, m0⟩⟩ | exact ⟨ks_grown (W := W.drew) (w2 := W) ⟨fun _ => rfl, l1⟩ hg3 hnl, ks_grown (W := W.drew) (w2 := W) ⟨fun _ => rfl, m0⟩ hg3 hnb⟩)
    ((go_at_call 52; refine (note_any tb mb nn L.m k p ep s t A c rs L.fin _ (h0.below (keep_drew W).2).tab (h0.below (keep_drew W).2).im (hR0.below (keep_drew W).2).1 hs (by simp only [maxLen]; omega) hds.out).mono ?_; rintro e w3 ⟨rfl, hM3, hg3⟩))
  rename_i hHeld
  clear hHeld
  have hg3' : W.grownBy w3 (some mb) := ⟨hg3.os, hg3.tape, hg3.output, hg3.size, hg3.block⟩
  have hP := putS_step h0.mem hf0 hB0 hT0 hR0 (h0.mem.setM hg3' hM3) (FrL.of_map hg3')
  have hol := h0.good.ol
  have hrl := h0.good.rl
  have hggl := h0.good.gl
  obtain ⟨M, hM⟩ : ∃ M, M = (noteF L.m k p ep s t rs L.fin).2 := ⟨_, rfl⟩
  rw [← hM] at hP
  replace hM := Lib.hid hM
  clear hg3 hg3' hM3 hnl hnb hds q0 f0 m0 h0 hB0 hT0 hR0 hf0 l1
  obtain ⟨rA1, rc1, oA1, oc1, gA1, gc1, h1, hf1, hB1, hT1, hR1⟩ := hP
  have q1 := hB1.cell
  have l1 := h1.blk.lt
  have m1 := hB1.lt
  go_upto_if 19 with (fail)
  go_cut [4] from 19 to 23 (fun s4 wx => s4 = .int .i64 (fiI (txnI L.opn p)) ∧ PutS w n0 lb tb mb (nn + 1) rA oA gA w.heap.size [.int .i64 k, .int .i64 p, .int .i64 ep, .int .i64 s, .bool t, .slice A rs.length c] A rs { L with m := M } wx)
  case first =>
    have hPP : PutS w n0 lb tb mb (nn + 1) rA oA gA w.heap.size [.int .i64 k, .int .i64 p, .int .i64 ep, .int .i64 s, .bool t, .slice A rs.length c] A rs { L with m := M } w3 := ⟨rA1, rc1, oA1, oc1, gA1, gc1, h1, hf1, hB1, hT1, hR1⟩
    by_cases hp : 0 ≤ p
    · have ht := txn_any p lb tb _ _ _ _ _ _ L.opn w3 h1.blk (LAt.of_own txL_len h1.opn rfl) (by omega)
      rw [fi_txn L.opn hp] at ht
      replace ht := Lib.hid ht
      go_wp2_with (go_at_call 28; refine ht.out.mono ?_; rintro e w4 ⟨rfl, hb4⟩)
      go_meet
      exact ⟨rfl, hPP.below hb4⟩
    · have hF := Lib.hid (show fiI (txnI L.opn p) = -1 by unfold txnI; rw [if_pos (by omega)]; rfl)
      go_wp2_with fail
      go_meet
      exact ⟨by rw [hF.out], hPP⟩
  case rest =>
    obtain ⟨rfl, hP⟩ := hcut
    clear h1 hf1 hB1 hT1 hR1 q1 l1 m1
    obtain ⟨rA1, rc1, oA1, oc1, gA1, gc1, h1, hf1, hB1, hT1, hR1⟩ := hP
    have q1 := hB1.cell
    have l1 := h1.blk.lt
    have m1 := hB1.lt
    obtain ⟨F, hF⟩ : ∃ F, F = fiI (txnI L.opn p) := ⟨_, rfl⟩
    rw [← hF]
    replace hF := Lib.hid hF
    go_upto_block 0 with fail
    go_cut [] from 24 to 90 (fun wx => PutS w n0 lb tb mb (nn + 1) rA oA gA w.heap.size [.int .i64 k, .int .i64 p, .int .i64 ep, .int .i64 s, .bool t, .slice A rs.length c] A rs { L with m := M, opn := opn2 L k p t, gone := gone2 L k p } wx)
    case first =>
      have hPP : PutS w n0 lb tb mb (nn + 1) rA oA gA w.heap.size [.int .i64 k, .int .i64 p, .int .i64 ep, .int .i64 s, .bool t, .slice A rs.length c] A rs { L with m := M } wc := ⟨rA1, rc1, oA1, oc1, gA1, gc1, h1, hf1, hB1, hT1, hR1⟩
      by_cases hk : k = 1
      · have ka : (k == 1) = true := by simpa using hk
        cases t
        · have HO := Lib.hid (show opn2 L k p false = L.opn ∧ gone2 L k p = L.gone by simp [opn2, gone2, hk])
          clear hk
          go_wp2_with fail
          go_meet
          rw [HO.out.1, HO.out.2]
          exact hPP
        · rcases Option.eq_none_or_eq_some (txnI L.opn p) with hx | ⟨ii, hx⟩
          rotate_left
          · have HO := Lib.hid (show opn2 L k p true = L.opn ∧ gone2 L k p = L.gone by simp [opn2, gone2, hk, hx])
            have hfi : (F < 0) = False := by rw [hF.out, hx]; simp [fiI]
            clear hk hx
            go_wp2_with fail
            go_meet
            rw [HO.out.1, HO.out.2]
            exact hPP
          · have HO := Lib.hid (show opn2 L k p true = L.opn ++ [⟨p, L.fin⟩] ∧ gone2 L k p = L.gone by simp [opn2, gone2, hk, hx])
            have hfi : (F < 0) = True := by rw [hF.out, hx]; simp [fiI]
            clear hk hx
            go_wp2_with fail
            refine anyBut.region rfl 16 (fun w' => Blk w' lb [.pointer (some ⟨tb, 0, none⟩), .int .i64 L.start, .int .i64 L.fin, .slice rA1 L.rows.length rc1, .slice oA1 L.opn.length oc1, .slice gA1 L.gone.length gc1] ∧ Blk w' w.heap.size [.int .i64 k, .int .i64 p, .int .i64 ep, .int .i64 s, .bool true, .slice A rs.length c]) ?_
            obtain ⟨X, hX⟩ : ∃ X, wc.drew = X := ⟨_, rfl⟩
            rw [hX]
            have hbX : Below wc.heap.size wc X := hX ▸ (Below.refl _ _).drew
            have h2 := h1.below hbX
            have hB2 := hB1.below hbX m1
            have hT2 := hT1.of_heap (hbX.block _ m1)
            have hR2 := hR1.below hbX
            have hf2 := hf1.tr (FrL.of_below hbX)
            clear hX hPP q1 h1 hB1 hT1 hR1 hf1
            have hL2 : Blk X lb [.pointer (some ⟨tb, 0, none⟩), .int .i64 L.start, .int .i64 L.fin, .slice rA1 L.rows.length rc1, .slice oA1 L.opn.length oc1, .slice gA1 L.gone.length gc1] := h2.blk
            try simp only [List.setIfInBounds_toArray, List.set_cons_zero, List.set_cons_succ]
            refine anyBut.takeW (i := 0) (t := 34) (v := (.pointer (some ⟨lb, 0, none⟩))) (by kernel_rfl) rfl rfl (by decide +kernel) (by decide +kernel) (by decide +kernel) (fun _ _ _ h => h.elim) (.inl ⟨rfl, fun w' hS => ?_⟩) ⟨hL2, hB2⟩ ?_
            · go_simp
            try simp only [List.setIfInBounds_toArray, List.set_cons_zero, List.set_cons_succ]
            refine anyBut.takeW (i := 1) (t := 35) (v := (.pointer (some ⟨lb, 0, none⟩))) (by kernel_rfl) rfl rfl (by decide +kernel) (by decide +kernel) (by decide +kernel) (fun _ _ _ h => h.elim) (.inl ⟨rfl, fun w' hS => ?_⟩) ⟨hL2, hB2⟩ ?_
            · go_simp
            try simp only [List.setIfInBounds_toArray, List.set_cons_zero, List.set_cons_succ]
            refine anyBut.takeW (i := 2) (t := 36) (v := (.pointer (some ⟨lb, 0, none⟩))) (by kernel_rfl) rfl rfl (by decide +kernel) (by decide +kernel) (by decide +kernel) (fun _ _ _ h => h.elim) (.inl ⟨rfl, fun w' hS => ?_⟩) ⟨hL2, hB2⟩ ?_
            · go_simp
            try simp only [List.setIfInBounds_toArray, List.set_cons_zero, List.set_cons_succ]
            refine anyBut.takeW (i := 3) (t := 37) (v := (.pointer (some ⟨lb, 4, none⟩))) (by kernel_rfl) rfl rfl (by decide +kernel) (by decide +kernel) (by decide +kernel) (fun _ _ _ h => h.elim) (.inl ⟨rfl, fun w' hS => ?_⟩) ⟨hL2, hB2⟩ ?_
            · go_simp
            try simp only [List.setIfInBounds_toArray, List.set_cons_zero, List.set_cons_succ]
            refine anyBut.takeW (i := 4) (t := 38) (v := (.slice oA1 L.opn.length oc1)) (by kernel_rfl) rfl rfl (by decide +kernel) (by decide +kernel) (by decide +kernel) (fun _ _ _ h => h.elim) (.inl ⟨rfl, fun w' hS => ?_⟩) ⟨hL2, hB2⟩ ?_
            · have z1 := hS.1.cell
              go_simp
            try simp only [List.setIfInBounds_toArray, List.set_cons_zero, List.set_cons_succ]
            refine anyBut.takeW (i := 5) (t := 39) (v := (.pointer (some ⟨w.heap.size, 1, none⟩))) (by kernel_rfl) rfl rfl (by decide +kernel) (by decide +kernel) (by decide +kernel) (fun _ _ _ h => h.elim) (.inl ⟨rfl, fun w' hS => ?_⟩) ⟨hL2, hB2⟩ ?_
            · go_simp
            try simp only [List.setIfInBounds_toArray, List.set_cons_zero, List.set_cons_succ]
            refine anyBut.takeW (i := 6) (t := 40) (v := (.int .i64 p)) (by kernel_rfl) rfl rfl (by decide +kernel) (by decide +kernel) (by decide +kernel) (fun _ _ _ h => h.elim) (.inl ⟨rfl, fun w' hS => ?_⟩) ⟨hL2, hB2⟩ ?_
            · have z2 := hS.2.cell
              go_simp
            try simp only [List.setIfInBounds_toArray, List.set_cons_zero, List.set_cons_succ]
            refine anyBut.takeW (i := 7) (t := 41) (v := (.pointer (some ⟨lb, 0, none⟩))) (by kernel_rfl) rfl rfl (by decide +kernel) (by decide +kernel) (by decide +kernel) (fun _ _ _ h => h.elim) (.inl ⟨rfl, fun w' hS => ?_⟩) ⟨hL2, hB2⟩ ?_
            · go_simp
            try simp only [List.setIfInBounds_toArray, List.set_cons_zero, List.set_cons_succ]
            refine anyBut.takeW (i := 8) (t := 42) (v := (.pointer (some ⟨lb, 0, none⟩))) (by kernel_rfl) rfl rfl (by decide +kernel) (by decide +kernel) (by decide +kernel) (fun _ _ _ h => h.elim) (.inl ⟨rfl, fun w' hS => ?_⟩) ⟨hL2, hB2⟩ ?_
            · go_simp
            try simp only [List.setIfInBounds_toArray, List.set_cons_zero, List.set_cons_succ]
            refine anyBut.takeW (i := 9) (t := 43) (v := (.pointer (some ⟨lb, 2, none⟩))) (by kernel_rfl) rfl rfl (by decide +kernel) (by decide +kernel) (by decide +kernel) (fun _ _ _ h => h.elim) (.inl ⟨rfl, fun w' hS => ?_⟩) ⟨hL2, hB2⟩ ?_
            · go_simp
            try simp only [List.setIfInBounds_toArray, List.set_cons_zero, List.set_cons_succ]
            refine anyBut.takeW (i := 10) (t := 44) (v := (.int .i64 L.fin)) (by kernel_rfl) rfl rfl (by decide +kernel) (by decide +kernel) (by decide +kernel) (fun _ _ _ h => h.elim) (.inl ⟨rfl, fun w' hS => ?_⟩) ⟨hL2, hB2⟩ ?_
            · have z1 := hS.1.cell
              go_simp
            try simp only [List.setIfInBounds_toArray, List.set_cons_zero, List.set_cons_succ]
            refine anyBut.takeW (i := 11) (t := 45) (v := (.agg #[.int .i64 p, .int .i64 L.fin])) (by kernel_rfl) rfl rfl (by decide +kernel) (by decide +kernel) (by decide +kernel) (fun _ _ _ h => h.elim) (.inl ⟨rfl, fun w' hS => ?_⟩) ⟨hL2, hB2⟩ ?_
            · go_simp
            try simp only [List.setIfInBounds_toArray, List.set_cons_zero, List.set_cons_succ]
            refine anyBut.one (i := 12) (by decide +kernel) rfl rfl ?_
            refine wp_oneT (.tmp 45) rfl (.int .i64 p) (.int .i64 L.fin) rfl (by simp [Value.oneCell']) 46 rfl ?_
            refine ⟨.inr ⟨hL2.alloc _, hB2.alloc _⟩, ?_⟩
            try simp only [List.setIfInBounds_toArray, List.set_cons_zero, List.set_cons_succ]
            try simp only [List.setIfInBounds_toArray, List.set_cons_zero, List.set_cons_succ]
            refine anyBut.one (i := 13) (by decide +kernel) rfl rfl ?_
            obtain ⟨i0, hi0, hz0, hz1, hz2⟩ := info_parts info82
            refine wp_app1 (.tmp 38) (.tmp 46) 58 rfl n0 82 i0 _ 2 16 Try.underlying58 hi0 hz0 hz1 hz2 rfl (by omega) oA1 L.opn.length oc1 _ rfl (ownsRow_below h2.opn (bl_alloc (Below.refl _ _) _)) X.heap.size (txL ⟨p, L.fin⟩) rfl rfl (fun j u hu => (Blk.new' (w := X) #[.int .i64 p, .int .i64 L.fin] 82 rfl).get hu) (txL_one _) (by simp only [maxLen]; omega) (by omega) (by have := h2.low.2.2.2; simp; omega) 47 rfl ?_
            intro A4 c4 w4 hown4 hg4 hat4
            have hg4' : X.grownBy w4 (Value.slice oA1 L.opn.length oc1).ownBlock := gr_trg (gr_below (bl_alloc (Below.refl _ _) _) _) hg4
            have hnl : some lb ≠ (Value.slice oA1 L.opn.length oc1).ownBlock := fun e => (h2.ne_o (own_at h2.opn e.symm)).1 rfl
            have hnb : some w.heap.size ≠ (Value.slice oA1 L.opn.length oc1).ownBlock := fun e => (ownsRow_ty h2.opn e.symm).ne hT2 (by decide) rfl
            have hL4 := hL2.grown hg4' hnl
            have hB4 := hB2.grown hg4' hnb
            refine ⟨.inr ⟨hL4, hB4⟩, ?_⟩
            try simp only [List.setIfInBounds_toArray, List.set_cons_zero, List.set_cons_succ]
            refine anyBut.oneT (i := 14) (t := 48) (v := (.pointer (some ⟨lb, 0, none⟩))) (by decide +kernel) rfl rfl (.inl ⟨rfl, fun w' hS => ?_⟩) ⟨hL4, hB4⟩ ?_
            · go_simp
            try simp only [List.setIfInBounds_toArray, List.set_cons_zero, List.set_cons_succ]
            refine anyBut.oneT (i := 15) (t := 49) (v := (.pointer (some ⟨lb, 4, none⟩))) (by decide +kernel) rfl rfl (.inl ⟨rfl, fun w' hS => ?_⟩) ⟨hL4, hB4⟩ ?_
            · go_simp
            try simp only [List.setIfInBounds_toArray, List.set_cons_zero, List.set_cons_succ]
            refine anyBut.one (i := 16) (by decide +kernel) rfl rfl ?_
            refine wp_store_go 58 (.tmp 49) (.tmp 47) rfl rfl (b := lb) (k := 4) rfl rfl rfl rfl (by kernel_rfl) ?_ ?_ ?_
            · rw [hL4.cell]; rfl
            · exact hL4.unf _
            refine ⟨.inl rfl, anyBut.done (by decide +kernel) ?_ _⟩
            refine NoPanic.normal ?_
            have hn4 : L.opn.length + 1 = (L.opn ++ [(⟨p, L.fin⟩ : Tx)]).length := by simp
            rw [show L.opn.flatMap txL ++ txL ⟨p, L.fin⟩ = (L.opn ++ [(⟨p, L.fin⟩ : Tx)]).flatMap txL by simp, hn4] at hown4
            have hnew4 : A4 = oA1 ∨ ∀ g, A4 = some ⟨g, 0, none⟩ → X.heap.size ≤ g := hat4.imp id (fun e g e2 => by rw [e] at e2; cases e2; simp)
            have hm5 := h2.setO hg4' hown4
            have hfr5 := h2.frO hg4' hnew4 (.slice A4 (L.opn ++ [(⟨p, L.fin⟩ : Tx)]).length c4)
            have hP5 := putS_step h2 hf2 hB2 hT2 hR2 hm5 hfr5
            go_wp2_with fail
            go_meet
            rw [HO.out.1, HO.out.2, hn4]
            exact hP5
      · have ka : (k == 1) = false := by simpa using hk
        rcases Option.eq_none_or_eq_some (txnI L.opn p) with hx | ⟨ii, hx⟩
        · have HO := Lib.hid (show opn2 L k p t = L.opn ∧ gone2 L k p = L.gone by simp [opn2, gone2, hk, hx])
          have hfi : (0 ≤ F) = False := by rw [hF.out, hx]; simp [fiI]
          clear hk hx
          go_wp2_with fail
          go_meet
          rw [HO.out.1, HO.out.2]
          exact hPP
        · obtain rfl : F = (ii : Int) := by rw [hF.out, hx]; rfl
          have hii := txnI_lt hx
          obtain ⟨Ax, cx, ex, hox⟩ := ownsRow_tells h1.opn
          cases ex
          obtain ⟨og, hog, _, _, hcx⟩ := hox (show L.opn.length ≠ 0 by omega)
          subst hog
          have hi0 : (0 : Int) ≤ (ii : Int) := by omega
          have hiw : IntKind.i64.wrap ((ii : Int) + 1) = (ii : Int) + 1 := IntWalk.i64_in _ (by omega)
          have hel : L.opn.eraseIdx ii = L.opn.take ii ++ L.opn.drop (ii + 1) := List.eraseIdx_eq_take_drop_succ ..
          have hell : (L.opn.eraseIdx ii).length = L.opn.length - 1 := List.length_eraseIdx_of_lt hii
          replace hel := Lib.hid hel
          replace hell := Lib.hid hell
          by_cases hk3 : k = 3
          · have kb : (k == 3) = true := by simpa using hk3
            have HO := Lib.hid (show opn2 L k p t = L.opn.eraseIdx ii ∧ gone2 L k p = L.gone ++ [⟨p, L.opn[ii].first, L.fin⟩] by simp [opn2, gone2, hx, hk3, hii])
            have hci : wc.cell? ⟨og, ii * 2 + 1, none⟩ = some (.int .i64 L.opn[ii].first) := hcx _ _ ((flat_get txL_len L.opn ii hii 1 (by omega)).trans rfl)
            generalize L.opn[ii] = y at HO hci
            obtain ⟨yp, yf⟩ := y
            dsimp only at HO hci
            clear hk hx hk3 hcx hox hPP
            go_wp2_with fail
            refine anyBut.region rfl 24 (fun w' => Blk w' lb [.pointer (some ⟨tb, 0, none⟩), .int .i64 L.start, .int .i64 L.fin, .slice rA1 L.rows.length rc1, .slice (some ⟨og, 0, none⟩) L.opn.length oc1, .slice gA1 L.gone.length gc1] ∧ Blk w' w.heap.size [.int .i64 k, .int .i64 p, .int .i64 ep, .int .i64 s, .bool t, .slice A rs.length c] ∧ w'.cell? ⟨og, ii * 2 + 1, none⟩ = some (.int .i64 yf)) ?_
            obtain ⟨X, hX⟩ : ∃ X, wc.drew = X := ⟨_, rfl⟩
            rw [hX]
            have hbX : Below wc.heap.size wc X := hX ▸ (Below.refl _ _).drew
            have h2 := h1.below hbX
            have hB2 := hB1.below hbX m1
            have hT2 := hT1.of_heap (hbX.block _ m1)
            have hR2 := hR1.below hbX
            have hf2 := hf1.tr (FrL.of_below hbX)
            have log : og < wc.heap.size := ownsRow_lt h1.opn rfl
            have hc2 : X.cell? ⟨og, ii * 2 + 1, none⟩ = some (.int .i64 yf) := (hbX.cell (p := ⟨og, _, none⟩) log).trans hci
            have log2 : og < X.heap.size := ownsRow_lt h2.opn rfl
            clear hX q1 h1 hB1 hT1 hR1 hf1 hci log
            have hL2 : Blk X lb [.pointer (some ⟨tb, 0, none⟩), .int .i64 L.start, .int .i64 L.fin, .slice rA1 L.rows.length rc1, .slice (some ⟨og, 0, none⟩) L.opn.length oc1, .slice gA1 L.gone.length gc1] := h2.blk
            try simp only [List.setIfInBounds_toArray, List.set_cons_zero, List.set_cons_succ]
            refine anyBut.takeW (i := 0) (t := 56) (v := (.pointer (some ⟨lb, 0, none⟩))) (by kernel_rfl) rfl rfl (by decide +kernel) (by decide +kernel) (by decide +kernel) (fun _ _ _ h => h.elim) (.inl ⟨rfl, fun w' hS => ?_⟩) ⟨hL2, hB2, hc2⟩ ?_
            · go_simp
            try simp only [List.setIfInBounds_toArray, List.set_cons_zero, List.set_cons_succ]
            refine anyBut.takeW (i := 1) (t := 57) (v := (.pointer (some ⟨lb, 0, none⟩))) (by kernel_rfl) rfl rfl (by decide +kernel) (by decide +kernel) (by decide +kernel) (fun _ _ _ h => h.elim) (.inl ⟨rfl, fun w' hS => ?_⟩) ⟨hL2, hB2, hc2⟩ ?_
            · go_simp
            try simp only [List.setIfInBounds_toArray, List.set_cons_zero, List.set_cons_succ]
            refine anyBut.takeW (i := 2) (t := 58) (v := (.pointer (some ⟨lb, 0, none⟩))) (by kernel_rfl) rfl rfl (by decide +kernel) (by decide +kernel) (by decide +kernel) (fun _ _ _ h => h.elim) (.inl ⟨rfl, fun w' hS => ?_⟩) ⟨hL2, hB2, hc2⟩ ?_
            · go_simp
            try simp only [List.setIfInBounds_toArray, List.set_cons_zero, List.set_cons_succ]
            refine anyBut.takeW (i := 3) (t := 59) (v := (.pointer (some ⟨lb, 5, none⟩))) (by kernel_rfl) rfl rfl (by decide +kernel) (by decide +kernel) (by decide +kernel) (fun _ _ _ h => h.elim) (.inl ⟨rfl, fun w' hS => ?_⟩) ⟨hL2, hB2, hc2⟩ ?_
            · go_simp
            try simp only [List.setIfInBounds_toArray, List.set_cons_zero, List.set_cons_succ]
            refine anyBut.takeW (i := 4) (t := 60) (v := (.slice gA1 L.gone.length gc1)) (by kernel_rfl) rfl rfl (by decide +kernel) (by decide +kernel) (by decide +kernel) (fun _ _ _ h => h.elim) (.inl ⟨rfl, fun w' hS => ?_⟩) ⟨hL2, hB2, hc2⟩ ?_
            · have z1 := hS.1.cell
              go_simp
            try simp only [List.setIfInBounds_toArray, List.set_cons_zero, List.set_cons_succ]
            refine anyBut.takeW (i := 5) (t := 61) (v := (.pointer (some ⟨w.heap.size, 1, none⟩))) (by kernel_rfl) rfl rfl (by decide +kernel) (by decide +kernel) (by decide +kernel) (fun _ _ _ h => h.elim) (.inl ⟨rfl, fun w' hS => ?_⟩) ⟨hL2, hB2, hc2⟩ ?_
            · go_simp
            try simp only [List.setIfInBounds_toArray, List.set_cons_zero, List.set_cons_succ]
            refine anyBut.takeW (i := 6) (t := 62) (v := (.int .i64 p)) (by kernel_rfl) rfl rfl (by decide +kernel) (by decide +kernel) (by decide +kernel) (fun _ _ _ h => h.elim) (.inl ⟨rfl, fun w' hS => ?_⟩) ⟨hL2, hB2, hc2⟩ ?_
            · have z2 := hS.2.1.cell
              go_simp
            try simp only [List.setIfInBounds_toArray, List.set_cons_zero, List.set_cons_succ]
            refine anyBut.takeW (i := 7) (t := 63) (v := (.pointer (some ⟨lb, 0, none⟩))) (by kernel_rfl) rfl rfl (by decide +kernel) (by decide +kernel) (by decide +kernel) (fun _ _ _ h => h.elim) (.inl ⟨rfl, fun w' hS => ?_⟩) ⟨hL2, hB2, hc2⟩ ?_
            · go_simp
            try simp only [List.setIfInBounds_toArray, List.set_cons_zero, List.set_cons_succ]
            refine anyBut.takeW (i := 8) (t := 64) (v := (.pointer (some ⟨lb, 0, none⟩))) (by kernel_rfl) rfl rfl (by decide +kernel) (by decide +kernel) (by decide +kernel) (fun _ _ _ h => h.elim) (.inl ⟨rfl, fun w' hS => ?_⟩) ⟨hL2, hB2, hc2⟩ ?_
            · go_simp
            try simp only [List.setIfInBounds_toArray, List.set_cons_zero, List.set_cons_succ]
            refine anyBut.takeW (i := 9) (t := 65) (v := (.pointer (some ⟨lb, 4, none⟩))) (by kernel_rfl) rfl rfl (by decide +kernel) (by decide +kernel) (by decide +kernel) (fun _ _ _ h => h.elim) (.inl ⟨rfl, fun w' hS => ?_⟩) ⟨hL2, hB2, hc2⟩ ?_
            · go_simp
            try simp only [List.setIfInBounds_toArray, List.set_cons_zero, List.set_cons_succ]
            refine anyBut.takeW (i := 10) (t := 66) (v := (.slice (some ⟨og, 0, none⟩) L.opn.length oc1)) (by kernel_rfl) rfl rfl (by decide +kernel) (by decide +kernel) (by decide +kernel) (fun _ _ _ h => h.elim) (.inl ⟨rfl, fun w' hS => ?_⟩) ⟨hL2, hB2, hc2⟩ ?_
            · have z1 := hS.1.cell
              go_simp
            try simp only [List.setIfInBounds_toArray, List.set_cons_zero, List.set_cons_succ]
            refine anyBut.takeW (i := 11) (t := 67) (v := (.int .i64 (ii : Nat))) (by kernel_rfl) rfl rfl (by decide +kernel) (by decide +kernel) (by decide +kernel) (fun _ _ _ h => h.elim) (.inl ⟨rfl, fun w' hS => ?_⟩) ⟨hL2, hB2, hc2⟩ ?_
            · go_simp
            try simp only [List.setIfInBounds_toArray, List.set_cons_zero, List.set_cons_succ]
            refine anyBut.takeW (i := 12) (t := 68) (v := (.pointer (some ⟨og, ii * 2, none⟩))) (by kernel_rfl) rfl rfl (by decide +kernel) (by decide +kernel) (by decide +kernel) (fun _ _ _ h => h.elim) (.inl ⟨rfl, fun w' hS => ?_⟩) ⟨hL2, hB2, hc2⟩ ?_
            · go_simp
            try simp only [List.setIfInBounds_toArray, List.set_cons_zero, List.set_cons_succ]
            refine anyBut.takeW (i := 13) (t := 69) (v := (.pointer (some ⟨og, ii * 2 + 1, none⟩))) (by kernel_rfl) rfl rfl (by decide +kernel) (by decide +kernel) (by decide +kernel) (fun _ _ _ h => h.elim) (.inl ⟨rfl, fun w' hS => ?_⟩) ⟨hL2, hB2, hc2⟩ ?_
            · go_simp
            try simp only [List.setIfInBounds_toArray, List.set_cons_zero, List.set_cons_succ]
            refine anyBut.takeW (i := 14) (t := 70) (v := (.int .i64 yf)) (by kernel_rfl) rfl rfl (by decide +kernel) (by decide +kernel) (by decide +kernel) (fun _ _ _ h => h.elim) (.inl ⟨rfl, fun w' hS => ?_⟩) ⟨hL2, hB2, hc2⟩ ?_
            · have z3 := hS.2.2
              go_simp
            try simp only [List.setIfInBounds_toArray, List.set_cons_zero, List.set_cons_succ]
            refine anyBut.takeW (i := 15) (t := 71) (v := (.pointer (some ⟨lb, 0, none⟩))) (by kernel_rfl) rfl rfl (by decide +kernel) (by decide +kernel) (by decide +kernel) (fun _ _ _ h => h.elim) (.inl ⟨rfl, fun w' hS => ?_⟩) ⟨hL2, hB2, hc2⟩ ?_
            · go_simp
            try simp only [List.setIfInBounds_toArray, List.set_cons_zero, List.set_cons_succ]
            refine anyBut.takeW (i := 16) (t := 72) (v := (.pointer (some ⟨lb, 0, none⟩))) (by kernel_rfl) rfl rfl (by decide +kernel) (by decide +kernel) (by decide +kernel) (fun _ _ _ h => h.elim) (.inl ⟨rfl, fun w' hS => ?_⟩) ⟨hL2, hB2, hc2⟩ ?_
            · go_simp
            try simp only [List.setIfInBounds_toArray, List.set_cons_zero, List.set_cons_succ]
            refine anyBut.takeW (i := 17) (t := 73) (v := (.pointer (some ⟨lb, 2, none⟩))) (by kernel_rfl) rfl rfl (by decide +kernel) (by decide +kernel) (by decide +kernel) (fun _ _ _ h => h.elim) (.inl ⟨rfl, fun w' hS => ?_⟩) ⟨hL2, hB2, hc2⟩ ?_
            · go_simp
            try simp only [List.setIfInBounds_toArray, List.set_cons_zero, List.set_cons_succ]
            refine anyBut.takeW (i := 18) (t := 74) (v := (.int .i64 L.fin)) (by kernel_rfl) rfl rfl (by decide +kernel) (by decide +kernel) (by decide +kernel) (fun _ _ _ h => h.elim) (.inl ⟨rfl, fun w' hS => ?_⟩) ⟨hL2, hB2, hc2⟩ ?_
            · have z1 := hS.1.cell
              go_simp
            try simp only [List.setIfInBounds_toArray, List.set_cons_zero, List.set_cons_succ]
            refine anyBut.takeW (i := 19) (t := 75) (v := (.agg #[.int .i64 p, .int .i64 yf, .int .i64 L.fin])) (by kernel_rfl) rfl rfl (by decide +kernel) (by decide +kernel) (by decide +kernel) (fun _ _ _ h => h.elim) (.inl ⟨rfl, fun w' hS => ?_⟩) ⟨hL2, hB2, hc2⟩ ?_
            · go_simp
            try simp only [List.setIfInBounds_toArray, List.set_cons_zero, List.set_cons_succ]
            refine anyBut.one (i := 20) (by decide +kernel) rfl rfl ?_
            refine wp_oneG (.tmp 75) rfl (.int .i64 p) (.int .i64 yf) (.int .i64 L.fin) rfl (by simp [Value.oneCell']) 76 rfl ?_
            refine ⟨.inr ⟨hL2.alloc _, hB2.alloc _, (World.cell?_of_block (w := X) (a := ⟨og, ii * 2 + 1, none⟩) (Below.heap_alloc X _ og log2)).trans hc2⟩, ?_⟩
            try simp only [List.setIfInBounds_toArray, List.set_cons_zero, List.set_cons_succ]
            try simp only [List.setIfInBounds_toArray, List.set_cons_zero, List.set_cons_succ]
            refine anyBut.one (i := 21) (by decide +kernel) rfl rfl ?_
            obtain ⟨i0, hi1, hz0, hz1, hz2⟩ := info_parts info79
            refine wp_app1 (.tmp 60) (.tmp 76) 60 rfl n0 79 i0 _ 3 24 Try.underlying60 hi1 hz0 hz1 hz2 rfl (by omega) gA1 L.gone.length gc1 _ rfl (ownsRow_below h2.gone (bl_alloc (Below.refl _ _) _)) X.heap.size (gnL ⟨p, yf, L.fin⟩) rfl rfl (fun j u hu => (Blk.new' (w := X) #[.int .i64 p, .int .i64 yf, .int .i64 L.fin] 79 rfl).get hu) (gnL_one _) (by simp only [maxLen]; omega) (by omega) (by have := h2.low.2.2.2; simp; omega) 77 rfl ?_
            intro A4 c4 w4 hown4 hg4 hat4
            have hg4' : X.grownBy w4 (Value.slice gA1 L.gone.length gc1).ownBlock := gr_trg (gr_below (bl_alloc (Below.refl _ _) _) _) hg4
            have hnl : some lb ≠ (Value.slice gA1 L.gone.length gc1).ownBlock := fun e => (h2.ne_g (own_at h2.gone e.symm)).1 rfl
            have hnb : some w.heap.size ≠ (Value.slice gA1 L.gone.length gc1).ownBlock := fun e => (ownsRow_ty h2.gone e.symm).ne hT2 (by decide) rfl
            have hno : some og ≠ (Value.slice gA1 L.gone.length gc1).ownBlock := fun e => (h2.ne_g (own_at h2.gone e.symm)).2.2.2.2 rfl
            have hL4 := hL2.grown hg4' hnl
            have hB4 := hB2.grown hg4' hnb
            have hc4 : w4.cell? ⟨og, ii * 2 + 1, none⟩ = some (.int .i64 yf) := (World.cell?_of_block (w := X) (a := ⟨og, ii * 2 + 1, none⟩) (hg4'.block og log2 hno)).trans hc2
            refine ⟨.inr ⟨hL4, hB4, hc4⟩, ?_⟩
            try simp only [List.setIfInBounds_toArray, List.set_cons_zero, List.set_cons_succ]
            refine anyBut.oneT (i := 22) (t := 78) (v := (.pointer (some ⟨lb, 0, none⟩))) (by decide +kernel) rfl rfl (.inl ⟨rfl, fun w' hS => ?_⟩) ⟨hL4, hB4, hc4⟩ ?_
            · go_simp
            try simp only [List.setIfInBounds_toArray, List.set_cons_zero, List.set_cons_succ]
            refine anyBut.oneT (i := 23) (t := 79) (v := (.pointer (some ⟨lb, 5, none⟩))) (by decide +kernel) rfl rfl (.inl ⟨rfl, fun w' hS => ?_⟩) ⟨hL4, hB4, hc4⟩ ?_
            · go_simp
            try simp only [List.setIfInBounds_toArray, List.set_cons_zero, List.set_cons_succ]
            refine anyBut.one (i := 24) (by decide +kernel) rfl rfl ?_
            have hn4 : L.gone.length + 1 = (L.gone ++ [(⟨p, yf, L.fin⟩ : Gn)]).length := by simp
            refine wp_store_go 60 (.tmp 79) (.tmp 77) rfl rfl (b := lb) (k := 5) (v := .slice A4 (L.gone ++ [(⟨p, yf, L.fin⟩ : Gn)]).length c4) rfl (by rw [← hn4]; rfl) rfl rfl (by kernel_rfl) ?_ ?_ ?_
            · rw [hL4.cell]; rfl
            · exact hL4.unf _
            refine ⟨.inl rfl, anyBut.done (by decide +kernel) ?_ _⟩
            refine NoPanic.normal ?_
            rw [show L.gone.flatMap gnL ++ gnL ⟨p, yf, L.fin⟩ = (L.gone ++ [(⟨p, yf, L.fin⟩ : Gn)]).flatMap gnL by simp, hn4] at hown4
            have hnew4 : A4 = gA1 ∨ ∀ g, A4 = some ⟨g, 0, none⟩ → X.heap.size ≤ g := hat4.imp id (fun e g e2 => by rw [e] at e2; cases e2; simp)
            have hm5 := h2.setG hg4' hown4
            have hfr5 := h2.frG hg4' hnew4 (.slice A4 (L.gone ++ [(⟨p, yf, L.fin⟩ : Gn)]).length c4)
            have hB5 := hB2.of_heap (hfr5.ty h2 hT2 (by decide))
            have hT5 := hT2.of_heap (hfr5.ty h2 hT2 (by decide))
            have hR5 := hR2.keep fun b ht => hfr5.ty h2 ht (by decide)
            have hf5 := hf2.tr hfr5
            clear hL4 hB4 hc4 hfr5 hL2 hB2 hT2 hR2 hf2 hn4 hat4 hc2 hi1 hz0 hz1 hz2 hnl hnb hno hnew4 hown4 hg4
            obtain ⟨W6, hW6⟩ : ∃ W6, W6 = w4.setCell ⟨lb, 5, none⟩ (.slice A4 (L.gone ++ [(⟨p, yf, L.fin⟩ : Gn)]).length c4) := ⟨_, rfl⟩
            rw [← hW6] at hm5 hB5 hT5 hR5 hf5 ⊢
            clear hW6
            have q6 := hB5.cell
            have f6 := hm5.blk.cell
            simp only [lgL] at f6
            have l6 := hm5.blk.lt
            have m6 := hB5.lt
            go_wp2_with (go_at_call 53; refine (delete1_any (some ⟨og, 0, none⟩) oc1 n0 ii L.opn _ hm5.opn hii).mono ?_; rintro e w7 ⟨rfl, hown7, hg7⟩; have hL7 := hm5.blk.grown hg7 (fun e => (hm5.ne_o (own_at hm5.opn e.symm)).1 rfl); simp only [lgL] at hL7; have f7 := hL7.cell; have u7 := hL7.unf)
            rw [← hel.out, ← hell.out] at hown7
            have hm8 := hm5.setO hg7 hown7
            have hfr8 := hm5.frO hg7 (.inl rfl) (.slice (some ⟨og, 0, none⟩) (L.opn.eraseIdx ii).length oc1)
            have hP8 := putS_step hm5 hf5 hB5 hT5 hR5 hm8 hfr8
            go_meet
            rw [HO.out.1, HO.out.2, ← hell.out]
            exact hP8
          · have kb : (k == 3) = false := by simpa using hk3
            have HO := Lib.hid (show opn2 L k p t = L.opn.eraseIdx ii ∧ gone2 L k p = L.gone by simp [opn2, gone2, hk, hx, hk3])
            clear hk hx hk3 hcx hox hPP
            obtain ⟨W6, hW6⟩ : ∃ W6, W6 = wc := ⟨_, rfl⟩
            rw [← hW6] at h1 hB1 hT1 hR1 hf1 ⊢
            clear hW6
            have q6 := hB1.cell
            have f6 := h1.blk.cell
            simp only [lgL] at f6
            have l6 := h1.blk.lt
            have m6 := hB1.lt
            go_wp2_with (go_at_call 53; refine (delete1_any (some ⟨og, 0, none⟩) oc1 n0 ii L.opn _ h1.opn hii).mono ?_; rintro e w7 ⟨rfl, hown7, hg7⟩; have hL7 := h1.blk.grown hg7 (fun e => (h1.ne_o (own_at h1.opn e.symm)).1 rfl); simp only [lgL] at hL7; have f7 := hL7.cell; have u7 := hL7.unf)
            rw [← hel.out, ← hell.out] at hown7
            have hm8 := h1.setO hg7 hown7
            have hfr8 := h1.frO hg7 (.inl rfl) (.slice (some ⟨og, 0, none⟩) (L.opn.eraseIdx ii).length oc1)
            have hP8 := putS_step h1 hf1 hB1 hT1 hR1 hm8 hfr8
            go_meet
            rw [HO.out.1, HO.out.2, ← hell.out]
            exact hP8
    case rest =>
      clear h1 hf1 hB1 hT1 hR1 q1 l1 m1
      obtain ⟨rA1, rc1, oA1, oc1, gA1, gc1, h1, hf1, hB1, hT1, hR1⟩ := hcut
      have q1 := hB1.cell
      have hrsl := checkE_len hck
      go_wp2_with fail
      go_loopw [94] (fun u wr => ∃ i : Nat, u = .int .i64 i ∧ i ≤ rs.length ∧ PutS w n0 lb tb mb (nn + 1) rA oA gA w.heap.size [.int .i64 k, .int .i64 p, .int .i64 ep, .int .i64 s, .bool t, .slice A rs.length c] A rs { L with m := M, opn := opn2 L k p t, gone := gone2 L k p, rows := L.rows ++ (rowsOf L.fin p t rs).take i } wr) (fun u _ => rs.length - (intOf u).toNat)
      case atStart => exact ⟨0, rfl, Nat.zero_le _, by simpa using ⟨rA1, rc1, oA1, oc1, gA1, gc1, h1, hf1, hB1, hT1, hR1⟩⟩
      case round =>
        obtain ⟨i, rfl, hi, hP⟩ := hrel
        clear h1 hf1 hB1 hT1 hR1 q1
        obtain ⟨rA1, rc1, oA1, oc1, gA1, gc1, h1, hf1, hB1, hT1, hR1⟩ := hP
        have hrl1 : (L.rows ++ (rowsOf L.fin p t rs).take i).length = L.rows.length + i := by simp [rowsOf]; omega
        by_cases hlt : i < rs.length
        · have hsn := Lib.hid (rowsOf_snoc L.fin p t rs i hlt)
          obtain ⟨RL, hRL⟩ : ∃ RL, RL = L.rows ++ (rowsOf L.fin p t rs).take i := ⟨_, rfl⟩
          have hRL2 := Lib.hid (show L.rows ++ (rowsOf L.fin p t rs).take (i + 1) = RL ++ [⟨L.fin + i, p, t, rs[i]⟩] by rw [hsn.out, hRL, List.append_assoc])
          rw [← hRL] at h1 hrl1
          replace hRL := Lib.hid hRL
          obtain ⟨b, o, rfl, hbl, ca0, ca1, ca2, ks1, ks2⟩ := hR1.1.2 i hlt
          clear hsn
          generalize rs[i] = x at ca0 ca1 ca2 hRL2
          clear ks1 ks2
          replace hrl1 := Lib.hid hrl1
          have q1 := hB1.cell
          have m1 := hB1.lt
          have hi0 : (0 : Int) ≤ (i : Int) := by omega
          have h2' := h1.below (bl_alloc (Below.refl wr.heap.size wr) (.cells #[.string x.key, .string x.val, .bool x.dead] 43))
          have hB2' := hB1.below (bl_alloc (Below.refl wr.heap.size wr) (.cells #[.string x.key, .string x.val, .bool x.dead] 43)) m1
          have hT2' := hT1.of_heap ((bl_alloc (Below.refl wr.heap.size wr) (.cells #[.string x.key, .string x.val, .bool x.dead] 43)).block _ m1)
          have hR2' := hR1.below (bl_alloc (Below.refl wr.heap.size wr) (.cells #[.string x.key, .string x.val, .bool x.dead] 43))
          have hf2' := hf1.tr (FrL.of_below (bl_alloc (Below.refl wr.heap.size wr) (.cells #[.string x.key, .string x.val, .bool x.dead] 43)))
          have hX2' : Blk (wr.alloc (.cells #[.string x.key, .string x.val, .bool x.dead] 43)) wr.heap.size [.string x.key, .string x.val, .bool x.dead] := Blk.new' _ _ rfl
          have hXT' : TyAt (wr.alloc (.cells #[.string x.key, .string x.val, .bool x.dead] 43)) wr.heap.size 43 := ty_new _ _ _
          go_wp2_with fail
          refine anyBut.region rfl 21 (fun w' => Blk w' lb [.pointer (some ⟨tb, 0, none⟩), .int .i64 L.start, .int .i64 L.fin, .slice rA1 RL.length rc1, .slice oA1 (opn2 L k p t).length oc1, .slice gA1 (gone2 L k p).length gc1] ∧ Blk w' w.heap.size [.int .i64 k, .int .i64 p, .int .i64 ep, .int .i64 s, .bool t, .slice (some ⟨b, o, none⟩) rs.length c] ∧ Blk w' wr.heap.size [.string x.key, .string x.val, .bool x.dead]) ?_
          obtain ⟨X, hX⟩ : ∃ X, (wr.alloc (.cells #[.string x.key, .string x.val, .bool x.dead] 43)).drew = X := ⟨_, rfl⟩
          rw [hX]
          have hbX : Below (wr.alloc (.cells #[.string x.key, .string x.val, .bool x.dead] 43)).heap.size (wr.alloc (.cells #[.string x.key, .string x.val, .bool x.dead] 43)) X := hX ▸ (Below.refl _ _).drew
          have h2 := h2'.below hbX
          have hB2 := hB2'.below hbX hB2'.lt
          have hT2 := hT2'.of_heap (hbX.block _ hB2'.lt)
          have hR2 := hR2'.below hbX
          have hX2 := hX2'.below hbX hX2'.lt
          have hXT := hXT'.of_heap (hbX.block _ hX2'.lt)
          have hf2 := hf2'.tr (FrL.of_below hbX)
          clear hX q1 h1 hB1 hT1 hR1 hf1 h2' hB2' hT2' hR2' hf2' hX2' hXT' hbX
          have hL2 : Blk X lb [.pointer (some ⟨tb, 0, none⟩), .int .i64 L.start, .int .i64 L.fin, .slice rA1 RL.length rc1, .slice oA1 (opn2 L k p t).length oc1, .slice gA1 (gone2 L k p).length gc1] := h2.blk
          have hwi : IntKind.i64.wrap (L.fin + (i : Int)) = L.fin + (i : Int) := IntWalk.i64_in _ (by omega)
          replace hwi := Lib.hid hwi
          try simp only [List.setIfInBounds_toArray, List.set_cons_zero, List.set_cons_succ]
          refine anyBut.takeW (i := 0) (t := 99) (v := (.pointer (some ⟨lb, 0, none⟩))) (by kernel_rfl) rfl rfl (by decide +kernel) (by decide +kernel) (by decide +kernel) (fun _ _ _ h => h.elim) (.inl ⟨rfl, fun w' hS => ?_⟩) ⟨hL2, hB2, hX2⟩ ?_
          · go_simp
          try simp only [List.setIfInBounds_toArray, List.set_cons_zero, List.set_cons_succ]
          refine anyBut.takeW (i := 1) (t := 100) (v := (.pointer (some ⟨lb, 0, none⟩))) (by kernel_rfl) rfl rfl (by decide +kernel) (by decide +kernel) (by decide +kernel) (fun _ _ _ h => h.elim) (.inl ⟨rfl, fun w' hS => ?_⟩) ⟨hL2, hB2, hX2⟩ ?_
          · go_simp
          try simp only [List.setIfInBounds_toArray, List.set_cons_zero, List.set_cons_succ]
          refine anyBut.takeW (i := 2) (t := 101) (v := (.pointer (some ⟨lb, 0, none⟩))) (by kernel_rfl) rfl rfl (by decide +kernel) (by decide +kernel) (by decide +kernel) (fun _ _ _ h => h.elim) (.inl ⟨rfl, fun w' hS => ?_⟩) ⟨hL2, hB2, hX2⟩ ?_
          · go_simp
          try simp only [List.setIfInBounds_toArray, List.set_cons_zero, List.set_cons_succ]
          refine anyBut.takeW (i := 3) (t := 102) (v := (.pointer (some ⟨lb, 3, none⟩))) (by kernel_rfl) rfl rfl (by decide +kernel) (by decide +kernel) (by decide +kernel) (fun _ _ _ h => h.elim) (.inl ⟨rfl, fun w' hS => ?_⟩) ⟨hL2, hB2, hX2⟩ ?_
          · go_simp
          try simp only [List.setIfInBounds_toArray, List.set_cons_zero, List.set_cons_succ]
          refine anyBut.takeW (i := 4) (t := 103) (v := (.slice rA1 RL.length rc1)) (by kernel_rfl) rfl rfl (by decide +kernel) (by decide +kernel) (by decide +kernel) (fun _ _ _ h => h.elim) (.inl ⟨rfl, fun w' hS => ?_⟩) ⟨hL2, hB2, hX2⟩ ?_
          · have z1 := hS.1.cell
            go_simp
          try simp only [List.setIfInBounds_toArray, List.set_cons_zero, List.set_cons_succ]
          refine anyBut.takeW (i := 5) (t := 104) (v := (.pointer (some ⟨lb, 0, none⟩))) (by kernel_rfl) rfl rfl (by decide +kernel) (by decide +kernel) (by decide +kernel) (fun _ _ _ h => h.elim) (.inl ⟨rfl, fun w' hS => ?_⟩) ⟨hL2, hB2, hX2⟩ ?_
          · go_simp
          try simp only [List.setIfInBounds_toArray, List.set_cons_zero, List.set_cons_succ]
          refine anyBut.takeW (i := 6) (t := 105) (v := (.pointer (some ⟨lb, 0, none⟩))) (by kernel_rfl) rfl rfl (by decide +kernel) (by decide +kernel) (by decide +kernel) (fun _ _ _ h => h.elim) (.inl ⟨rfl, fun w' hS => ?_⟩) ⟨hL2, hB2, hX2⟩ ?_
          · go_simp
          try simp only [List.setIfInBounds_toArray, List.set_cons_zero, List.set_cons_succ]
          refine anyBut.takeW (i := 7) (t := 106) (v := (.pointer (some ⟨lb, 2, none⟩))) (by kernel_rfl) rfl rfl (by decide +kernel) (by decide +kernel) (by decide +kernel) (fun _ _ _ h => h.elim) (.inl ⟨rfl, fun w' hS => ?_⟩) ⟨hL2, hB2, hX2⟩ ?_
          · go_simp
          try simp only [List.setIfInBounds_toArray, List.set_cons_zero, List.set_cons_succ]
          refine anyBut.takeW (i := 8) (t := 107) (v := (.int .i64 L.fin)) (by kernel_rfl) rfl rfl (by decide +kernel) (by decide +kernel) (by decide +kernel) (fun _ _ _ h => h.elim) (.inl ⟨rfl, fun w' hS => ?_⟩) ⟨hL2, hB2, hX2⟩ ?_
          · have z1 := hS.1.cell
            go_simp
          try simp only [List.setIfInBounds_toArray, List.set_cons_zero, List.set_cons_succ]
          refine anyBut.takeW (i := 9) (t := 108) (v := (.int .i64 (i : Nat))) (by kernel_rfl) rfl rfl (by decide +kernel) (by decide +kernel) (by decide +kernel) (fun _ _ _ h => h.elim) (.inl ⟨rfl, fun w' hS => ?_⟩) ⟨hL2, hB2, hX2⟩ ?_
          · go_simp
          try simp only [List.setIfInBounds_toArray, List.set_cons_zero, List.set_cons_succ]
          refine anyBut.takeW (i := 10) (t := 109) (v := (.int .i64 (L.fin + (i : Nat)))) (by kernel_rfl) rfl rfl (by decide +kernel) (by decide +kernel) (by decide +kernel) (fun _ _ _ h => h.elim) (.inl ⟨rfl, fun w' hS => ?_⟩) ⟨hL2, hB2, hX2⟩ ?_
          · have z9 := hwi.out
            go_simp
          try simp only [List.setIfInBounds_toArray, List.set_cons_zero, List.set_cons_succ]
          refine anyBut.takeW (i := 11) (t := 110) (v := (.pointer (some ⟨w.heap.size, 1, none⟩))) (by kernel_rfl) rfl rfl (by decide +kernel) (by decide +kernel) (by decide +kernel) (fun _ _ _ h => h.elim) (.inl ⟨rfl, fun w' hS => ?_⟩) ⟨hL2, hB2, hX2⟩ ?_
          · go_simp
          try simp only [List.setIfInBounds_toArray, List.set_cons_zero, List.set_cons_succ]
          refine anyBut.takeW (i := 12) (t := 111) (v := (.int .i64 p)) (by kernel_rfl) rfl rfl (by decide +kernel) (by decide +kernel) (by decide +kernel) (fun _ _ _ h => h.elim) (.inl ⟨rfl, fun w' hS => ?_⟩) ⟨hL2, hB2, hX2⟩ ?_
          · have z2 := hS.2.1.cell
            go_simp
          try simp only [List.setIfInBounds_toArray, List.set_cons_zero, List.set_cons_succ]
          refine anyBut.takeW (i := 13) (t := 112) (v := (.pointer (some ⟨w.heap.size, 4, none⟩))) (by kernel_rfl) rfl rfl (by decide +kernel) (by decide +kernel) (by decide +kernel) (fun _ _ _ h => h.elim) (.inl ⟨rfl, fun w' hS => ?_⟩) ⟨hL2, hB2, hX2⟩ ?_
          · go_simp
          try simp only [List.setIfInBounds_toArray, List.set_cons_zero, List.set_cons_succ]
          refine anyBut.takeW (i := 14) (t := 113) (v := (.bool t)) (by kernel_rfl) rfl rfl (by decide +kernel) (by decide +kernel) (by decide +kernel) (fun _ _ _ h => h.elim) (.inl ⟨rfl, fun w' hS => ?_⟩) ⟨hL2, hB2, hX2⟩ ?_
          · have z2 := hS.2.1.cell
            go_simp
          try simp only [List.setIfInBounds_toArray, List.set_cons_zero, List.set_cons_succ]
          refine anyBut.takeW (i := 15) (t := 114) (v := (.agg #[.string x.key, .string x.val, .bool x.dead])) (by kernel_rfl) rfl rfl (by decide +kernel) (by decide +kernel) (by decide +kernel) (fun _ _ _ h => h.elim) (.inl ⟨rfl, fun w' hS => ?_⟩) ⟨hL2, hB2, hX2⟩ ?_
          · have z3 := hS.2.2.cell
            go_simp
          try simp only [List.setIfInBounds_toArray, List.set_cons_zero, List.set_cons_succ]
          refine anyBut.takeW (i := 16) (t := 115) (v := (.agg #[.int .i64 (L.fin + (i : Nat)), .int .i64 p, .bool t, .string x.key, .string x.val, .bool x.dead])) (by kernel_rfl) rfl rfl (by decide +kernel) (by decide +kernel) (by decide +kernel) (fun _ _ _ h => h.elim) (.inl ⟨rfl, fun w' hS => ?_⟩) ⟨hL2, hB2, hX2⟩ ?_
          · go_simp
          try simp only [List.setIfInBounds_toArray, List.set_cons_zero, List.set_cons_succ]
          refine anyBut.one (i := 17) (by decide +kernel) rfl rfl ?_
          refine wp_oneR (.tmp 115) rfl (.int .i64 (L.fin + (i : Nat))) (.int .i64 p) (.bool t) (.string x.key) (.string x.val) (.bool x.dead) rfl (by simp [Value.oneCell']) 116 rfl ?_
          refine ⟨.inr ⟨hL2.alloc _, hB2.alloc _, hX2.alloc _⟩, ?_⟩
          try simp only [List.setIfInBounds_toArray, List.set_cons_zero, List.set_cons_succ]
          try simp only [List.setIfInBounds_toArray, List.set_cons_zero, List.set_cons_succ]
          refine anyBut.one (i := 18) (by decide +kernel) rfl rfl ?_
          obtain ⟨i0, hi1, hz0, hz1, hz2⟩ := info_parts info51
          have hrlo := hrl1.out
          refine wp_app1 (.tmp 103) (.tmp 116) 46 rfl n0 51 i0 _ 6 64 Try.underlying46 hi1 hz0 hz1 hz2 rfl (by omega) rA1 RL.length rc1 _ rfl (ownsRow_below h2.rows (bl_alloc (Below.refl _ _) _)) X.heap.size (rwL ⟨L.fin + i, p, t, x⟩) rfl rfl (fun j u hu => (Blk.new' (w := X) #[.int .i64 (L.fin + (i : Nat)), .int .i64 p, .bool t, .string x.key, .string x.val, .bool x.dead] 51 rfl).get hu) (rwL_one _) (by simp only [maxLen]; omega) (by omega) (by have := h2.low.2.2.2; simp; omega) 117 rfl ?_
          intro A4 c4 w4 hown4 hg4 hat4
          clear hrlo
          have hg4' : X.grownBy w4 (Value.slice rA1 RL.length rc1).ownBlock := gr_trg (gr_below (bl_alloc (Below.refl _ _) _) _) hg4
          have hnl : some lb ≠ (Value.slice rA1 RL.length rc1).ownBlock := fun e => (h2.ne_r (own_at h2.rows e.symm)).1 rfl
          have hnb : some w.heap.size ≠ (Value.slice rA1 RL.length rc1).ownBlock := fun e => (ownsRow_ty h2.rows e.symm).ne hT2 (by decide) rfl
          have hnx : some wr.heap.size ≠ (Value.slice rA1 RL.length rc1).ownBlock := fun e => (ownsRow_ty h2.rows e.symm).ne hXT (by decide) rfl
          have hL4 := hL2.grown hg4' hnl
          have hB4 := hB2.grown hg4' hnb
          have hX4 := hX2.grown hg4' hnx
          refine ⟨.inr ⟨hL4, hB4, hX4⟩, ?_⟩
          try simp only [List.setIfInBounds_toArray, List.set_cons_zero, List.set_cons_succ]
          refine anyBut.oneT (i := 19) (t := 118) (v := (.pointer (some ⟨lb, 0, none⟩))) (by decide +kernel) rfl rfl (.inl ⟨rfl, fun w' hS => ?_⟩) ⟨hL4, hB4, hX4⟩ ?_
          · go_simp
          try simp only [List.setIfInBounds_toArray, List.set_cons_zero, List.set_cons_succ]
          refine anyBut.oneT (i := 20) (t := 119) (v := (.pointer (some ⟨lb, 3, none⟩))) (by decide +kernel) rfl rfl (.inl ⟨rfl, fun w' hS => ?_⟩) ⟨hL4, hB4, hX4⟩ ?_
          · go_simp
          try simp only [List.setIfInBounds_toArray, List.set_cons_zero, List.set_cons_succ]
          refine anyBut.one (i := 21) (by decide +kernel) rfl rfl ?_
          have hn4 : RL.length + 1 = (RL ++ [(⟨L.fin + i, p, t, x⟩ : Rw)]).length := by simp
          refine wp_store_go 46 (.tmp 119) (.tmp 117) rfl rfl (b := lb) (k := 3) (v := .slice A4 (RL ++ [(⟨L.fin + i, p, t, x⟩ : Rw)]).length c4) rfl (by rw [← hn4]; rfl) rfl rfl (by kernel_rfl) ?_ ?_ ?_
          · rw [hL4.cell]; rfl
          · exact hL4.unf _
          refine ⟨.inl rfl, anyBut.done (by decide +kernel) ?_ _⟩
          refine NoPanic.normal ?_
          rw [show RL.flatMap rwL ++ rwL ⟨L.fin + i, p, t, x⟩ = (RL ++ [(⟨L.fin + i, p, t, x⟩ : Rw)]).flatMap rwL by simp, hn4] at hown4
          have hnew4 : A4 = rA1 ∨ ∀ g, A4 = some ⟨g, 0, none⟩ → X.heap.size ≤ g := hat4.imp id (fun e g e2 => by rw [e] at e2; cases e2; simp)
          have hm5 := h2.setR hg4' hown4
          have hfr5 := h2.frR hg4' hnew4 (.slice A4 (RL ++ [(⟨L.fin + i, p, t, x⟩ : Rw)]).length c4)
          have hP5 := putS_step h2 hf2 hB2 hT2 hR2 hm5 hfr5
          clear hn4 hat4 hnew4 hown4 hg4 hg4' hL4 hB4 hX4 hL2 hB2 hX2 hT2 hXT hR2 hf2 h2 hm5 hfr5 hnl hnb hnx hi1 hz0 hz1 hz2
          go_wp2_with fail
          refine ⟨⟨i + 1, by go_num, by omega, ?_⟩, by simp [intOf]; omega⟩
          rw [hRL2.out]
          rw [show (RL ++ [(⟨L.fin + i, p, t, x⟩ : Rw)]).length = RL.length + 1 by simp] at hP5
          exact hP5

        · obtain rfl : i = rs.length := by omega
          rw [show (rowsOf L.fin p t rs).take rs.length = rowsOf L.fin p t rs from List.take_of_length_le (by simp [rowsOf])] at h1
          clear hrl1
          have hll := lenB_le k hrsl
          have q1 := hB1.cell
          have m1 := hB1.lt
          go_wp2_with fail
          obtain ⟨R3, hR3⟩ : ∃ R3, R3 = L.rows ++ rowsOf L.fin p t rs := ⟨_, rfl⟩
          rw [← hR3] at h1
          replace hR3 := Lib.hid hR3
          refine anyBut.region rfl 9 (fun w' => Blk w' lb [.pointer (some ⟨tb, 0, none⟩), .int .i64 L.start, .int .i64 L.fin, .slice rA1 R3.length rc1, .slice oA1 (opn2 L k p t).length oc1, .slice gA1 (gone2 L k p).length gc1] ∧ Blk w' w.heap.size [.int .i64 k, .int .i64 p, .int .i64 ep, .int .i64 s, .bool t, .slice A rs.length c]) ?_
          obtain ⟨X, hX⟩ : ∃ X, wr.drew = X := ⟨_, rfl⟩
          rw [hX]
          have hbX : Below wr.heap.size wr X := hX ▸ (Below.refl _ _).drew
          have h2 := h1.below hbX
          have hB2 := hB1.below hbX m1
          have hf2 := hf1.tr (FrL.of_below hbX)
          have hL2 : Blk X lb [.pointer (some ⟨tb, 0, none⟩), .int .i64 L.start, .int .i64 L.fin, .slice rA1 R3.length rc1, .slice oA1 (opn2 L k p t).length oc1, .slice gA1 (gone2 L k p).length gc1] := h2.blk
          clear hX q1 h1 hB1 hT1 hR1 hf1 hbX
          have hwi : IntKind.i64.wrap (L.fin + lenB (isM k) rs.length) = L.fin + lenB (isM k) rs.length := IntWalk.i64_in _ (by omega)
          replace hwi := Lib.hid hwi
          try simp only [List.setIfInBounds_toArray, List.set_cons_zero, List.set_cons_succ]
          refine anyBut.takeW (i := 0) (t := 121) (v := (.pointer (some ⟨lb, 0, none⟩))) (by kernel_rfl) rfl rfl (by decide +kernel) (by decide +kernel) (by decide +kernel) (fun _ _ _ h => h.elim) (.inl ⟨rfl, fun w' hS => ?_⟩) ⟨hL2, hB2⟩ ?_
          · go_simp
          try simp only [List.setIfInBounds_toArray, List.set_cons_zero, List.set_cons_succ]
          refine anyBut.takeW (i := 1) (t := 122) (v := (.pointer (some ⟨lb, 0, none⟩))) (by kernel_rfl) rfl rfl (by decide +kernel) (by decide +kernel) (by decide +kernel) (fun _ _ _ h => h.elim) (.inl ⟨rfl, fun w' hS => ?_⟩) ⟨hL2, hB2⟩ ?_
          · go_simp
          try simp only [List.setIfInBounds_toArray, List.set_cons_zero, List.set_cons_succ]
          refine anyBut.takeW (i := 2) (t := 123) (v := (.pointer (some ⟨lb, 2, none⟩))) (by kernel_rfl) rfl rfl (by decide +kernel) (by decide +kernel) (by decide +kernel) (fun _ _ _ h => h.elim) (.inl ⟨rfl, fun w' hS => ?_⟩) ⟨hL2, hB2⟩ ?_
          · go_simp
          try simp only [List.setIfInBounds_toArray, List.set_cons_zero, List.set_cons_succ]
          refine anyBut.takeW (i := 3) (t := 124) (v := (.int .i64 L.fin)) (by kernel_rfl) rfl rfl (by decide +kernel) (by decide +kernel) (by decide +kernel) (fun _ _ _ h => h.elim) (.inl ⟨rfl, fun w' hS => ?_⟩) ⟨hL2, hB2⟩ ?_
          · have z1 := hS.1.cell
            go_simp
          try simp only [List.setIfInBounds_toArray, List.set_cons_zero, List.set_cons_succ]
          refine anyBut.takeW (i := 4) (t := 125) (v := (.agg #[.int .i64 k, .int .i64 p, .int .i64 ep, .int .i64 s, .bool t, .slice A rs.length c])) (by kernel_rfl) rfl rfl (by decide +kernel) (by decide +kernel) (by decide +kernel) (fun _ _ _ h => h.elim) (.inl ⟨rfl, fun w' hS => ?_⟩) ⟨hL2, hB2⟩ ?_
          · have z2 := hS.2.cell
            go_simp
          try simp only [List.setIfInBounds_toArray, List.set_cons_zero, List.set_cons_succ]
          refine anyBut.one (i := 5) (by decide +kernel) rfl rfl ?_
          refine wp_goCall1 30 (enters_of Try.func30 (by kernel_rfl) rfl) (.tmp 125) #[30] rfl 126 rfl ?_
          refine (len_any k p ep s t A rs.length c X).mono ?_
          rintro e w4 ⟨rfl, hb4⟩
          have h4 := h2.below hb4
          have hB4 := hB2.below hb4 hB2.lt
          have hL4 := hL2.below hb4 hL2.lt
          have hf4 := hf2.tr (FrL.of_below hb4)
          refine ⟨_, rfl, .inr ⟨hL4, hB4⟩, ?_⟩
          try simp only [List.setIfInBounds_toArray, List.set_cons_zero, List.set_cons_succ]
          refine anyBut.oneT (i := 6) (t := 127) (v := (.int .i64 (L.fin + (lenB (isM k) rs.length)))) (by decide +kernel) rfl rfl (.inl ⟨rfl, fun w' hS => ?_⟩) ⟨hL4, hB4⟩ ?_
          · have z9 := hwi.out
            go_simp
          try simp only [List.setIfInBounds_toArray, List.set_cons_zero, List.set_cons_succ]
          refine anyBut.oneT (i := 7) (t := 128) (v := (.pointer (some ⟨lb, 0, none⟩))) (by decide +kernel) rfl rfl (.inl ⟨rfl, fun w' hS => ?_⟩) ⟨hL4, hB4⟩ ?_
          · go_simp
          try simp only [List.setIfInBounds_toArray, List.set_cons_zero, List.set_cons_succ]
          refine anyBut.oneT (i := 8) (t := 129) (v := (.pointer (some ⟨lb, 2, none⟩))) (by decide +kernel) rfl rfl (.inl ⟨rfl, fun w' hS => ?_⟩) ⟨hL4, hB4⟩ ?_
          · go_simp
          try simp only [List.setIfInBounds_toArray, List.set_cons_zero, List.set_cons_succ]
          refine anyBut.one (i := 9) (by decide +kernel) rfl rfl ?_
          refine wp_store_go 3 (.tmp 129) (.tmp 127) rfl rfl (b := lb) (k := 2) (v := .int .i64 (L.fin + lenB (isM k) rs.length)) rfl rfl rfl rfl (by kernel_rfl) ?_ ?_ ?_
          · rw [hL4.cell]; rfl
          · exact hL4.unf _
          refine ⟨.inl rfl, anyBut.done (by decide +kernel) ?_ _⟩
          refine NoPanic.normal ?_
          have hm5 := h4.setN 2 (.int .i64 (L.fin + lenB (isM k) rs.length)) (s := L.start) (f := L.fin + lenB (isM k) rs.length) rfl
          have hf5 := hf4.tr (FrL.of_set (lb := lb) (mb := mb) (rA := rA1) (oA := oA1) (gA := gA1) 2 (.int .i64 (L.fin + lenB (isM k) rs.length)))
          go_wp2_with fail
          go_end0
          refine ⟨rfl, rA1, rc1, oA1, oc1, gA1, gc1, ?_, hf5⟩
          have e : L.put ⟨k, p, ep, s, t, rs⟩ = ⟨L.start, L.fin + lenB (isM k) rs.length, R3, opn2 L k p t, gone2 L k p, M⟩ := by rw [hR3.out, hM.out]; rfl
          rw [e]
          exact hm5
end
end Go.Proofs.Ytejjiiakficafaa
