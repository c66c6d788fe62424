/- A law's step (21) over a pair of disks. -/
import Derived.Test.YteaenhmiomoocaaRp
import Derived.Deep.CutBlock
import Derived.BigQuiet
namespace Go.Proofs.Yteaenhmiomoocaa
open Go.RowKit Go.Shelf
attribute [local go_sem] Oper.semAt_some

section
variable {P : Program} {o : Oper} {a : Act} {w : World} {K : Act → World → Prop} {Q : Exit → Act → World → Prop}
theorem wp_goCall2 (f : FuncId) (hf : Enters P f) (x y : Operand) (ts : Array TypeId) (ho : o.op = .call { callee := .value (.func f), args := #[x, y], argTypes := ts }) (dt : Nat) (hd : o.dst = some dt)
    (h : Calls P f #[a.eval x, a.eval y] w fun e w' => ∃ v, e = .returned v ∧ K { a with tmps := a.tmps.setIfInBounds dt v } w') : o.wp P a w K Q := by
  unfold Oper.wp execOp
  simp only [ho, resolve, invoke, Sem.run_bind, Deferred.ofValue, Act.eval]
  simp [Result.andThen, hf _ _, Oper.upon_enter]
  refine h.mono ?_
  rintro e w' ⟨v, rfl, hk⟩
  simp only [hd, Act.put]
  exact hk
theorem wp_goCall3 (f : FuncId) (hf : Enters P f) (x y z : Operand) (ts : Array TypeId) (ho : o.op = .call { callee := .value (.func f), args := #[x, y, z], argTypes := ts }) (dt : Nat) (hd : o.dst = some dt)
    (h : Calls P f #[a.eval x, a.eval y, a.eval z] w fun e w' => ∃ v, e = .returned v ∧ K { a with tmps := a.tmps.setIfInBounds dt v } w') : o.wp P a w K Q := by
  unfold Oper.wp execOp
  simp only [ho, resolve, invoke, Sem.run_bind, Deferred.ofValue, Act.eval]
  simp [Result.andThen, hf _ _, Oper.upon_enter]
  refine h.mono ?_
  rintro e w' ⟨v, rfl, hk⟩
  simp only [hd, Act.put]
  exact hk
end

def opC (o : OpD) (A : Option Addr) (c : Nat) (A' : Option Addr) (c' : Nat) : List Value := [.int .i64 o.k, .int .i64 o.i, .int .i64 o.n, .slice A o.b.length c, .int .u8 (o.f.toNat : Int), .slice A' o.l.length c']

theorem cutD_ok {d : Dsk} {N : Nat} {n : Int} (h : d.Ok N) (hn : okI n) : (cutD d n).Ok N := by
  unfold okI at hn
  have := h.fuse
  unfold cutD
  split
  · exact h
  · exact ⟨h.len, h.tx, h.vs, by dsimp only; omega⟩
theorem vs_le {d : Dsk} {N : Nat} (hO : d.Ok N) (hs : d.vs.Pairwise fun p q => p.1 < q.1) : d.vs.length ≤ 4096 := by
  have := dirtyN_le d d.ts.length
  rw [dirtyN_all hO hs] at this
  have := hO.len
  omega
theorem bl_mono {n n' : Nat} {w w' : World} (h : Below n w w') (hle : n' ≤ n) : Below n' w w' := ⟨h.os, h.tape, h.output, h.size, fun b hb => h.block b (by omega)⟩
theorem NumsAt.low {w w' : World} {A : Option Addr} {l : List Int} {z : Nat} (h : NumsAt w A l) (hz : l ≠ [] → ∀ b x, A = some ⟨b, x, none⟩ → b < z) (hb : Below z w w') : NumsAt w' A l := fun i hi => by
  obtain ⟨b, o, hA, hlt, hc, hk⟩ := h i hi
  exact ⟨b, o, hA, Nat.lt_of_lt_of_le hlt hb.size, (hb.cell (p := ⟨b, o + i, none⟩) (hz (by rintro rfl; simp at hi) b o hA)).trans hc, hk⟩
theorem NumsAt.src {w : World} {A : Option Addr} {l : List Int} (h : NumsAt w A l) : SrcAt w A l.length 1 (l.map (Value.int .i64)) := by
  refine ⟨by simp, fun hm => ?_⟩
  obtain ⟨b, o, hA, _⟩ := h 0 (by omega)
  refine ⟨_, hA, fun j u hu => ?_⟩
  rw [List.getElem?_map] at hu
  obtain ⟨x, hx, rfl⟩ := Option.map_eq_some_iff.1 hu
  obtain ⟨hj, rfl⟩ := List.getElem?_eq_some_iff.1 hx
  obtain ⟨b', o', hA', _, hc, _⟩ := h j hj
  rw [hA] at hA'
  injection hA' with e
  injection e with e1 e2 e3
  subst e1 e2
  rw [Addr.add_mid]
  exact hc
theorem ints_own {w : World} {base h : Nat} {us : List (Int × Value)} {A : Option Addr} {n c : Nat} {l : List Int} (hr : w.ownsRow base 3 1 (.slice A n c) n (l.map (Value.int .i64))) (hh : h + 3 < base) (hu : ∀ i v q, lookI us i = some v → v.ownBlock = some q → q < base) (hok : ∀ i (hi : i < l.length), okI l[i]) : IntsAt w A l h us := fun i hi => by
  have hn : n = l.length := by have := hr.1; simpa using this.symm
  have hb := fun g e => ownsRow_base hr (g := g) e
  obtain ⟨A2, c2, e, htl⟩ := ownsRow_tells hr
  cases e
  obtain ⟨g, rfl, _, hg, hc⟩ := htl (by omega)
  have := hb g rfl
  exact ⟨g, 0, rfl, hg, .inr (by omega), fun j v hv e => by have := hu j v g hv e; omega, by rw [Nat.zero_add]; exact hc i _ (by simp [hi]), hok i hi⟩
section
variable {F : Nat → Prop} {w w' : World} {z h nb : Nat} {us : List (Int × Value)} {d1 d2 : Dsk} {n0 rb g c : Nat} {bs : List Bk} {q : Nat}
/-- A new block, lent to the program. -/
theorem Pr.lend (p : Pr F w z h nb us d1 n0 rb g c bs d2) (hb : Below w.heap.size w w') (hq : w.heap.size ≤ q) (hq' : q < w'.heap.size) : Pr (fun b => F b ∨ b = q) w' z h nb us d1 n0 rb g c bs d2 :=
  ⟨p.D.below hb, (p.R.bar (F' := fun b => F b ∨ b = q) (fun b h => by
    rcases h with h | rfl
    · exact .inl h
    · exact .inr hq)).below hb, p.z, p.hr, p.rn, fun b h1 h2 => .inl (p.bar b h1 h2), fun b h => by
    rcases h with h | rfl
    · exact Nat.lt_of_lt_of_le (p.fz b h) hb.size
    · exact hq'⟩
theorem Pr.unlend (p : Pr (fun b => F b ∨ b = q) w z h nb us d1 n0 rb g c bs d2) (hb : ∀ b, h ≤ b → b ≤ h + 3 → F b) : Pr F w z h nb us d1 n0 rb g c bs d2 :=
  ⟨p.D, p.R.bar (fun b h => .inl (.inl h)), p.z, p.hr, p.rn, hb, fun b h => p.fz b (.inl h)⟩
theorem Pr.poke (p : Pr F w z h nb us d1 n0 rb g c bs d2) {j : Nat} {v : Value} (hF : F q) (hn : ¬ PrB h us rb g bs q) : Pr F (w.setCell ⟨q, j, none⟩ v) z h nb us d1 n0 rb g c bs d2 :=
  p.keep (by simp [World.setCell]) fun b hb => Below.heap_setCell _ _ _ _ (by
    rintro rfl
    rcases hb with hb | hb
    · exact hn hb
    · exact hb.2 hF)
theorem FrP.poke {P P' : Nat → Prop} (a : FrP w w' P P') {j : Nat} {v : Value} (hq : w.heap.size ≤ q) : FrP w (w'.setCell ⟨q, j, none⟩ v) P P' :=
  ⟨a.os, a.tape, a.output, by simpa [World.setCell] using a.size, fun b hb hn => (Below.heap_setCell _ _ _ _ (by dsimp only; omega)).trans (a.block b hb hn), a.sub⟩
end
theorem readT_le {d : Dsk} {N : Nat} (h : d.Ok N) (i : Int) : (readT d i).length ≤ 256 := by
  unfold readT readD
  split
  · simp
  · rename_i hc
    split
    · simp
    · cases hv : lookI d.vs i with
      | some l =>
        obtain ⟨_, _, hne, _, h256⟩ := h.vs i l hv
        have := h256 _ (lastT_mem hne)
        simp; omega
      | none =>
        dsimp only
        split
        · simp
        · have hi : i.toNat < d.ts.length := by omega
          have := h.tx d.ts[i.toNat] (List.getElem_mem hi)
          simp [hi]; omega
theorem TextAt.low {w w' : World} {A : Option Addr} {n c z : Nat} {t : Tx} (h : TextAt w (.slice A n c) t) (hz : t ≠ [] → ∀ b x, A = some ⟨b, x, none⟩ → b < z) (hb : Below z w w') : TextAt w' (.slice A n c) t := by
  by_cases h0 : t = []
  · obtain ⟨A2, c2, e⟩ := h.slice
    subst h0
    cases e
    exact .inl ⟨rfl, _, _, rfl⟩
  rcases h with h | ⟨b, o, c', e, hl, hr⟩
  · exact .inl h
  · cases e
    have hbz := hz h0 b o rfl
    exact .inr ⟨b, o, _, rfl, Nat.lt_of_lt_of_le hl hb.size, fun j x hx => (World.cell?_of_block (w := w) (a := ⟨b, o + j, none⟩) (hb.block b hbz)).trans (hr j x hx)⟩
theorem okUp {d : Dsk} {N : Nat} (h : d.Ok N) : d.Ok (N + 1) := ⟨h.len, h.tx, fun j l hl => by obtain ⟨a, b, c, e, f⟩ := h.vs j l hl; exact ⟨a, b, c, by omega, f⟩, h.fuse⟩

set_option maxRecDepth 100000 in
set_option maxHeartbeats 4000000 in
theorem step_any {F : Nat → Prop} (w : World) (z h nb : Nat) (us : List (Int × Value)) (d : Dsk) (n0 rb g c : Nat) (bs : List Bk) (N : Nat) (p : Pr F w z h nb us d n0 rb g c bs d) (hO : d.Ok N) (hN : N + 1 < 549755813888) (hnb : nb + 4097 < 17592186044416)
    (o : OpD) (A : Option Addr) (co : Nat) (A' : Option Addr) (co' : Nat) (hk : okI o.k ∧ okI o.i ∧ okI o.n) (hT : TextAt w (.slice A o.b.length co) o.b) (hAz : o.b ≠ [] → ∀ b x, A = some ⟨b, x, none⟩ → b < z) (hbl : o.b.length ≤ 140737488351232)
    (hI : NumsAt w A' o.l) (hAz' : o.l ≠ [] → ∀ b x, A' = some ⟨b, x, none⟩ → b < z) (hll : o.l.length ≤ 17592186043904) :
    Calls Try.prog 21 #[.pointer (some ⟨h + 3, 0, none⟩), .pointer (some ⟨rb, 0, none⟩), opV o A co A' co'] w fun e w' => e = .returned (.bool true) ∧ ∃ nb' us' bs' d', nb' ≤ nb + 4097 ∧ Pr F w' z h nb' us' d' n0 rb g c bs' d' ∧ d'.Ok (N + 1) ∧ FrP w w' (PrB h us rb g bs) (PrB h us' rb g bs') := by
  have hbx : ¬ PrB h us rb g bs w.heap.size := fun hh => by have := (p.ge hh).2; omega
  have hC0 : Blk (w.alloc (.cells (opC o A co A' co').toArray 32)) w.heap.size (opC o A co A' co') := Blk.new' _ _ rfl
  have hB0 := bl_alloc (Below.refl w.heap.size w) (.cells (opC o A co A' co').toArray 32)
  have p0 := p.below hB0
  have hT0 := hT.below hB0
  have hz0 : z ≤ w.heap.size := by have := p.z; have := p.D.lt; omega
  unfold opV
  go_enter Try.func21, Try.ntmps21
  go_upto_block 0 with fail
  have e0 : (w.alloc (.cells #[.int .i64 o.k, .int .i64 o.i, .int .i64 o.n, .slice A o.b.length co, .int .u8 (o.f.toNat : Int), .slice A' o.l.length co'] 32)) = (w.alloc (.cells (opC o A co A' co').toArray 32)) := rfl
  rw [e0]
  have hsz : (w.alloc (.cells (opC o A co A' co').toArray 32)).heap.size = w.heap.size + 1 := by simp
  generalize hW : w.alloc (.cells (opC o A co A' co').toArray 32) = W at *
  replace hW := Lib.hid hW
  have hzW : z ≤ W.heap.size := by omega
  replace hsz := Lib.hid hsz
  clear e0
  go_cut [] from 7 to 123 (fun wx => ∃ nb' us' bs' d', nb' ≤ nb + 4097 ∧ Pr F wx z h nb' us' d' n0 rb g c bs' d' ∧ d'.Ok (N + 1) ∧ FrP W wx (PrB h us rb g bs) (PrB h us' rb g bs'))
  case first =>
    have q0 := hC0.cell
    have l0 : w.heap.size < W.heap.size := hC0.lt
    have hO' := okUp hO
    have hsrt := p.D.sorted
    obtain ⟨ok, oi, on, ob, of, ol⟩ := o
    dsimp only at *
    unfold opC at q0 hC0
    have hC := Lib.hid (fun (wx : World) (us' : List (Int × Value)) (bs' : List Bk) (fr : FrP W wx (PrB h us rb g bs) (PrB h us' rb g bs')) => hC0.of_heap (fr.block _ l0 hbx))
    by_cases k0 : ok = 0
    · subst k0
      obtain ⟨t, ht⟩ : ∃ t, opT ⟨0, oi, on, ob, of, ol⟩ = t := ⟨_, rfl⟩
      have htl : t.length ≤ 140737488351232 := by
        rw [← ht]
        unfold opT
        split
        · rw [fullT_length]; omega
        · exact hbl
      have htx := fun wx hx => text_any wx ⟨0, oi, on, ob, of, ol⟩ A co A' co' hx
      rw [ht] at htx
      clear ht
      unfold opV at htx
      dsimp only at htx
      go_wp2_with (first | (go_at_call 30; refine (htx _ hT0).mono ?_; rintro e w1 ⟨A1, c1, rfl, T1, b1, _⟩) | (go_at_call 29; refine (lent_any w1 A1 t.length c1 t T1 (by omega)).mono ?_; rintro e w2 ⟨b2, q, cap, rfl, hcap, hq, own2⟩))
      have hWq : W.heap.size ≤ q := by have := b1.size; omega
      have hqW : ¬ PrB h us rb g bs q := fun hh => by have := (p0.ge hh).2; omega
      have tyq : TyAt w2 q 5 := ownsRow_ty own2 rfl
      obtain ⟨X, hXe⟩ : ∃ X, w2.drew = X := ⟨_, rfl⟩
      have pX : Pr (fun b => F b ∨ b = q) X z h nb us d n0 rb g c bs d := by rw [← hXe]; exact (p0.lend (bl_tr b1 b2) hWq tyq.lt).below (bl_drew (Below.refl _ _))
      have ownX : X.ownsRow w1.heap.size 5 1 (.slice (some ⟨q, 0, none⟩) (t.length + 2) cap) (t.length + 2) (tC (t ++ [201, 202])) := by rw [← hXe]; exact ownsRow_below own2 (bl_drew (Below.refl _ _))
      have gX : FrP W X (PrB h us rb g bs) (PrB h us rb g bs) := by rw [← hXe]; exact ((FrP.of_below b1 _).trans (FrP.of_below b2 _)).trans (FrP.of_below (bl_drew (Below.refl _ _)) _)
      have hqX : q < X.heap.size := (ownsRow_ty ownX (g := q) rfl).lt
      have hrq : X.rangeAt q 0 (tC t) := fun j x hx => by
        obtain ⟨A2, c2, e, htl⟩ := ownsRow_tells ownX
        cases e
        obtain ⟨g2, e, _, _, hc⟩ := htl (by omega)
        cases e
        rw [Nat.zero_add]
        refine hc j x ?_
        rw [show tC (t ++ [201, 202]) = tC t ++ tC [201, 202] from by simp [tC], List.getElem?_append_left (List.getElem?_eq_some_iff.1 hx).1]
        exact hx
      have hhq : h + 3 < q := by have := p0.D.lt; omega
      have hSX := hC.out X us bs gX
      have hTz := Lib.hid (fun (wx : World) (us' : List (Int × Value)) (bs' : List Bk) (fr : FrP W wx (PrB h us rb g bs) (PrB h us' rb g bs')) => hT0.low hAz (fr.below hzW (fun b hb => (p0.ge hb).1)))
      replace htx := Lib.hid htx
      clear own2 tyq T1
      refine wpAnyH.region rfl (fun w' => Blk w' w.heap.size [.int .i64 0, .int .i64 oi, .int .i64 on, .slice A ob.length co, .int .u8 (of.toNat : Int), .slice A' ol.length co']) ?_
      rw [hXe]
      clear hXe
      try simp only [List.setIfInBounds_toArray, List.set_cons_zero, List.set_cons_succ]
      refine wpAnyH.takeT (i := 0) (t := 60) (v := (.pointer (some ⟨h + 3, 0, none⟩))) rfl rfl (by decide +kernel) (by decide +kernel) (by decide +kernel) (fun _ _ _ h => h.elim) (.inl ⟨rfl, fun w' hS => ?_⟩) hSX ?_
      · go_simp
      try simp only [List.setIfInBounds_toArray, List.set_cons_zero, List.set_cons_succ]
      refine wpAnyH.takeT (i := 1) (t := 61) (v := (.pointer (some ⟨w.heap.size, 1, none⟩))) rfl rfl (by decide +kernel) (by decide +kernel) (by decide +kernel) (fun _ _ _ h => h.elim) (.inl ⟨rfl, fun w' hS => ?_⟩) hSX ?_
      · go_simp
      try simp only [List.setIfInBounds_toArray, List.set_cons_zero, List.set_cons_succ]
      refine wpAnyH.takeT (i := 2) (t := 62) (v := (.int .i64 oi)) rfl rfl (by decide +kernel) (by decide +kernel) (by decide +kernel) (fun _ _ _ h => h.elim) (.inl ⟨rfl, fun w' hS => ?_⟩) hSX ?_
      · have z1 := hS.get (j := 1) rfl
        go_simp
      try simp only [List.setIfInBounds_toArray, List.set_cons_zero, List.set_cons_succ]
      refine wpAnyH.takeT (i := 3) (t := 63) (v := (.slice (some ⟨q, 0, none⟩) t.length cap)) rfl rfl (by decide +kernel) (by decide +kernel) (by decide +kernel) (fun _ _ _ h => h.elim) (.inl ⟨rfl, fun w' hS => ?_⟩) hSX ?_
      · go_simp
      try simp only [List.setIfInBounds_toArray, List.set_cons_zero, List.set_cons_succ]
      refine wpAnyH.takeT (i := 6) (t := 66) (v := (.pointer (some ⟨rb, 0, none⟩))) rfl rfl (by decide +kernel) (by decide +kernel) (by decide +kernel) (fun _ _ _ h => h.elim) (.inl ⟨rfl, fun w' hS => ?_⟩) hSX ?_
      · go_simp
      try simp only [List.setIfInBounds_toArray, List.set_cons_zero, List.set_cons_succ]
      refine wpAnyH.takeT (i := 7) (t := 67) (v := (.pointer (some ⟨w.heap.size, 1, none⟩))) rfl rfl (by decide +kernel) (by decide +kernel) (by decide +kernel) (fun _ _ _ h => h.elim) (.inl ⟨rfl, fun w' hS => ?_⟩) hSX ?_
      · go_simp
      try simp only [List.setIfInBounds_toArray, List.set_cons_zero, List.set_cons_succ]
      refine wpAnyH.takeT (i := 8) (t := 68) (v := (.int .i64 oi)) rfl rfl (by decide +kernel) (by decide +kernel) (by decide +kernel) (fun _ _ _ h => h.elim) (.inl ⟨rfl, fun w' hS => ?_⟩) hSX ?_
      · have z1 := hS.get (j := 1) rfl
        go_simp
      try simp only [List.setIfInBounds_toArray, List.set_cons_zero, List.set_cons_succ]
      refine wpAnyH.takeT (i := 9) (t := 69) (v := (.agg #[.int .i64 0, .int .i64 oi, .int .i64 on, .slice A ob.length co, .int .u8 (of.toNat : Int), .slice A' ol.length co'])) rfl rfl (by decide +kernel) (by decide +kernel) (by decide +kernel) (fun _ _ _ h => h.elim) (.inl ⟨rfl, fun w' hS => ?_⟩) hSX ?_
      · have z0 := hS.get (j := 0) rfl
        have z1 := hS.get (j := 1) rfl
        have z2 := hS.get (j := 2) rfl
        have z3 := hS.get (j := 3) rfl
        have z4 := hS.get (j := 4) rfl
        have z5 := hS.get (j := 5) rfl
        go_simp
      try simp only [List.setIfInBounds_toArray, List.set_cons_zero, List.set_cons_succ]
      refine wpAnyH.one (i := 4) (by decide +kernel) rfl rfl ?_
      refine wp_goCall3 13 (enters_of Try.func13 (by kernel_rfl) rfl) (.tmp 60) (.tmp 62) (.tmp 63) #[24, 3, 30] rfl 64 rfl ?_
      refine (write_any h nb us d oi t (some ⟨q, 0, none⟩) cap N X pX.D hO (by omega) (by simp only [maxLen]; omega) (fun _ => ⟨q, 0, rfl, hqX, hrq, .inr hhq, fun i v h1 h2 => hqW (.inr (.inl ⟨i, v, h1, h2⟩))⟩) hk.2.1).mono ?_
      rintro e w3 ⟨rfl, us3, D3, f3⟩
      have g3 := gX.trans (FrP.ofD f3 rb g bs)
      have p3 := pX.keepR f3 D3
      refine ⟨_, rfl, hC.out w3 us3 bs g3, ?_⟩
      try simp only [List.setIfInBounds_toArray, List.set_cons_zero, List.set_cons_succ]
      refine wpAnyH.one (i := 5) (by decide +kernel) rfl rfl ?_
      refine wp_goCall1 10 (enters_of Try.func10 (by kernel_rfl) rfl) (.tmp 64) #[25] rfl 65 rfl ?_
      refine (num_any _ _).mono ?_
      rintro e w3' ⟨rfl, rfl⟩
      refine ⟨_, rfl, hC.out w3 us3 bs g3, ?_⟩
      try simp only [List.setIfInBounds_toArray, List.set_cons_zero, List.set_cons_succ]
      refine wpAnyH.one (i := 10) (by decide +kernel) rfl rfl ?_
      refine wp_goCall1 30 (enters_of Try.func30 (by kernel_rfl) rfl) (.tmp 69) #[32] rfl 70 rfl ?_
      refine (htx.out w3 (hTz.out w3 us3 bs g3)).mono ?_
      rintro e w4 ⟨A4, c4, rfl, T4, b4, hA4⟩
      have g4 := g3.trans (FrP.of_below b4 _)
      have p4 := p3.below b4
      have hnA : ∀ b x, A4 = some ⟨b, x, none⟩ → ¬ PrB h us3 rb g bs b := fun b x e hh => by
        have hge := p3.ge hh
        rcases hA4 with ⟨h0, h1⟩ | ⟨q', h1, h2⟩
        · have := hAz h0 b x (h1 ▸ e)
          omega
        · rw [h2] at e
          cases e
          omega
      have hn4 : n0 ≤ w4.heap.size := by have h1 := p4.R.gl; have h2 := h1.2.lt; have h3 := h1.1; omega
      refine ⟨_, rfl, hC.out w4 us3 bs g4, ?_⟩
      try simp only [List.setIfInBounds_toArray, List.set_cons_zero, List.set_cons_succ]
      refine wpAnyH.one (i := 11) (by decide +kernel) rfl rfl ?_
      refine wp_goCall3 31 (enters_of Try.func31 (by kernel_rfl) rfl) (.tmp 66) (.tmp 68) (.tmp 70) #[47, 3, 30] rfl 71 rfl ?_
      refine (rwrite_any w4 n0 rb g c bs d N oi A4 t.length c4 t p4.R p4.rn hn4 hO (by omega) hk.2.1 T4 (fun b x e => ⟨fun e2 => hnA b x e (.inr (.inr (.inl e2))), fun y hy e2 => hnA b x e (.inr (.inr (.inr (.inr ⟨y, hy, e2⟩))))⟩) (by omega) p4.fz).mono ?_
      rintro e w5 ⟨rfl, bs5, R5, f5⟩
      have g5 := g4.trans (FrP.ofB f5 h us3)
      have p5 := p4.keepD f5 R5
      have hS5 := hC.out w5 us3 bs5 g5
      refine ⟨_, rfl, hS5, ?_⟩
      try simp only [List.setIfInBounds_toArray, List.set_cons_zero, List.set_cons_succ]
      refine wpAnyH.takeT (i := 12) (t := 72) (v := (.bool false)) rfl rfl (by decide +kernel) (by decide +kernel) (by decide +kernel) (fun _ _ _ h => h.elim) (.inl ⟨rfl, fun w' hS => ?_⟩) hS5 ?_
      · go_simp
      try simp only [List.setIfInBounds_toArray, List.set_cons_zero, List.set_cons_succ]
      refine wpAnyH.takeT (i := 13) (t := 73) (v := (.bool false)) rfl rfl (by decide +kernel) (by decide +kernel) (by decide +kernel) (fun _ _ _ h => h.elim) (.inl ⟨rfl, fun w' hS => ?_⟩) hS5 ?_
      · go_simp
      try simp only [List.setIfInBounds_toArray, List.set_cons_zero, List.set_cons_succ]
      refine wpAnyH.takeT (i := 14) (t := 74) (v := (.slice (some ⟨q, 0, none⟩) t.length cap)) rfl rfl (by decide +kernel) (by decide +kernel) (by decide +kernel) (fun _ _ _ h => h.elim) (.inl ⟨rfl, fun w' hS => ?_⟩) hS5 ?_
      · go_simp
      try simp only [List.setIfInBounds_toArray, List.set_cons_zero, List.set_cons_succ]
      refine wpAnyH.takeT (i := 15) (t := 75) (v := (.agg #[.int .i64 0, .int .i64 oi, .int .i64 on, .slice A ob.length co, .int .u8 (of.toNat : Int), .slice A' ol.length co'])) rfl rfl (by decide +kernel) (by decide +kernel) (by decide +kernel) (fun _ _ _ h => h.elim) (.inl ⟨rfl, fun w' hS => ?_⟩) hS5 ?_
      · have z0 := hS.get (j := 0) rfl
        have z1 := hS.get (j := 1) rfl
        have z2 := hS.get (j := 2) rfl
        have z3 := hS.get (j := 3) rfl
        have z4 := hS.get (j := 4) rfl
        have z5 := hS.get (j := 5) rfl
        go_simp
      try simp only [List.setIfInBounds_toArray, List.set_cons_zero, List.set_cons_succ]
      refine wpAnyH.one (i := 16) (by decide +kernel) rfl rfl ?_
      refine wp_goCall1 30 (enters_of Try.func30 (by kernel_rfl) rfl) (.tmp 75) #[32] rfl 76 rfl ?_
      refine (htx.out w5 (hTz.out w5 us3 bs5 g5)).mono ?_
      rintro e w6 ⟨A6, c6, rfl, T6, b6, _⟩
      have g6 := g5.trans (FrP.of_below b6 _)
      have G := (((FrP.ofD f3 rb g bs).trans (FrP.of_below b4 _)).trans (FrP.ofB f5 h us3)).trans (FrP.of_below b6 _)
      have own6 : w6.ownsRow w1.heap.size 5 1 (.slice (some ⟨q, 0, none⟩) (t.length + 2) cap) (t.length + 2) (tC (t ++ [201, 202])) := ownsRow_keep ownX fun q' e => by
        simp [Value.ownBlock] at e
        subst e
        exact G.block q hqX hqW
      have hq6 : ¬ PrB h us3 rb g bs5 q := fun hh => by
        rcases G.sub q hh with h1 | h1
        · exact hqW h1
        · omega
      refine ⟨_, rfl, hC.out w6 us3 bs5 g6, ?_⟩
      try simp only [List.setIfInBounds_toArray, List.set_cons_zero, List.set_cons_succ]
      refine wpAnyH.one (i := 17) (by decide +kernel) rfl rfl ?_
      refine wp_goCall2 32 (enters_of Try.func32 (by kernel_rfl) rfl) (.tmp 74) (.tmp 76) #[30, 30] rfl 77 rfl ?_
      refine (stays_any w6 w1.heap.size q t.length cap A6 c6 t own6 hcap T6 (by omega)).mono ?_
      rintro e w7 ⟨rfl, b7⟩
      have g7 := g6.trans (FrP.of_below b7 _)
      have p7 := (p5.below b6).below b7
      have own7 := ownsRow_below own6 b7
      have hS7 := hC.out w7 us3 bs5 g7
      refine ⟨_, rfl, hS7, ?_⟩
      try simp only [List.setIfInBounds_toArray, List.set_cons_zero, List.set_cons_succ]
      refine wpAnyH.takeT (i := 18) (t := 78) (v := (.bool false)) rfl rfl (by decide +kernel) (by decide +kernel) (by decide +kernel) (fun _ _ _ h => h.elim) (.inl ⟨rfl, fun w' hS => ?_⟩) hS7 ?_
      · go_simp
      try simp only [List.setIfInBounds_toArray, List.set_cons_zero, List.set_cons_succ]
      refine wpAnyH.takeT (i := 19) (t := 79) (v := (.bool false)) rfl rfl (by decide +kernel) (by decide +kernel) (by decide +kernel) (fun _ _ _ h => h.elim) (.inl ⟨rfl, fun w' hS => ?_⟩) hS7 ?_
      · go_simp
      try simp only [List.setIfInBounds_toArray, List.set_cons_zero, List.set_cons_succ]
      refine wpAnyH_done (by decide +kernel) ?_ _
      refine NoPanic.normal ?_
      clear hSX hS5 hS7 own6 ownX p3 p4 p5 pX R5 D3 f3 f5 G g3 g4 g5 g6 T4 T6 hnA hrq htx hTz q0 hC0 hT0 hT
      go_wp2_with fail
      go_loopw [8] (fun v wr => ∃ (i : Nat) (L : List Int), v = .int .i64 i ∧ i ≤ t.length ∧ Hid (L.length = t.length + 2) ∧ wr.ownsRow w1.heap.size 5 1 (.slice (some ⟨q, 0, none⟩) (t.length + 2) cap) (t.length + 2) (L.map (Value.int .u8)) ∧ Pr (fun b => F b ∨ b = q) wr z h (nb + 1) us3 (writeD d oi t).2 n0 rb g c bs5 (writeD d oi t).2 ∧ FrP W wr (PrB h us rb g bs) (PrB h us3 rb g bs5)) (fun v _ => t.length - (intOf v).toNat)
      case atStart => exact ⟨0, (t ++ [201, 202] : Tx).map (fun b : UInt8 => (b.toNat : Int)), rfl, Nat.zero_le _, Lib.hid (by simp), by rw [List.map_map]; exact own7, p7, g7⟩
      case round =>
        obtain ⟨i, L, rfl, hi, hL, hown, pi, gi⟩ := hrel
        have hi0 : (0 : Int) ≤ (i : Int) := by omega
        by_cases hlt : i < t.length
        · obtain ⟨x, hx⟩ : ∃ x, L[i]? = some x := ⟨_, List.getElem?_eq_getElem (by rw [hL.out]; omega)⟩
          obtain ⟨A2, c2, e, htl2⟩ := ownsRow_tells hown
          cases e
          obtain ⟨g2, e, _, hlq, hc⟩ := htl2 (by omega)
          cases e
          have qc := hc i (.int .u8 x) (by simp [hx])
          have qu := ownsRow_unf hown
          clear hc htl2
          go_wp2_with fail
          go_roundw
          case rel => exact ⟨i + 1, L.set i (IntKind.u8.wrap (x + 1)), by go_num, by omega, Lib.hid (by simp [hL.out]), by rw [List.map_set]; exact ownsRow_set hown i _, pi.poke (.inr rfl) hq6, gi.poke hWq⟩
          case measure => simp [intOf]; omega
        · obtain rfl : i = t.length := by omega
          go_wp2_with fail
          go_meet
          exact ⟨nb + 1, us3, bs5, _, by omega, pi.unlend p.bar, writeD_ok hO, gi⟩
    · by_cases k1 : ok = 1
      · subst k1
        have hsy := sync_any h nb us d N W p0.D hO (by omega)
        go_wp2_with (first | (go_at_call 12; refine hsy.mono ?_; rintro e w1 ⟨rfl, us1, D1, f1⟩; have p1 := p0.keepR f1 D1) | (go_at_call 10; refine (num_any _ _).mono ?_; rintro e w2 ⟨rfl, rfl⟩) | (go_at_call 33; refine (rsync_any w1 n0 rb g c bs d N p1.R p1.rn hO (by omega)).mono ?_; rintro e w3 ⟨rfl, bs3, R3, f3⟩; have p3 := p1.keepD f3 R3))
        go_meet
        exact ⟨nb, us1, bs3, _, by omega, p3, okUp (syncD_ok hO), (FrP.ofD f1 rb g bs).trans (FrP.ofB f3 h us1)⟩
      · by_cases k2 : ok = 2
        · subst k2
          have hcu := cut_any h nb us d on W p0.D hO.len.1 hk.2.2
          go_wp2_with (first | (go_at_call 17; refine hcu.mono ?_; rintro e w1 ⟨rfl, D1, f1⟩; have p1 := p0.keepR f1 D1; have q1 := (hC.out _ _ _ (FrP.ofD f1 rb g bs)).cell) | (go_at_call 34; refine (rcut_any w1 n0 rb g c bs d on p1.R p1.rn hk.2.2).mono ?_; rintro e w3 ⟨rfl, R3, g3⟩; have p3 := p1.keepD (FrB.of_box g3 g bs) R3))
          go_meet
          exact ⟨nb, us, bs, _, by omega, p3, okUp (cutD_ok hO hk.2.2), (FrP.ofD f1 rb g bs).trans (FrP.ofB (FrB.of_box g3 g bs) h us)⟩
        · by_cases k3 : ok = 3
          · subst k3
            have hlb : ol ≠ [] → ∀ b x, A' = some ⟨b, x, none⟩ → b ≠ rb ∧ b ≠ g ∧ ∀ x ∈ bs, x.vv.ownBlock ≠ some b := fun hne b x e => by
              have hn : ¬ PrB h us rb g bs b := fun hh => by have := (p0.ge hh).1; have := hAz' hne b x e; omega
              exact ⟨fun e => hn (.inr (.inr (.inl e))), fun e => hn (.inr (.inr (.inr (.inl e)))), fun x hx e => hn (.inr (.inr (.inr (.inr ⟨x, hx, e⟩))))⟩
            replace hlb := Lib.hid hlb
            have hvl := vs_le hO hsrt
            have hIW := hI.low hAz' (bl_mono hB0 hz0)
            have hone : ∀ u ∈ ol.map (Value.int .i64), u.oneCell' = true := by intro u hu; obtain ⟨x, _, rfl⟩ := List.mem_map.1 hu; rfl
            obtain ⟨i3, hi3, hz3, hs3, hy3⟩ := info_parts info3
            have hhW : h + 3 < W.heap.size := by have := p0.D.lt; omega
            have husW : ∀ i v q, lookI us i = some v → v.ownBlock = some q → q < W.heap.size := fun i v q h1 h2 => (p0.tyD h1 h2).2.lt
            have hokl : ∀ i (hi : i < ol.length), okI ol[i] := fun i hi => by obtain ⟨_, _, _, _, _, hk⟩ := hI i hi; exact hk
            replace husW := Lib.hid husW
            replace hokl := Lib.hid hokl
            go_wp2_with (first | (at_builtin; refine wpList_append_srcT rfl _ _ 23 rfl W.heap.size 3 i3 _ 1 8 Try.underlying23 hi3 hz3 hs3 hy3 rfl (by omega) (.slice (some ⟨W.heap.size, 0, none⟩) 0 0) 0 [] rfl ?hown1 A' ol.length co' (ol.map (Value.int .i64)) rfl ?hsrc1 hone ?h631 ?hby1 ?hbase1 ?nx1; case' nx1 => intro A5 c5 w5 hown5 hg5; simp only [Nat.zero_add, List.nil_append] at hown5 ⊢; have hb5 : Below W.heap.size W w5 := bl_gr (bl_alloc (Below.refl _ _) _) (g := W.heap.size) (by simpa [Value.ownBlock] using hg5) (Nat.le_refl _); have q5 := (hC.out w5 us bs (FrP.of_below hb5 _)).cell) | (go_at_call 15; refine (crash_any h nb us d ol A5 c5 N w5 (p0.below hb5).D hO (by omega) (by omega) (ints_own hown5 hhW husW.out hokl.out) (by omega)).mono ?_; rintro e w6 ⟨rfl, D6, f6⟩; have p6 := (p0.below hb5).keepR f6 D6; have g6 := (FrP.of_below hb5 _).trans (FrP.ofD f6 rb g bs); have q6 := (hC.out _ _ _ g6).cell) | (go_at_call 35; refine (rcrash_any w6 n0 rb g c bs d N A' co' ol p6.R p6.rn hO (by omega) hsrt (hIW.low hAz' (g6.below (by omega) (fun b hb => (p0.ge hb).1))) (by omega) hlb.out).mono ?_; rintro e w7 ⟨rfl, bs7, R7, f7⟩; have p7 := p6.keepD f7 R7))
            case hown1 => simpa using ownsRow_empty W 3 1 W.heap.size (by simp)
            case hsrc1 => exact (hIW.low hAz' (bl_mono (bl_alloc (Below.refl _ _) (.cells #[] 3)) (by omega))).src
            case h631 => simp only [maxLen]; omega
            case hby1 => omega
            go_meet
            exact ⟨nb + d.vs.length, [], bs7, _, by omega, p7, okUp (crashD_ok hO hsrt ol).1, g6.trans (FrP.ofB f7 h [])⟩
          · have hlm := readT_le hO oi
            have hrd := read_any h nb us d oi N W p0.D hO hk.2.1 (by omega)
            go_wp2_with (first | (go_at_call 16; refine hrd.mono ?_; rintro e w1 ⟨v1, rfl, B1, b1⟩; obtain ⟨A1, c1, rfl⟩ := B1.slice; have p1 := p0.below b1; have q1 := (hC.out w1 us bs (FrP.of_below b1 _)).cell) | (go_at_call 36; refine (rread_any w1 n0 rb g c bs d N oi p1.R hO hk.2.1 (by omega)).mono ?_; rintro e w2 ⟨v2, rfl, T2, b2⟩; obtain ⟨A2, c2, rfl⟩ := T2.slice; have B2 := B1.below b2; have hc1 := conv_buf B2; have hc2 := conv_text T2; generalize (⟨(readT d oi).toArray⟩ : ByteArray) = sr at hc1 hc2; generalize (readD d oi).2 = er; generalize readT d oi = tx at *) | (go_at_call 10; refine (num_any _ _).mono ?_; rintro e w3 ⟨rfl, rfl⟩))
            have g2 := (FrP.of_below b1 (PrB h us rb g bs)).trans (FrP.of_below b2 _)
            clear hc1 hc2 T2
            rcases B2 with ⟨rfl, he⟩ | ⟨hne, q, c', e, hq, hB⟩
            · go_loopw [13] (fun v wr => wr = w2 ∧ v = .int .i64 0) (fun v _ => 0)
              case atStart => exact ⟨rfl, rfl⟩
              case round =>
                obtain ⟨rfl, rfl⟩ := hrel
                go_wp2_with fail
                go_meet
                exact ⟨nb, us, bs, d, by omega, p1.below b2, hO', g2⟩
            · cases e
              have hqW : ¬ PrB h us rb g bs q := fun hh => by have := (p0.ge hh).2; omega
              have pl := p0.lend (bl_tr b1 b2) hq hB.lt
              clear hrd p1 q1
              go_loopw [13] (fun v wr => ∃ (i : Nat) (L : List Int), v = .int .i64 i ∧ i ≤ tx.length ∧ Hid (L.length = tx.length) ∧ Blk wr q (L.map (Value.int .u8)) ∧ Pr (fun b => F b ∨ b = q) wr z h nb us d n0 rb g c bs d ∧ FrP W wr (PrB h us rb g bs) (PrB h us rb g bs)) (fun v _ => tx.length - (intOf v).toNat)
              case atStart => exact ⟨0, tx.map (fun b => (b.toNat : Int)), rfl, Nat.zero_le _, Lib.hid (by simp), by rw [List.map_map]; exact hB, pl, g2⟩
              case round =>
                obtain ⟨i, L, rfl, hi, hL, hBL, pi, gi⟩ := hrel
                have hi0 : (0 : Int) ≤ (i : Int) := by omega
                by_cases hlt : i < tx.length
                · obtain ⟨x, hx⟩ : ∃ x, L[i]? = some x := ⟨_, List.getElem?_eq_getElem (by rw [hL.out]; exact hlt)⟩
                  have qc := hBL.get (j := i) (v := .int .u8 x) (by simp [hx])
                  have qu := hBL.unf
                  go_wp2_with fail
                  go_roundw
                  case rel => exact ⟨i + 1, L.set i (IntKind.u8.wrap (x + 1)), by go_num, by omega, Lib.hid (by simp [hL.out]), by rw [List.map_set]; exact hBL.set_same i _, pi.poke (.inr rfl) hqW, gi.poke hq⟩
                  case measure => simp [intOf]; omega
                · obtain rfl : i = tx.length := by omega
                  go_wp2_with fail
                  go_meet
                  exact ⟨nb, us, bs, d, by omega, pi.unlend p.bar, hO', gi⟩
  case rest =>
    obtain ⟨nb1, us1, bs1, d1, hnb1, p1, hO1, fr1⟩ := hcut
    have hdn := dirtyN_all hO1 p1.D.sorted
    have q := p1.R.box.cell
    have l := p1.R.box.lt
    rw [p1.R.len] at q
    have hcd : ∀ wx, Below wc.heap.size wc wx → Calls Try.prog 18 #[.pointer (some ⟨h + 3, 0, none⟩)] wx fun e w' => e = .returned (.bool d1.off) ∧ w' = wx := fun wx hb => (down_any h nb1 us1 d1 wx (p1.D.below hb) hO1.len.1).mono fun _ _ h => ⟨h.1, h.2.symm⟩
    have hcy : ∀ wx, Below wc.heap.size wc wx → Calls Try.prog 19 #[.pointer (some ⟨h + 3, 0, none⟩)] wx fun e w' => e = .returned (.int .i64 d1.vs.length) ∧ w' = wx := fun wx hb => (dirty_any h nb1 us1 d1 wx (p1.D.below hb) hO1.len.1).mono fun _ _ h => ⟨h.1, h.2.symm⟩
    have hcb : ∀ wx, Below wc.heap.size wc wx → Calls Try.prog 22 #[.pointer (some ⟨h + 3, 0, none⟩)] wx fun e w' => e = .returned (.int .i64 d1.ts.length) ∧ w' = wx := fun wx hb => (blocks_any h nb1 us1 d1 wx (p1.D.below hb) hO1.len.1).mono fun _ _ h => ⟨h.1, h.2.symm⟩
    have hcr : ∀ wx, Below wc.heap.size wc wx → Calls Try.prog 37 #[.pointer (some ⟨rb, 0, none⟩)] wx fun e w' => e = .returned (.int .i64 d1.vs.length) ∧ w' = wx := fun wx hb => by
      have := rdirty_any wx n0 rb g c bs1 d1 (N + 1) (p1.R.below hb) hO1
      rw [hdn] at this
      exact this
    have hg := (FrP.of_below hB0 (PrB h us rb g bs)).trans fr1
    replace hcd := Lib.hid hcd
    replace hcy := Lib.hid hcy
    replace hcb := Lib.hid hcb
    replace hcr := Lib.hid hcr
    clear hdn
    go_wp2_with fail
    go_quiet ((first | (go_at_call 18; refine Calls.quiet_of_same (hcd.out _ (bl_drewN (Below.refl _ _) _))) | (go_at_call 19; refine Calls.quiet_of_same (hcy.out _ (bl_drewN (Below.refl _ _) _))) | (go_at_call 22; refine Calls.quiet_of_same (hcb.out _ (bl_drewN (Below.refl _ _) _))) | (go_at_call 37; refine Calls.quiet_of_same (hcr.out _ (bl_drewN (Below.refl _ _) _)))))
    go_wp2_with fail
    go_ret
    exact ⟨rfl, nb1, us1, bs1, d1, hnb1, p1.below (bl_drewN (Below.refl _ _) _), hO1, hg.trans (FrP.of_below (bl_drewN (Below.refl _ _) _) _)⟩
end Go.Proofs.Yteaenhmiomoocaa
