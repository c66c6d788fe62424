/- The document's Load (20): entries as a table. -/
import Derived.Test.YtjpmdjjihdicdaaPl
import Derived.Test.YtjpmdjjihdicdaaRu
namespace Go.Proofs.Ytjpmdjjihdicdaa
open Go.RowKit Go.Shelf
attribute [local go_sem] Oper.semAt_some

/-- What Load tells. -/
def RLoaded (w : World) (l : List Ent) (e : Ending) (w' : World) : Prop :=
  Below w.heap.size w w' ∧ ((goodL l = false ∧ e = .returned (.pointer none)) ∨
    (goodL l = true ∧ e = .returned (.pointer (some ⟨w.heap.size, 0, none⟩)) ∧ ∃ gL A c vs, RefAt w' (w.heap.size + 1) w.heap.size gL l A c vs))

set_option maxRecDepth 100000 in
set_option maxHeartbeats 4000000 in
theorem rload_any (A : Option Addr) (c : Nat) (l : List Ent) (w : World) (hE : EntsAt w A l) (hf : ∀ x ∈ l, EntOk x) (hl : l.length ≤ 2932031007402) (hll : ∀ x ∈ l, x.last.length ≤ 5864062014805) :
    Calls Try.prog 20 #[.slice A l.length c] w (RLoaded w l) := by
  obtain ⟨i2, hi2, hz2, hs2, hb2⟩ := info_parts info92
  obtain ⟨i3, hi3, hz3, hs3, hb3⟩ := info_parts info93
  go_enter Try.func20, Try.ntmps20
  go_wp2_with fail
  go_loopw [4] (fun u wr => ∃ (i : Nat) (lq : Int) (gL : Option Nat) (A1 : Option Addr) (c1 : Nat) (vs : List Value), i ≤ l.length ∧ u = .int .i64 i ∧ Hid (goodL l = goodFrom lq (l.drop i)) ∧ Hid ((i = 0 → lq = -1) ∧ (0 < i → ∃ x, l[i - 1]? = some x ∧ lq = x.p)) ∧
      RefAt wr (w.heap.size + 1) w.heap.size gL (l.take i) A1 c1 vs ∧ Below w.heap.size w wr)
    (fun u _ => l.length - (intOf u).toNat)
  case atStart => exact ⟨0, -1, none, none, 0, [], Nat.zero_le _, rfl, Lib.hid rfl, Lib.hid ⟨fun _ => rfl, fun h => by omega⟩, ⟨Blk.new' _ _ rfl, ty_new _ _ _, World.ownsRow_nil _ _ _ _, rfl, rfl, fun i hi => by simp at hi⟩, bl_alloc (Below.refl _ _) _⟩
  case round =>
    obtain ⟨i, lq, gL, A1, c1, vs, hi, rfl, hg, hq, hr, hbr⟩ := hrel
    have hi0 : (0 : Int) ≤ (i : Int) := by omega
    by_cases hlt : i < l.length
    · obtain ⟨b, oo, A', c', rfl, hbl, p0, p1, p2, p3, hD⟩ := (hE.below hbr) i hlt
      obtain ⟨⟨f1, f2, f3⟩, f4, f5⟩ := hf l[i] (List.getElem_mem _)
      have hll5 := hll l[i] (List.getElem_mem _)
      have hdr := Lib.hid (fun q => @goodFrom_drop l q i hlt)
      have hTk := Lib.hid (show l.take (i + 1) = l.take i ++ [l[i]] from List.take_succ_eq_append_getElem hlt)
      have hprev : 0 < i → ∃ q, q = lq ∧ wr.cell? ⟨b, oo + (i - 1) * 4, none⟩ = some (.int .i64 q) := fun h => by
        obtain ⟨b', o', A2, c2, e, hlt', z0, _⟩ := (hE.below hbr) (i - 1) (by omega)
        cases e
        obtain ⟨x, hx, he⟩ := hq.out.2 h
        rw [List.getElem?_eq_getElem (by omega)] at hx
        have hx' := Option.some.inj hx
        exact ⟨_, by rw [he, ← hx'], z0⟩
      have hxi := Lib.hid (show ∀ x, x = l[i] → ∃ y, l[i + 1 - 1]? = some y ∧ x.p = y.p from fun x hx => ⟨_, List.getElem?_eq_getElem hlt, by rw [hx]⟩)
      generalize hx : l[i] = x at *
      replace hxi := Lib.hid (hxi.out x rfl)
      clear hx
      obtain ⟨xp, xe, xn, xl⟩ := x
      dsimp only at p0 p1 p2 p3 hD f1 f2 f3 f4 f5 hll5
      have hl0 := Lib.hid hq.out.1
      clear f5 hq
      obtain ⟨rr, hrr⟩ : ∃ rr, rightE ⟨xp, xe, xn, xl⟩ = rr := ⟨_, rfl⟩
      have HR := Lib.hid hrr
      clear hrr
      cases rr
      · clear hprev
        go_wp2_with fail
        obtain ⟨X, hXe⟩ : ∃ X, wr.drew = X := ⟨_, rfl⟩
        have kX : ∀ w', Below X.heap.size X w' → ∀ o, w'.cell? ⟨b, o, none⟩ = wr.cell? ⟨b, o, none⟩ := fun w' h o => by subst hXe; exact h.cell (p := ⟨b, o, none⟩) hbl
        have hDX : DnsAt X A' xl := by subst hXe; exact hD.below (keep_drew wr).2
        have hbX : Below wr.heap.size wr X := by subst hXe; exact (keep_drew wr).2
        replace kX := Lib.hid kX
        refine wpAnyH.region rfl (fun w' => Below X.heap.size X w') ?_
        rw [hXe]
        clear hXe
        try simp only [List.setIfInBounds_toArray, List.set_cons_zero, List.set_cons_succ]
        refine wpAnyH.takeT (i := 0) (t := 14) (v := (.slice (some ⟨b, oo, none⟩) l.length c)) rfl rfl (by decide +kernel) (by decide +kernel) (by decide +kernel) (fun _ _ _ h => h.elim) (.inl ⟨rfl, fun w' hS => ?_⟩) (Below.refl _ _) ?_
        · go_simp
        try simp only [List.setIfInBounds_toArray, List.set_cons_zero, List.set_cons_succ]
        refine wpAnyH.takeT (i := 1) (t := 15) (v := (.int .i64 (i : Nat))) rfl rfl (by decide +kernel) (by decide +kernel) (by decide +kernel) (fun _ _ _ h => h.elim) (.inl ⟨rfl, fun w' hS => ?_⟩) (Below.refl _ _) ?_
        · go_simp
        try simp only [List.setIfInBounds_toArray, List.set_cons_zero, List.set_cons_succ]
        refine wpAnyH.takeT (i := 2) (t := 16) (v := (.pointer (some ⟨b, oo + i * 4, none⟩))) rfl rfl (by decide +kernel) (by decide +kernel) (by decide +kernel) (fun _ _ _ h => h.elim) (.inl ⟨rfl, fun w' hS => ?_⟩) (Below.refl _ _) ?_
        · go_simp
        try simp only [List.setIfInBounds_toArray, List.set_cons_zero, List.set_cons_succ]
        refine wpAnyH.takeT (i := 3) (t := 17) (v := (.agg #[.int .i64 xp, .int .i64 xe, .int .i64 xn, .slice A' xl.length c'])) rfl rfl (by decide +kernel) (by decide +kernel) (by decide +kernel) (fun _ _ _ h => h.elim) (.inl ⟨rfl, fun w' hS => ?_⟩) (Below.refl _ _) ?_
        · have z0 := (kX.out w' hS _).trans p0
          have z1 := (kX.out w' hS _).trans p1
          have z2 := (kX.out w' hS _).trans p2
          have z3 := (kX.out w' hS _).trans p3
          go_simp
        try simp only [List.setIfInBounds_toArray, List.set_cons_zero, List.set_cons_succ]
        refine wpAnyH.one (i := 4) (by decide +kernel) rfl rfl ?_
        refine wp_goCall1 33 (enters_of Try.func33 (by kernel_rfl) rfl) (.tmp 17) #[92] rfl 18 rfl ?_
        refine (rright_any ⟨xp, xe, xn, xl⟩ A' c' _ hDX f3).mono ?_
        rw [HR.out]
        rintro e w4 ⟨rfl, hb4⟩
        refine ⟨_, rfl, hb4, ?_⟩
        try simp only [List.setIfInBounds_toArray, List.set_cons_zero, List.set_cons_succ]
        refine wpAnyH.takeT (i := 5) (t := 19) (v := (.bool true)) rfl rfl (by decide +kernel) (by decide +kernel) (by decide +kernel) (fun _ _ _ h => h.elim) (.inl ⟨rfl, fun w' hS => ?_⟩) hb4 ?_
        · go_simp
        try simp only [List.setIfInBounds_toArray, List.set_cons_zero, List.set_cons_succ]
        refine wpAnyH.takeT (i := 6) (t := 20) (v := (.bool true)) rfl rfl (by decide +kernel) (by decide +kernel) (by decide +kernel) (fun _ _ _ h => h.elim) (.inl ⟨rfl, fun w' hS => ?_⟩) hb4 ?_
        · go_simp
        try simp only [List.setIfInBounds_toArray, List.set_cons_zero, List.set_cons_succ]
        refine wpAnyH.takeT (i := 7) (t := 21) (v := undef) rfl rfl (by decide +kernel) (by decide +kernel) (by decide +kernel) (fun _ _ _ h => h.elim) (.inr ⟨rfl, rfl⟩) hb4 ?_
        try simp only [List.setIfInBounds_toArray, List.set_cons_zero, List.set_cons_succ]
        refine wpAnyH.takeT (i := 8) (t := 22) (v := undef) rfl rfl (by decide +kernel) (by decide +kernel) (by decide +kernel) (fun _ _ _ h => h.elim) (.inr ⟨rfl, rfl⟩) hb4 ?_
        try simp only [List.setIfInBounds_toArray, List.set_cons_zero, List.set_cons_succ]
        refine wpAnyH.takeT (i := 9) (t := 23) (v := undef) rfl rfl (by decide +kernel) (by decide +kernel) (by decide +kernel) (fun _ _ _ h => h.elim) (.inr ⟨rfl, rfl⟩) hb4 ?_
        try simp only [List.setIfInBounds_toArray, List.set_cons_zero, List.set_cons_succ]
        refine wpAnyH.takeT (i := 10) (t := 24) (v := undef) rfl rfl (by decide +kernel) (by decide +kernel) (by decide +kernel) (fun _ _ _ h => h.elim) (.inr ⟨rfl, rfl⟩) hb4 ?_
        try simp only [List.setIfInBounds_toArray, List.set_cons_zero, List.set_cons_succ]
        refine wpAnyH.takeT (i := 11) (t := 25) (v := undef) rfl rfl (by decide +kernel) (by decide +kernel) (by decide +kernel) (fun _ _ _ h => h.elim) (.inr ⟨rfl, rfl⟩) hb4 ?_
        try simp only [List.setIfInBounds_toArray, List.set_cons_zero, List.set_cons_succ]
        refine wpAnyH.takeT (i := 12) (t := 26) (v := undef) rfl rfl (by decide +kernel) (by decide +kernel) (by decide +kernel) (fun _ _ _ h => h.elim) (.inr ⟨rfl, rfl⟩) hb4 ?_
        try simp only [List.setIfInBounds_toArray, List.set_cons_zero, List.set_cons_succ]
        refine wpAnyH.takeT (i := 13) (t := 27) (v := undef) rfl rfl (by decide +kernel) (by decide +kernel) (by decide +kernel) (fun _ _ _ h => h.elim) (.inr ⟨rfl, rfl⟩) hb4 ?_
        try simp only [List.setIfInBounds_toArray, List.set_cons_zero, List.set_cons_succ]
        refine wpAnyH.takeT (i := 14) (t := 28) (v := undef) rfl rfl (by decide +kernel) (by decide +kernel) (by decide +kernel) (fun _ _ _ h => h.elim) (.inr ⟨rfl, rfl⟩) hb4 ?_
        try simp only [List.setIfInBounds_toArray, List.set_cons_zero, List.set_cons_succ]
        refine wpAnyH.takeT (i := 15) (t := 29) (v := undef) rfl rfl (by decide +kernel) (by decide +kernel) (by decide +kernel) (fun _ _ _ h => h.elim) (.inr ⟨rfl, rfl⟩) hb4 ?_
        try simp only [List.setIfInBounds_toArray, List.set_cons_zero, List.set_cons_succ]
        refine wpAnyH.takeT (i := 16) (t := 30) (v := undef) rfl rfl (by decide +kernel) (by decide +kernel) (by decide +kernel) (fun _ _ _ h => h.elim) (.inr ⟨rfl, rfl⟩) hb4 ?_
        try simp only [List.setIfInBounds_toArray, List.set_cons_zero, List.set_cons_succ]
        refine wpAnyH.takeT (i := 17) (t := 31) (v := undef) rfl rfl (by decide +kernel) (by decide +kernel) (by decide +kernel) (fun _ _ _ h => h.elim) (.inr ⟨rfl, rfl⟩) hb4 ?_
        try simp only [List.setIfInBounds_toArray, List.set_cons_zero, List.set_cons_succ]
        refine wpAnyH.takeT (i := 18) (t := 32) (v := undef) rfl rfl (by decide +kernel) (by decide +kernel) (by decide +kernel) (fun _ _ _ h => h.elim) (.inr ⟨rfl, rfl⟩) hb4 ?_
        try simp only [List.setIfInBounds_toArray, List.set_cons_zero, List.set_cons_succ]
        refine wpAnyH.takeT (i := 19) (t := 33) (v := undef) rfl rfl (by decide +kernel) (by decide +kernel) (by decide +kernel) (fun _ _ _ h => h.elim) (.inr ⟨rfl, rfl⟩) hb4 ?_
        try simp only [List.setIfInBounds_toArray, List.set_cons_zero, List.set_cons_succ]
        refine wpAnyH.takeT (i := 20) (t := 34) (v := undef) rfl rfl (by decide +kernel) (by decide +kernel) (by decide +kernel) (fun _ _ _ h => h.elim) (.inr ⟨rfl, rfl⟩) hb4 ?_
        try simp only [List.setIfInBounds_toArray, List.set_cons_zero, List.set_cons_succ]
        refine wpAnyH.takeT (i := 21) (t := 35) (v := undef) rfl rfl (by decide +kernel) (by decide +kernel) (by decide +kernel) (fun _ _ _ h => h.elim) (.inr ⟨rfl, rfl⟩) hb4 ?_
        try simp only [List.setIfInBounds_toArray, List.set_cons_zero, List.set_cons_succ]
        refine wpAnyH.takeT (i := 22) (t := 36) (v := undef) rfl rfl (by decide +kernel) (by decide +kernel) (by decide +kernel) (fun _ _ _ h => h.elim) (.inr ⟨rfl, rfl⟩) hb4 ?_
        try simp only [List.setIfInBounds_toArray, List.set_cons_zero, List.set_cons_succ]
        refine wpAnyH.takeT (i := 23) (t := 37) (v := (.bool true)) rfl rfl (by decide +kernel) (by decide +kernel) (by decide +kernel) (fun _ _ _ h => h.elim) (.inl ⟨rfl, fun w' hS => ?_⟩) hb4 ?_
        · go_simp
        try simp only [List.setIfInBounds_toArray, List.set_cons_zero, List.set_cons_succ]
        refine wpAnyH_done (by decide +kernel) ?_ _
        refine NoPanic.normal ?_
        go_wp2_with fail
        go_ret
        exact ⟨bl_tr hbr (bl_tr hbX hb4), .inl ⟨by rw [hg.out, hdr.out, HR.out]; rfl, rfl⟩⟩
      · rcases Nat.eq_zero_or_pos i with hi00 | hip
        · have hip2 : decide ((0 : Int) < (i : Int)) = false := by simp; omega
          replace hi00 := Lib.hid hi00
          clear hprev
          go_wp2_with fail
          obtain ⟨X, hXe⟩ : ∃ X, wr.drew = X := ⟨_, rfl⟩
          have kX : ∀ w', Below X.heap.size X w' → ∀ o, w'.cell? ⟨b, o, none⟩ = wr.cell? ⟨b, o, none⟩ := fun w' h o => by subst hXe; exact h.cell (p := ⟨b, o, none⟩) hbl
          have hDX : DnsAt X A' xl := by subst hXe; exact hD.below (keep_drew wr).2
          have hbX : Below wr.heap.size wr X := by subst hXe; exact (keep_drew wr).2
          replace kX := Lib.hid kX
          refine wpAnyH.region rfl (fun w' => Below X.heap.size X w') ?_
          rw [hXe]
          clear hXe
          try simp only [List.setIfInBounds_toArray, List.set_cons_zero, List.set_cons_succ]
          refine wpAnyH.takeT (i := 0) (t := 14) (v := (.slice (some ⟨b, oo, none⟩) l.length c)) rfl rfl (by decide +kernel) (by decide +kernel) (by decide +kernel) (fun _ _ _ h => h.elim) (.inl ⟨rfl, fun w' hS => ?_⟩) (Below.refl _ _) ?_
          · go_simp
          try simp only [List.setIfInBounds_toArray, List.set_cons_zero, List.set_cons_succ]
          refine wpAnyH.takeT (i := 1) (t := 15) (v := (.int .i64 (i : Nat))) rfl rfl (by decide +kernel) (by decide +kernel) (by decide +kernel) (fun _ _ _ h => h.elim) (.inl ⟨rfl, fun w' hS => ?_⟩) (Below.refl _ _) ?_
          · go_simp
          try simp only [List.setIfInBounds_toArray, List.set_cons_zero, List.set_cons_succ]
          refine wpAnyH.takeT (i := 2) (t := 16) (v := (.pointer (some ⟨b, oo + i * 4, none⟩))) rfl rfl (by decide +kernel) (by decide +kernel) (by decide +kernel) (fun _ _ _ h => h.elim) (.inl ⟨rfl, fun w' hS => ?_⟩) (Below.refl _ _) ?_
          · go_simp
          try simp only [List.setIfInBounds_toArray, List.set_cons_zero, List.set_cons_succ]
          refine wpAnyH.takeT (i := 3) (t := 17) (v := (.agg #[.int .i64 xp, .int .i64 xe, .int .i64 xn, .slice A' xl.length c'])) rfl rfl (by decide +kernel) (by decide +kernel) (by decide +kernel) (fun _ _ _ h => h.elim) (.inl ⟨rfl, fun w' hS => ?_⟩) (Below.refl _ _) ?_
          · have z0 := (kX.out w' hS _).trans p0
            have z1 := (kX.out w' hS _).trans p1
            have z2 := (kX.out w' hS _).trans p2
            have z3 := (kX.out w' hS _).trans p3
            go_simp
          try simp only [List.setIfInBounds_toArray, List.set_cons_zero, List.set_cons_succ]
          refine wpAnyH.one (i := 4) (by decide +kernel) rfl rfl ?_
          refine wp_goCall1 33 (enters_of Try.func33 (by kernel_rfl) rfl) (.tmp 17) #[92] rfl 18 rfl ?_
          refine (rright_any ⟨xp, xe, xn, xl⟩ A' c' _ hDX f3).mono ?_
          rw [HR.out]
          rintro e w4 ⟨rfl, hb4⟩
          refine ⟨_, rfl, hb4, ?_⟩
          try simp only [List.setIfInBounds_toArray, List.set_cons_zero, List.set_cons_succ]
          refine wpAnyH.takeT (i := 5) (t := 19) (v := (.bool false)) rfl rfl (by decide +kernel) (by decide +kernel) (by decide +kernel) (fun _ _ _ h => h.elim) (.inl ⟨rfl, fun w' hS => ?_⟩) hb4 ?_
          · go_simp
          try simp only [List.setIfInBounds_toArray, List.set_cons_zero, List.set_cons_succ]
          refine wpAnyH.takeT (i := 6) (t := 20) (v := (.bool false)) rfl rfl (by decide +kernel) (by decide +kernel) (by decide +kernel) (fun _ _ _ h => h.elim) (.inl ⟨rfl, fun w' hS => ?_⟩) hb4 ?_
          · go_simp
          try simp only [List.setIfInBounds_toArray, List.set_cons_zero, List.set_cons_succ]
          refine wpAnyH.takeT (i := 7) (t := 21) (v := (.int .i64 (i : Nat))) rfl rfl (by decide +kernel) (by decide +kernel) (by decide +kernel) (fun _ _ _ h => h.elim) (.inl ⟨rfl, fun w' hS => ?_⟩) hb4 ?_
          · go_simp
          try simp only [List.setIfInBounds_toArray, List.set_cons_zero, List.set_cons_succ]
          refine wpAnyH.takeT (i := 8) (t := 22) (v := (.bool false)) rfl rfl (by decide +kernel) (by decide +kernel) (by decide +kernel) (fun _ _ _ h => h.elim) (.inl ⟨rfl, fun w' hS => ?_⟩) hb4 ?_
          · go_simp
            exact hi00.out
          try simp only [List.setIfInBounds_toArray, List.set_cons_zero, List.set_cons_succ]
          refine wpAnyH.takeT (i := 9) (t := 23) (v := (.bool false)) rfl rfl (by decide +kernel) (by decide +kernel) (by decide +kernel) (fun _ _ _ h => h.elim) (.inl ⟨rfl, fun w' hS => ?_⟩) hb4 ?_
          · go_simp
          try simp only [List.setIfInBounds_toArray, List.set_cons_zero, List.set_cons_succ]
          refine wpAnyH.takeT (i := 10) (t := 24) (v := undef) rfl rfl (by decide +kernel) (by decide +kernel) (by decide +kernel) (fun _ _ _ h => h.elim) (.inr ⟨rfl, rfl⟩) hb4 ?_
          try simp only [List.setIfInBounds_toArray, List.set_cons_zero, List.set_cons_succ]
          refine wpAnyH.takeT (i := 11) (t := 25) (v := undef) rfl rfl (by decide +kernel) (by decide +kernel) (by decide +kernel) (fun _ _ _ h => h.elim) (.inr ⟨rfl, rfl⟩) hb4 ?_
          try simp only [List.setIfInBounds_toArray, List.set_cons_zero, List.set_cons_succ]
          refine wpAnyH.takeT (i := 12) (t := 26) (v := undef) rfl rfl (by decide +kernel) (by decide +kernel) (by decide +kernel) (fun _ _ _ h => h.elim) (.inr ⟨rfl, rfl⟩) hb4 ?_
          try simp only [List.setIfInBounds_toArray, List.set_cons_zero, List.set_cons_succ]
          refine wpAnyH.takeT (i := 13) (t := 27) (v := undef) rfl rfl (by decide +kernel) (by decide +kernel) (by decide +kernel) (fun _ _ _ h => h.elim) (.inr ⟨rfl, rfl⟩) hb4 ?_
          try simp only [List.setIfInBounds_toArray, List.set_cons_zero, List.set_cons_succ]
          refine wpAnyH.takeT (i := 14) (t := 28) (v := undef) rfl rfl (by decide +kernel) (by decide +kernel) (by decide +kernel) (fun _ _ _ h => h.elim) (.inr ⟨rfl, rfl⟩) hb4 ?_
          try simp only [List.setIfInBounds_toArray, List.set_cons_zero, List.set_cons_succ]
          refine wpAnyH.takeT (i := 15) (t := 29) (v := undef) rfl rfl (by decide +kernel) (by decide +kernel) (by decide +kernel) (fun _ _ _ h => h.elim) (.inr ⟨rfl, rfl⟩) hb4 ?_
          try simp only [List.setIfInBounds_toArray, List.set_cons_zero, List.set_cons_succ]
          refine wpAnyH.takeT (i := 16) (t := 30) (v := undef) rfl rfl (by decide +kernel) (by decide +kernel) (by decide +kernel) (fun _ _ _ h => h.elim) (.inr ⟨rfl, rfl⟩) hb4 ?_
          try simp only [List.setIfInBounds_toArray, List.set_cons_zero, List.set_cons_succ]
          refine wpAnyH.takeT (i := 17) (t := 31) (v := undef) rfl rfl (by decide +kernel) (by decide +kernel) (by decide +kernel) (fun _ _ _ h => h.elim) (.inr ⟨rfl, rfl⟩) hb4 ?_
          try simp only [List.setIfInBounds_toArray, List.set_cons_zero, List.set_cons_succ]
          refine wpAnyH.takeT (i := 18) (t := 32) (v := undef) rfl rfl (by decide +kernel) (by decide +kernel) (by decide +kernel) (fun _ _ _ h => h.elim) (.inr ⟨rfl, rfl⟩) hb4 ?_
          try simp only [List.setIfInBounds_toArray, List.set_cons_zero, List.set_cons_succ]
          refine wpAnyH.takeT (i := 19) (t := 33) (v := undef) rfl rfl (by decide +kernel) (by decide +kernel) (by decide +kernel) (fun _ _ _ h => h.elim) (.inr ⟨rfl, rfl⟩) hb4 ?_
          try simp only [List.setIfInBounds_toArray, List.set_cons_zero, List.set_cons_succ]
          refine wpAnyH.takeT (i := 20) (t := 34) (v := undef) rfl rfl (by decide +kernel) (by decide +kernel) (by decide +kernel) (fun _ _ _ h => h.elim) (.inr ⟨rfl, rfl⟩) hb4 ?_
          try simp only [List.setIfInBounds_toArray, List.set_cons_zero, List.set_cons_succ]
          refine wpAnyH.takeT (i := 21) (t := 35) (v := undef) rfl rfl (by decide +kernel) (by decide +kernel) (by decide +kernel) (fun _ _ _ h => h.elim) (.inr ⟨rfl, rfl⟩) hb4 ?_
          try simp only [List.setIfInBounds_toArray, List.set_cons_zero, List.set_cons_succ]
          refine wpAnyH.takeT (i := 22) (t := 36) (v := (.bool false)) rfl rfl (by decide +kernel) (by decide +kernel) (by decide +kernel) (fun _ _ _ h => h.elim) (.inl ⟨rfl, fun w' hS => ?_⟩) hb4 ?_
          · go_simp
          try simp only [List.setIfInBounds_toArray, List.set_cons_zero, List.set_cons_succ]
          refine wpAnyH.takeT (i := 23) (t := 37) (v := (.bool false)) rfl rfl (by decide +kernel) (by decide +kernel) (by decide +kernel) (fun _ _ _ h => h.elim) (.inl ⟨rfl, fun w' hS => ?_⟩) hb4 ?_
          · go_simp
          try simp only [List.setIfInBounds_toArray, List.set_cons_zero, List.set_cons_succ]
          refine wpAnyH_done (by decide +kernel) ?_ _
          refine NoPanic.normal ?_
          have hlt2 : lq < xp := by have := (rightE_ok HR.out).1; dsimp only at this; rw [hl0.out hi00.out]; omega
          have hb0 := bl_tr hbX hb4
          have hbr4 := bl_tr hbr hb0
          have hr4 := hr.below hb0
          have hD4 := hD.below hb0
          have hbl4 : b < w4.heap.size := Nat.lt_of_lt_of_le hbl hb0.size
          have z0 : w4.cell? ⟨b, oo + i * 4, none⟩ = some (.int .i64 xp) := (hb0.cell (p := ⟨b, _, none⟩) hbl).trans p0
          have z1 : w4.cell? ⟨b, oo + i * 4 + 1, none⟩ = some (.int .i64 xe) := (hb0.cell (p := ⟨b, _, none⟩) hbl).trans p1
          have z2 : w4.cell? ⟨b, oo + i * 4 + 2, none⟩ = some (.int .i64 xn) := (hb0.cell (p := ⟨b, _, none⟩) hbl).trans p2
          have z3 : w4.cell? ⟨b, oo + i * 4 + 3, none⟩ = some (.slice A' xl.length c') := (hb0.cell (p := ⟨b, _, none⟩) hbl).trans p3
          have hx4 : Blk (w4.alloc (.cells #[.int .i64 xp, .int .i64 xe, .int .i64 xn, .slice A' xl.length c'] 92)) w4.heap.size [.int .i64 xp, .int .i64 xe, .int .i64 xn, .slice A' xl.length c'] := Blk.new' _ _ rfl
          go_wp2_with (at_builtin; refine wpList_append_srcT rfl _ _ 90 rfl (w4.heap.size + 1) 93 i3 _ 3 24 Try.underlying90 hi3 hz3 hs3 hb3 rfl (by omega) (.slice (some ⟨w4.heap.size + 1, 0, none⟩) 0 0) 0 [] rfl ?hown1 A' xl.length c' (dnCells xl) rfl ?hsrc1 (dnCells_one xl) ?h631 ?hby1 ?hbase1 ?nx1; case' nx1 => intro A5 c5 w5 hown5 hg5; have hx5 := (hx4.alloc (.cells #[] 93)).grown hg5 (by simp [Value.ownBlock]); have q5 := hx5.cell; have u5 := hx5.unf; have l5 := hx5.lt)
          case hown1 => simpa using ownsRow_empty (w4.alloc (.cells #[.int .i64 xp, .int .i64 xe, .int .i64 xn, .slice A' xl.length c'] 92)) 93 3 (w4.heap.size + 1) (by simp)
          case hsrc1 => exact srcD (hD4.below (bl_alloc (bl_alloc (Below.refl _ _) _) _))
          case h631 => simp only [maxLen]; omega
          case hby1 => omega
          case hbase1 => simp
          have hb5 : Below w4.heap.size w4 w5 := bl_gr (bl_alloc (bl_alloc (Below.refl _ _) _) _) (g := w4.heap.size + 1) (by simpa [Value.ownBlock] using hg5) (by omega)
          simp only [Nat.zero_add, List.nil_append] at hown5 ⊢
          have hx6 : Blk (w5.setCell ⟨w4.heap.size, 3, none⟩ (.slice A5 xl.length c5)) w4.heap.size [.int .i64 xp, .int .i64 xe, .int .i64 xn, .slice A5 xl.length c5] := by simpa using hx5.set_same 3 (.slice A5 xl.length c5)
          have hown6 : (w5.setCell ⟨w4.heap.size, 3, none⟩ (.slice A5 xl.length c5)).ownsRow (w4.heap.size + 1) 93 3 (.slice A5 xl.length c5) xl.length (dnCells xl) := ownsRow_setCell_below hown5 (by dsimp only; omega) _
          have hb6 := bl_set hb5 (p := ⟨w4.heap.size, 3, none⟩) (Nat.le_refl _) (.slice A5 xl.length c5)
          have hr6 := hr4.below hb6
          generalize w5.setCell ⟨w4.heap.size, 3, none⟩ (.slice A5 xl.length c5) = W at *
          clear hx4 hx5 q5 u5 l5 hown5 hg5 hb5 z0 z1 z2 z3 p0 p1 p2 p3
          have hn6 := dnsT_of_own hown6 rfl
          clear hown6
          have hrlen : (l.take i).length = i := by simp; omega
          have hbr6 := bl_tr hbr4 hb6
          have hz4 : w.heap.size < w4.heap.size := hr4.tab.lt
          obtain ⟨X, hXe⟩ : ∃ X, W.drew = X := ⟨_, rfl⟩
          have hrX : RefAt X (w.heap.size + 1) w.heap.size gL (l.take i) A1 c1 vs := by rw [← hXe]; exact hr6.below (bl_drew (Below.refl _ _))
          have hxX : Blk X w4.heap.size [.int .i64 xp, .int .i64 xe, .int .i64 xn, .slice A5 xl.length c5] := by rw [← hXe]; exact hx6.drew
          have hnX : DnsT X A5 xl := by rw [← hXe]; exact hn6.keep (fun _ _ => rfl)
          have hbX6 : Below w.heap.size w X := by rw [← hXe]; exact bl_drew hbr6
          clear hr6 hx6 hn6 hbr6
          have hrbX : some w.heap.size ≠ gL := fun e => by have := hrX.base e.symm; omega
          have hx4X : some w4.heap.size ≠ gL := fun e => by have := hr4.lt (.inr (.inl e)); omega
          have hgX := Lib.hid (fun g (e : gL = some g) => hrX.base e)
          have hownb := hrX.own
          rw [hrlen] at hownb
          have hrowX := hrX.row
          rw [hrlen] at hrowX
          have htabX := hrX.tab
          rw [hrlen] at htabX
          replace hownb := Lib.hid hownb
          replace hrX := Lib.hid hrX
          replace hrlen := Lib.hid hrlen
          replace hnX := Lib.hid hnX
          refine anyBut.region rfl 10 (fun w' => X.grownBy w' gL) ?_
          rw [hXe]
          clear hXe
          try simp only [List.setIfInBounds_toArray, List.set_cons_zero, List.set_cons_succ]
          refine anyBut.takeW (i := 0) (t := 47) (v := (.pointer (some ⟨w.heap.size, 0, none⟩))) (by decide +kernel) rfl rfl (by decide +kernel) (by decide +kernel) (by decide +kernel) (fun _ _ _ h => h.elim) (.inl ⟨rfl, fun w' hS => ?_⟩) (World.grownBy.refl X gL) ?_
          · go_simp
          try simp only [List.setIfInBounds_toArray, List.set_cons_zero, List.set_cons_succ]
          refine anyBut.takeW (i := 1) (t := 48) (v := (.pointer (some ⟨w.heap.size, 0, none⟩))) (by decide +kernel) rfl rfl (by decide +kernel) (by decide +kernel) (by decide +kernel) (fun _ _ _ h => h.elim) (.inl ⟨rfl, fun w' hS => ?_⟩) (World.grownBy.refl X gL) ?_
          · go_simp
          try simp only [List.setIfInBounds_toArray, List.set_cons_zero, List.set_cons_succ]
          refine anyBut.takeW (i := 2) (t := 49) (v := (.pointer (some ⟨w.heap.size, 0, none⟩))) (by decide +kernel) rfl rfl (by decide +kernel) (by decide +kernel) (by decide +kernel) (fun _ _ _ h => h.elim) (.inl ⟨rfl, fun w' hS => ?_⟩) (World.grownBy.refl X gL) ?_
          · go_simp
          try simp only [List.setIfInBounds_toArray, List.set_cons_zero, List.set_cons_succ]
          refine anyBut.takeW (i := 3) (t := 50) (v := (.pointer (some ⟨w.heap.size, 0, none⟩))) (by decide +kernel) rfl rfl (by decide +kernel) (by decide +kernel) (by decide +kernel) (fun _ _ _ h => h.elim) (.inl ⟨rfl, fun w' hS => ?_⟩) (World.grownBy.refl X gL) ?_
          · go_simp
          try simp only [List.setIfInBounds_toArray, List.set_cons_zero, List.set_cons_succ]
          refine anyBut.takeW (i := 4) (t := 51) (v := (.slice A1 i c1)) (by decide +kernel) rfl rfl (by decide +kernel) (by decide +kernel) (by decide +kernel) (fun _ _ _ h => h.elim) (.inl ⟨rfl, fun w' hS => ?_⟩) (World.grownBy.refl X gL) ?_
          · have y0 := (htabX.grown hS hrbX).get (j := 0) rfl
            go_simp
          try simp only [List.setIfInBounds_toArray, List.set_cons_zero, List.set_cons_succ]
          refine anyBut.takeW (i := 5) (t := 52) (v := (.agg #[.int .i64 xp, .int .i64 xe, .int .i64 xn, .slice A5 xl.length c5])) (by decide +kernel) rfl rfl (by decide +kernel) (by decide +kernel) (by decide +kernel) (fun _ _ _ h => h.elim) (.inl ⟨rfl, fun w' hS => ?_⟩) (World.grownBy.refl X gL) ?_
          · have hx := hxX.grown hS hx4X
            have y0 := hx.get (j := 0) rfl
            have y1 := hx.get (j := 1) rfl
            have y2 := hx.get (j := 2) rfl
            have y3 := hx.get (j := 3) rfl
            go_simp
          try simp only [List.setIfInBounds_toArray, List.set_cons_zero, List.set_cons_succ]
          refine anyBut.one (i := 6) (by decide +kernel) rfl rfl ?_
          go_simp
          have gY := gr_alloc (World.grownBy.refl X gL) (.cells #[.int .i64 xp, .int .i64 xe, .int .i64 xn, .slice A5 xl.length c5] 92)
          refine ⟨gY, ?_⟩
          try simp only [List.setIfInBounds_toArray, List.set_cons_zero, List.set_cons_succ]
          refine anyBut.one (i := 7) (by decide +kernel) rfl rfl ?_
          refine wp_append_src 54 rfl (.tmp 51) (.tmp 53) 42 rfl (w.heap.size + 1) 92 i2 _ 4 48 Try.underlying42 hi2 hz2 hs2 hb2 rfl (by decide) (.slice A1 i c1) i _ rfl (hrowX.alloc _) (some ⟨X.heap.size, 0, none⟩) 1 1 (entL ⟨xp, xe, xn, xl⟩ (.slice A5 xl.length c5)) rfl (src_new X (entL ⟨xp, xe, xn, xl⟩ (.slice A5 xl.length c5)) 92 1 4 rfl) (by intro u hu; simp [entL] at hu; rcases hu with rfl | rfl | rfl | rfl <;> rfl) (by simp only [maxLen]; omega) (by omega) (by have := hbX6.size; have := htabX.lt; simp; omega) ?_
          intro A8 c8 Y own8 g8
          rw [hownb.out] at g8
          have gY8 := gr_trg gY g8
          refine ⟨.inr gY8, ?_⟩
          try simp only [List.setIfInBounds_toArray, List.set_cons_zero, List.set_cons_succ]
          refine anyBut.one (i := 8) (by decide +kernel) rfl rfl ?_
          go_simp
          try simp only [List.setIfInBounds_toArray, List.set_cons_zero, List.set_cons_succ]
          refine anyBut.one (i := 9) (by decide +kernel) rfl rfl ?_
          go_simp
          try simp only [List.setIfInBounds_toArray, List.set_cons_zero, List.set_cons_succ]
          refine anyBut.one (i := 10) (by decide +kernel) rfl rfl ?_
          have htY := htabX.grown gY8 hrbX
          have r3 := htY.cell
          have u3 := htY.unf
          go_simp
          try simp only [List.setIfInBounds_toArray, List.set_cons_zero, List.set_cons_succ]
          refine anyBut.done (by decide +kernel) ?_ _
          refine NoPanic.normal ?_
          have hfin := hrX.out.push (x := ⟨xp, xe, xn, xl⟩) (A' := A8) (c' := c8) gY8 (by omega) (by rw [hrlen.out]; exact own8) hnX.out
          rw [hrlen.out] at hfin
          rw [← hTk.out] at hfin
          have hbf : Below w.heap.size w (Y.setCell ⟨w.heap.size, 0, none⟩ (.slice A8 (i + 1) c8)) := bl_set (hbX6.grown gY8 hbX6.size (fun g e => by have := hgX.out g e; omega)) (Nat.le_refl _) _
          generalize Y.setCell ⟨w.heap.size, 0, none⟩ (.slice A8 (i + 1) c8) = Z at *
          clear gY gY8 g8 own8 htY r3 u3
          go_wp2_with fail
          go_roundw
          case rel => exact ⟨i + 1, xp, _, A8, c8, _, by omega, by go_num, Lib.hid (by rw [hg.out, hdr.out, HR.out]; simp [hlt2]), Lib.hid ⟨fun h => by omega, fun _ => hxi.out⟩, hfin, hbf⟩
          case measure => simp [intOf]; omega
        · obtain ⟨q, rfl, pq⟩ := hprev hip
          have hip2 : decide ((0 : Int) < (i : Int)) = true := by simp; omega
          have hw : IntKind.i64.wrap ((i : Int) - 1) = ((i - 1 : Nat) : Int) := by rw [IntWalk.i64_in _ (by omega)]; omega
          have hwl : ((i - 1 : Nat) : Int) < (l.length : Int) := by omega
          clear hprev
          go_wp2_with fail
          obtain ⟨X, hXe⟩ : ∃ X, wr.drew = X := ⟨_, rfl⟩
          have kX : ∀ w', Below X.heap.size X w' → ∀ o, w'.cell? ⟨b, o, none⟩ = wr.cell? ⟨b, o, none⟩ := fun w' h o => by subst hXe; exact h.cell (p := ⟨b, o, none⟩) hbl
          have hDX : DnsAt X A' xl := by subst hXe; exact hD.below (keep_drew wr).2
          have hbX : Below wr.heap.size wr X := by subst hXe; exact (keep_drew wr).2
          replace kX := Lib.hid kX
          refine wpAnyH.region rfl (fun w' => Below X.heap.size X w') ?_
          rw [hXe]
          clear hXe
          try simp only [List.setIfInBounds_toArray, List.set_cons_zero, List.set_cons_succ]
          refine wpAnyH.takeT (i := 0) (t := 14) (v := (.slice (some ⟨b, oo, none⟩) l.length c)) rfl rfl (by decide +kernel) (by decide +kernel) (by decide +kernel) (fun _ _ _ h => h.elim) (.inl ⟨rfl, fun w' hS => ?_⟩) (Below.refl _ _) ?_
          · go_simp
          try simp only [List.setIfInBounds_toArray, List.set_cons_zero, List.set_cons_succ]
          refine wpAnyH.takeT (i := 1) (t := 15) (v := (.int .i64 (i : Nat))) rfl rfl (by decide +kernel) (by decide +kernel) (by decide +kernel) (fun _ _ _ h => h.elim) (.inl ⟨rfl, fun w' hS => ?_⟩) (Below.refl _ _) ?_
          · go_simp
          try simp only [List.setIfInBounds_toArray, List.set_cons_zero, List.set_cons_succ]
          refine wpAnyH.takeT (i := 2) (t := 16) (v := (.pointer (some ⟨b, oo + i * 4, none⟩))) rfl rfl (by decide +kernel) (by decide +kernel) (by decide +kernel) (fun _ _ _ h => h.elim) (.inl ⟨rfl, fun w' hS => ?_⟩) (Below.refl _ _) ?_
          · go_simp
          try simp only [List.setIfInBounds_toArray, List.set_cons_zero, List.set_cons_succ]
          refine wpAnyH.takeT (i := 3) (t := 17) (v := (.agg #[.int .i64 xp, .int .i64 xe, .int .i64 xn, .slice A' xl.length c'])) rfl rfl (by decide +kernel) (by decide +kernel) (by decide +kernel) (fun _ _ _ h => h.elim) (.inl ⟨rfl, fun w' hS => ?_⟩) (Below.refl _ _) ?_
          · have z0 := (kX.out w' hS _).trans p0
            have z1 := (kX.out w' hS _).trans p1
            have z2 := (kX.out w' hS _).trans p2
            have z3 := (kX.out w' hS _).trans p3
            go_simp
          try simp only [List.setIfInBounds_toArray, List.set_cons_zero, List.set_cons_succ]
          refine wpAnyH.one (i := 4) (by decide +kernel) rfl rfl ?_
          refine wp_goCall1 33 (enters_of Try.func33 (by kernel_rfl) rfl) (.tmp 17) #[92] rfl 18 rfl ?_
          refine (rright_any ⟨xp, xe, xn, xl⟩ A' c' _ hDX f3).mono ?_
          rw [HR.out]
          rintro e w4 ⟨rfl, hb4⟩
          refine ⟨_, rfl, hb4, ?_⟩
          try simp only [List.setIfInBounds_toArray, List.set_cons_zero, List.set_cons_succ]
          refine wpAnyH.takeT (i := 5) (t := 19) (v := (.bool false)) rfl rfl (by decide +kernel) (by decide +kernel) (by decide +kernel) (fun _ _ _ h => h.elim) (.inl ⟨rfl, fun w' hS => ?_⟩) hb4 ?_
          · go_simp
          try simp only [List.setIfInBounds_toArray, List.set_cons_zero, List.set_cons_succ]
          refine wpAnyH.takeT (i := 6) (t := 20) (v := (.bool false)) rfl rfl (by decide +kernel) (by decide +kernel) (by decide +kernel) (fun _ _ _ h => h.elim) (.inl ⟨rfl, fun w' hS => ?_⟩) hb4 ?_
          · go_simp
          try simp only [List.setIfInBounds_toArray, List.set_cons_zero, List.set_cons_succ]
          refine wpAnyH.takeT (i := 7) (t := 21) (v := (.int .i64 (i : Nat))) rfl rfl (by decide +kernel) (by decide +kernel) (by decide +kernel) (fun _ _ _ h => h.elim) (.inl ⟨rfl, fun w' hS => ?_⟩) hb4 ?_
          · go_simp
          try simp only [List.setIfInBounds_toArray, List.set_cons_zero, List.set_cons_succ]
          refine wpAnyH.takeT (i := 8) (t := 22) (v := (.bool true)) rfl rfl (by decide +kernel) (by decide +kernel) (by decide +kernel) (fun _ _ _ h => h.elim) (.inl ⟨rfl, fun w' hS => ?_⟩) hb4 ?_
          · go_simp
          try simp only [List.setIfInBounds_toArray, List.set_cons_zero, List.set_cons_succ]
          refine wpAnyH.takeT (i := 9) (t := 23) (v := (.bool true)) rfl rfl (by decide +kernel) (by decide +kernel) (by decide +kernel) (fun _ _ _ h => h.elim) (.inl ⟨rfl, fun w' hS => ?_⟩) hb4 ?_
          · go_simp
          try simp only [List.setIfInBounds_toArray, List.set_cons_zero, List.set_cons_succ]
          refine wpAnyH.takeT (i := 10) (t := 24) (v := (.slice (some ⟨b, oo, none⟩) l.length c)) rfl rfl (by decide +kernel) (by decide +kernel) (by decide +kernel) (fun _ _ _ h => h.elim) (.inl ⟨rfl, fun w' hS => ?_⟩) hb4 ?_
          · go_simp
          try simp only [List.setIfInBounds_toArray, List.set_cons_zero, List.set_cons_succ]
          refine wpAnyH.takeT (i := 11) (t := 25) (v := (.int .i64 (i : Nat))) rfl rfl (by decide +kernel) (by decide +kernel) (by decide +kernel) (fun _ _ _ h => h.elim) (.inl ⟨rfl, fun w' hS => ?_⟩) hb4 ?_
          · go_simp
          try simp only [List.setIfInBounds_toArray, List.set_cons_zero, List.set_cons_succ]
          refine wpAnyH.takeT (i := 12) (t := 26) (v := (.pointer (some ⟨b, oo + i * 4, none⟩))) rfl rfl (by decide +kernel) (by decide +kernel) (by decide +kernel) (fun _ _ _ h => h.elim) (.inl ⟨rfl, fun w' hS => ?_⟩) hb4 ?_
          · go_simp
          try simp only [List.setIfInBounds_toArray, List.set_cons_zero, List.set_cons_succ]
          refine wpAnyH.takeT (i := 13) (t := 27) (v := (.pointer (some ⟨b, oo + i * 4, none⟩))) rfl rfl (by decide +kernel) (by decide +kernel) (by decide +kernel) (fun _ _ _ h => h.elim) (.inl ⟨rfl, fun w' hS => ?_⟩) hb4 ?_
          · go_simp
          try simp only [List.setIfInBounds_toArray, List.set_cons_zero, List.set_cons_succ]
          refine wpAnyH.takeT (i := 14) (t := 28) (v := (.int .i64 xp)) rfl rfl (by decide +kernel) (by decide +kernel) (by decide +kernel) (fun _ _ _ h => h.elim) (.inl ⟨rfl, fun w' hS => ?_⟩) hb4 ?_
          · have z0 := (kX.out w' hS _).trans p0
            go_simp
          try simp only [List.setIfInBounds_toArray, List.set_cons_zero, List.set_cons_succ]
          refine wpAnyH.takeT (i := 15) (t := 29) (v := (.slice (some ⟨b, oo, none⟩) l.length c)) rfl rfl (by decide +kernel) (by decide +kernel) (by decide +kernel) (fun _ _ _ h => h.elim) (.inl ⟨rfl, fun w' hS => ?_⟩) hb4 ?_
          · go_simp
          try simp only [List.setIfInBounds_toArray, List.set_cons_zero, List.set_cons_succ]
          refine wpAnyH.takeT (i := 16) (t := 30) (v := (.int .i64 (i : Nat))) rfl rfl (by decide +kernel) (by decide +kernel) (by decide +kernel) (fun _ _ _ h => h.elim) (.inl ⟨rfl, fun w' hS => ?_⟩) hb4 ?_
          · go_simp
          try simp only [List.setIfInBounds_toArray, List.set_cons_zero, List.set_cons_succ]
          refine wpAnyH.takeT (i := 17) (t := 31) (v := (.int .i64 ((i - 1 : Nat) : Int))) rfl rfl (by decide +kernel) (by decide +kernel) (by decide +kernel) (fun _ _ _ h => h.elim) (.inl ⟨rfl, fun w' hS => ?_⟩) hb4 ?_
          · go_simp
          try simp only [List.setIfInBounds_toArray, List.set_cons_zero, List.set_cons_succ]
          refine wpAnyH.takeT (i := 18) (t := 32) (v := (.pointer (some ⟨b, oo + (i - 1) * 4, none⟩))) rfl rfl (by decide +kernel) (by decide +kernel) (by decide +kernel) (fun _ _ _ h => h.elim) (.inl ⟨rfl, fun w' hS => ?_⟩) hb4 ?_
          · go_simp
          try simp only [List.setIfInBounds_toArray, List.set_cons_zero, List.set_cons_succ]
          refine wpAnyH.takeT (i := 19) (t := 33) (v := (.pointer (some ⟨b, oo + (i - 1) * 4, none⟩))) rfl rfl (by decide +kernel) (by decide +kernel) (by decide +kernel) (fun _ _ _ h => h.elim) (.inl ⟨rfl, fun w' hS => ?_⟩) hb4 ?_
          · go_simp
          try simp only [List.setIfInBounds_toArray, List.set_cons_zero, List.set_cons_succ]
          refine wpAnyH.takeT (i := 20) (t := 34) (v := (.int .i64 q)) rfl rfl (by decide +kernel) (by decide +kernel) (by decide +kernel) (fun _ _ _ h => h.elim) (.inl ⟨rfl, fun w' hS => ?_⟩) hb4 ?_
          · have z0 := (kX.out w' hS _).trans pq
            go_simp
          try simp only [List.setIfInBounds_toArray, List.set_cons_zero, List.set_cons_succ]
          refine wpAnyH.takeT (i := 21) (t := 35) (v := (.bool (decide (xp ≤ q)))) rfl rfl (by decide +kernel) (by decide +kernel) (by decide +kernel) (fun _ _ _ h => h.elim) (.inl ⟨rfl, fun w' hS => ?_⟩) hb4 ?_
          · go_simp
          try simp only [List.setIfInBounds_toArray, List.set_cons_zero, List.set_cons_succ]
          refine wpAnyH.takeT (i := 22) (t := 36) (v := (.bool (decide (xp ≤ q)))) rfl rfl (by decide +kernel) (by decide +kernel) (by decide +kernel) (fun _ _ _ h => h.elim) (.inl ⟨rfl, fun w' hS => ?_⟩) hb4 ?_
          · go_simp
          try simp only [List.setIfInBounds_toArray, List.set_cons_zero, List.set_cons_succ]
          refine wpAnyH.takeT (i := 23) (t := 37) (v := (.bool (decide (xp ≤ q)))) rfl rfl (by decide +kernel) (by decide +kernel) (by decide +kernel) (fun _ _ _ h => h.elim) (.inl ⟨rfl, fun w' hS => ?_⟩) hb4 ?_
          · go_simp
          try simp only [List.setIfInBounds_toArray, List.set_cons_zero, List.set_cons_succ]
          refine wpAnyH_done (by decide +kernel) ?_ _
          refine NoPanic.normal ?_
          by_cases hle : xp ≤ q
          · go_wp2_with fail
            go_ret
            exact ⟨bl_tr hbr (bl_tr hbX hb4), .inl ⟨by rw [hg.out, hdr.out, HR.out, show decide (q < xp) = false from by simp; omega]; rfl, rfl⟩⟩
          · have hlt2 : q < xp := by omega
            clear hle
            have hb0 := bl_tr hbX hb4
            have hbr4 := bl_tr hbr hb0
            have hr4 := hr.below hb0
            have hD4 := hD.below hb0
            have hbl4 : b < w4.heap.size := Nat.lt_of_lt_of_le hbl hb0.size
            have z0 : w4.cell? ⟨b, oo + i * 4, none⟩ = some (.int .i64 xp) := (hb0.cell (p := ⟨b, _, none⟩) hbl).trans p0
            have z1 : w4.cell? ⟨b, oo + i * 4 + 1, none⟩ = some (.int .i64 xe) := (hb0.cell (p := ⟨b, _, none⟩) hbl).trans p1
            have z2 : w4.cell? ⟨b, oo + i * 4 + 2, none⟩ = some (.int .i64 xn) := (hb0.cell (p := ⟨b, _, none⟩) hbl).trans p2
            have z3 : w4.cell? ⟨b, oo + i * 4 + 3, none⟩ = some (.slice A' xl.length c') := (hb0.cell (p := ⟨b, _, none⟩) hbl).trans p3
            have hx4 : Blk (w4.alloc (.cells #[.int .i64 xp, .int .i64 xe, .int .i64 xn, .slice A' xl.length c'] 92)) w4.heap.size [.int .i64 xp, .int .i64 xe, .int .i64 xn, .slice A' xl.length c'] := Blk.new' _ _ rfl
            go_wp2_with (at_builtin; refine wpList_append_srcT rfl _ _ 90 rfl (w4.heap.size + 1) 93 i3 _ 3 24 Try.underlying90 hi3 hz3 hs3 hb3 rfl (by omega) (.slice (some ⟨w4.heap.size + 1, 0, none⟩) 0 0) 0 [] rfl ?hown2 A' xl.length c' (dnCells xl) rfl ?hsrc2 (dnCells_one xl) ?h632 ?hby2 ?hbase2 ?nx2; case' nx2 => intro A5 c5 w5 hown5 hg5; have hx5 := (hx4.alloc (.cells #[] 93)).grown hg5 (by simp [Value.ownBlock]); have q5 := hx5.cell; have u5 := hx5.unf; have l5 := hx5.lt)
            case hown2 => simpa using ownsRow_empty (w4.alloc (.cells #[.int .i64 xp, .int .i64 xe, .int .i64 xn, .slice A' xl.length c'] 92)) 93 3 (w4.heap.size + 1) (by simp)
            case hsrc2 => exact srcD (hD4.below (bl_alloc (bl_alloc (Below.refl _ _) _) _))
            case h632 => simp only [maxLen]; omega
            case hby2 => omega
            case hbase2 => simp
            have hb5 : Below w4.heap.size w4 w5 := bl_gr (bl_alloc (bl_alloc (Below.refl _ _) _) _) (g := w4.heap.size + 1) (by simpa [Value.ownBlock] using hg5) (by omega)
            simp only [Nat.zero_add, List.nil_append] at hown5 ⊢
            have hx6 : Blk (w5.setCell ⟨w4.heap.size, 3, none⟩ (.slice A5 xl.length c5)) w4.heap.size [.int .i64 xp, .int .i64 xe, .int .i64 xn, .slice A5 xl.length c5] := by simpa using hx5.set_same 3 (.slice A5 xl.length c5)
            have hown6 : (w5.setCell ⟨w4.heap.size, 3, none⟩ (.slice A5 xl.length c5)).ownsRow (w4.heap.size + 1) 93 3 (.slice A5 xl.length c5) xl.length (dnCells xl) := ownsRow_setCell_below hown5 (by dsimp only; omega) _
            have hb6 := bl_set hb5 (p := ⟨w4.heap.size, 3, none⟩) (Nat.le_refl _) (.slice A5 xl.length c5)
            have hr6 := hr4.below hb6
            generalize w5.setCell ⟨w4.heap.size, 3, none⟩ (.slice A5 xl.length c5) = W at *
            clear hx4 hx5 q5 u5 l5 hown5 hg5 hb5 z0 z1 z2 z3 p0 p1 p2 p3
            have hn6 := dnsT_of_own hown6 rfl
            clear hown6
            have hrlen : (l.take i).length = i := by simp; omega
            have hbr6 := bl_tr hbr4 hb6
            have hz4 : w.heap.size < w4.heap.size := hr4.tab.lt
            obtain ⟨X, hXe⟩ : ∃ X, W.drew = X := ⟨_, rfl⟩
            have hrX : RefAt X (w.heap.size + 1) w.heap.size gL (l.take i) A1 c1 vs := by rw [← hXe]; exact hr6.below (bl_drew (Below.refl _ _))
            have hxX : Blk X w4.heap.size [.int .i64 xp, .int .i64 xe, .int .i64 xn, .slice A5 xl.length c5] := by rw [← hXe]; exact hx6.drew
            have hnX : DnsT X A5 xl := by rw [← hXe]; exact hn6.keep (fun _ _ => rfl)
            have hbX6 : Below w.heap.size w X := by rw [← hXe]; exact bl_drew hbr6
            clear hr6 hx6 hn6 hbr6
            have hrbX : some w.heap.size ≠ gL := fun e => by have := hrX.base e.symm; omega
            have hx4X : some w4.heap.size ≠ gL := fun e => by have := hr4.lt (.inr (.inl e)); omega
            have hgX := Lib.hid (fun g (e : gL = some g) => hrX.base e)
            have hownb := hrX.own
            rw [hrlen] at hownb
            have hrowX := hrX.row
            rw [hrlen] at hrowX
            have htabX := hrX.tab
            rw [hrlen] at htabX
            replace hownb := Lib.hid hownb
            replace hrX := Lib.hid hrX
            replace hrlen := Lib.hid hrlen
            replace hnX := Lib.hid hnX
            refine anyBut.region rfl 10 (fun w' => X.grownBy w' gL) ?_
            rw [hXe]
            clear hXe
            try simp only [List.setIfInBounds_toArray, List.set_cons_zero, List.set_cons_succ]
            refine anyBut.takeW (i := 0) (t := 47) (v := (.pointer (some ⟨w.heap.size, 0, none⟩))) (by decide +kernel) rfl rfl (by decide +kernel) (by decide +kernel) (by decide +kernel) (fun _ _ _ h => h.elim) (.inl ⟨rfl, fun w' hS => ?_⟩) (World.grownBy.refl X gL) ?_
            · go_simp
            try simp only [List.setIfInBounds_toArray, List.set_cons_zero, List.set_cons_succ]
            refine anyBut.takeW (i := 1) (t := 48) (v := (.pointer (some ⟨w.heap.size, 0, none⟩))) (by decide +kernel) rfl rfl (by decide +kernel) (by decide +kernel) (by decide +kernel) (fun _ _ _ h => h.elim) (.inl ⟨rfl, fun w' hS => ?_⟩) (World.grownBy.refl X gL) ?_
            · go_simp
            try simp only [List.setIfInBounds_toArray, List.set_cons_zero, List.set_cons_succ]
            refine anyBut.takeW (i := 2) (t := 49) (v := (.pointer (some ⟨w.heap.size, 0, none⟩))) (by decide +kernel) rfl rfl (by decide +kernel) (by decide +kernel) (by decide +kernel) (fun _ _ _ h => h.elim) (.inl ⟨rfl, fun w' hS => ?_⟩) (World.grownBy.refl X gL) ?_
            · go_simp
            try simp only [List.setIfInBounds_toArray, List.set_cons_zero, List.set_cons_succ]
            refine anyBut.takeW (i := 3) (t := 50) (v := (.pointer (some ⟨w.heap.size, 0, none⟩))) (by decide +kernel) rfl rfl (by decide +kernel) (by decide +kernel) (by decide +kernel) (fun _ _ _ h => h.elim) (.inl ⟨rfl, fun w' hS => ?_⟩) (World.grownBy.refl X gL) ?_
            · go_simp
            try simp only [List.setIfInBounds_toArray, List.set_cons_zero, List.set_cons_succ]
            refine anyBut.takeW (i := 4) (t := 51) (v := (.slice A1 i c1)) (by decide +kernel) rfl rfl (by decide +kernel) (by decide +kernel) (by decide +kernel) (fun _ _ _ h => h.elim) (.inl ⟨rfl, fun w' hS => ?_⟩) (World.grownBy.refl X gL) ?_
            · have y0 := (htabX.grown hS hrbX).get (j := 0) rfl
              go_simp
            try simp only [List.setIfInBounds_toArray, List.set_cons_zero, List.set_cons_succ]
            refine anyBut.takeW (i := 5) (t := 52) (v := (.agg #[.int .i64 xp, .int .i64 xe, .int .i64 xn, .slice A5 xl.length c5])) (by decide +kernel) rfl rfl (by decide +kernel) (by decide +kernel) (by decide +kernel) (fun _ _ _ h => h.elim) (.inl ⟨rfl, fun w' hS => ?_⟩) (World.grownBy.refl X gL) ?_
            · have hx := hxX.grown hS hx4X
              have y0 := hx.get (j := 0) rfl
              have y1 := hx.get (j := 1) rfl
              have y2 := hx.get (j := 2) rfl
              have y3 := hx.get (j := 3) rfl
              go_simp
            try simp only [List.setIfInBounds_toArray, List.set_cons_zero, List.set_cons_succ]
            refine anyBut.one (i := 6) (by decide +kernel) rfl rfl ?_
            go_simp
            have gY := gr_alloc (World.grownBy.refl X gL) (.cells #[.int .i64 xp, .int .i64 xe, .int .i64 xn, .slice A5 xl.length c5] 92)
            refine ⟨gY, ?_⟩
            try simp only [List.setIfInBounds_toArray, List.set_cons_zero, List.set_cons_succ]
            refine anyBut.one (i := 7) (by decide +kernel) rfl rfl ?_
            refine wp_append_src 54 rfl (.tmp 51) (.tmp 53) 42 rfl (w.heap.size + 1) 92 i2 _ 4 48 Try.underlying42 hi2 hz2 hs2 hb2 rfl (by decide) (.slice A1 i c1) i _ rfl (hrowX.alloc _) (some ⟨X.heap.size, 0, none⟩) 1 1 (entL ⟨xp, xe, xn, xl⟩ (.slice A5 xl.length c5)) rfl (src_new X (entL ⟨xp, xe, xn, xl⟩ (.slice A5 xl.length c5)) 92 1 4 rfl) (by intro u hu; simp [entL] at hu; rcases hu with rfl | rfl | rfl | rfl <;> rfl) (by simp only [maxLen]; omega) (by omega) (by have := hbX6.size; have := htabX.lt; simp; omega) ?_
            intro A8 c8 Y own8 g8
            rw [hownb.out] at g8
            have gY8 := gr_trg gY g8
            refine ⟨.inr gY8, ?_⟩
            try simp only [List.setIfInBounds_toArray, List.set_cons_zero, List.set_cons_succ]
            refine anyBut.one (i := 8) (by decide +kernel) rfl rfl ?_
            go_simp
            try simp only [List.setIfInBounds_toArray, List.set_cons_zero, List.set_cons_succ]
            refine anyBut.one (i := 9) (by decide +kernel) rfl rfl ?_
            go_simp
            try simp only [List.setIfInBounds_toArray, List.set_cons_zero, List.set_cons_succ]
            refine anyBut.one (i := 10) (by decide +kernel) rfl rfl ?_
            have htY := htabX.grown gY8 hrbX
            have r3 := htY.cell
            have u3 := htY.unf
            go_simp
            try simp only [List.setIfInBounds_toArray, List.set_cons_zero, List.set_cons_succ]
            refine anyBut.done (by decide +kernel) ?_ _
            refine NoPanic.normal ?_
            have hfin := hrX.out.push (x := ⟨xp, xe, xn, xl⟩) (A' := A8) (c' := c8) gY8 (by omega) (by rw [hrlen.out]; exact own8) hnX.out
            rw [hrlen.out] at hfin
            rw [← hTk.out] at hfin
            have hbf : Below w.heap.size w (Y.setCell ⟨w.heap.size, 0, none⟩ (.slice A8 (i + 1) c8)) := bl_set (hbX6.grown gY8 hbX6.size (fun g e => by have := hgX.out g e; omega)) (Nat.le_refl _) _
            generalize Y.setCell ⟨w.heap.size, 0, none⟩ (.slice A8 (i + 1) c8) = Z at *
            clear gY gY8 g8 own8 htY r3 u3
            go_wp2_with fail
            go_roundw
            case rel => exact ⟨i + 1, xp, _, A8, c8, _, by omega, by go_num, Lib.hid (by rw [hg.out, hdr.out, HR.out]; simp [hlt2]), Lib.hid ⟨fun h => by omega, fun _ => hxi.out⟩, hfin, hbf⟩
            case measure => simp [intOf]; omega
    · obtain rfl : i = l.length := by omega
      simp only [List.take_length, List.drop_length] at hr hg
      go_wp2_with fail
      go_ret
      exact ⟨hbr, .inr ⟨hg.out, rfl, gL, A1, c1, vs, hr⟩⟩
end Go.Proofs.Ytjpmdjjihdicdaa
