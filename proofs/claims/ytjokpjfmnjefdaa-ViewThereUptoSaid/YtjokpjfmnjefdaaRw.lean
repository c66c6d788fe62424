/- The document's with: a table with a pair at its place. -/
import Derived.Test.YtjokpjfmnjefdaaRa
namespace Go.Proofs.Ytjokpjfmnjefdaa
open Go.RowKit Go.Shelf
attribute [local go_sem] Oper.semAt_some

theorem wp_append_src {P : Program} {w : World} {o : Oper} {a : Act} (d : Nat) (hd : o.dst = some d) {K : Act → World → Prop} {Q : Exit → Act → World → Prop} (s x : Operand) (t : TypeId)
    (ho : o.op = .call { callee := .builtin .append, args := #[s, x], argTypes := #[t, t] })
    (base : Nat) (e : TypeId) (i : TypeInfo) (z : Value) (size bytes : Nat) (ht : P.underlying t = some (.slice e)) (hi : P.info? e = some i) (hz : i.zero = some z)
    (hsize : i.size = size) (hby : i.bytes = bytes) (hzs : z.cells.size = size) (hsz : 0 < size) (v : Value) (n : Nat) (xs : List Value) (hs : a.eval s = v) (hown : w.ownsRow base e size v n xs)
    (A : Option Addr) (m c : Nat) (news : List Value) (hx : a.eval x = .slice A m c) (hsrc : SrcAt w A m size news) (h1 : ∀ u ∈ news, u.oneCell' = true) (h63 : n + m ≤ maxLen) (hbytes : (n + m) * bytes ≤ 140737488355328) (hbase : base ≤ w.heap.size)
    (h : ∀ A' c' w', w'.ownsRow base e size (.slice A' (n + m) c') (n + m) (xs ++ news) → w.grownBy w' v.ownBlock → K { a with tmps := a.tmps.setIfInBounds d (.slice A' (n + m) c') } w') :
    Oper.wp P o a w K Q := by
  obtain ⟨v', w', hr, h2, h3⟩ := run_append_src (P := P) (w := w) base t o.type e i z size bytes ht hi hz hsize hby hzs hsz v n xs hown A m c news hsrc h1 h63 hbytes hbase
  obtain ⟨A', c', rfl, _⟩ := ownsRow_tells h2
  unfold Oper.wp execOp
  simp only [ho, resolve, invoke, builtin, Sem.run_bind, Sem.run_pure, Result.andThen_ok, List.map_toArray, List.map_cons, List.map_nil, hs, hx, hr]
  rw [Oper.upon_value, hd]
  exact h A' c' w' h2 h3

theorem insL_at (p : Pr) : ∀ (m : List Pr) (k : Nat), k ≤ m.length → (∀ j (h : j < m.length), j < k → sb m[j].key p.key = true) → (∀ (h : k < m.length), sb p.key m[k].key = true) → insL p m = m.take k ++ [p] ++ m.drop k
  | [], k, hk, _, _ => by simp at hk; subst hk; rfl
  | y :: r, 0, _, _, h2 => by
    have := h2 (by simp)
    simp only [List.getElem_cons_zero] at this
    simp [insL, this]
  | y :: r, k + 1, hk, h1, h2 => by
    have hy := h1 0 (by simp) (by omega)
    simp only [List.getElem_cons_zero] at hy
    rw [insL, if_neg (by rw [sb_asymm hy]; simp)]
    rw [insL_at p r k (by simpa using hk) (fun j h hj => by have := h1 (j + 1) (by simpa using h) (by omega); simpa using this) (fun h => by have := h2 (by simpa using h); simpa using this)]
    simp
theorem SrcAt.grown {w w' : World} {g m size : Nat} {news : List Value} {row : Option Nat} (h : SrcAt w (some ⟨g, 0, none⟩) m size news) (hg : w.grownBy w' row) (hl : g < w.heap.size) (hne : some g ≠ row) : SrcAt w' (some ⟨g, 0, none⟩) m size news := by
  refine ⟨h.1, fun hm => ?_⟩
  obtain ⟨ad, e, hc⟩ := h.2 hm
  cases e
  exact ⟨_, rfl, fun j u hu => (World.cell?_of_block (w := w) (w' := w') (a := Addr.add ⟨g, 0, none⟩ j) (by rw [Addr.add_mid]; exact hg.block g hl hne)).trans (hc j u hu)⟩
theorem without_key {l : List Pr} {k : ByteArray} {x : Pr} (h : x ∈ withoutL l k) : x.key ≠ k := by
  have := (List.mem_filter.1 h).2
  simpa using this

set_option maxRecDepth 100000 in
set_option maxHeartbeats 2000000 in
theorem with_any (A : Option Addr) (c : Nat) (l : List Pr) (p : Pr) (w : World) (hl : LAt w A 3 prL l) (hll : l.length < 3518437208800) :
    Calls Try.prog 39 #[.slice A l.length c, .agg #[.string p.key, .string p.val, .int .i64 p.off]] w fun e w' => ∃ A' c', e = .returned (.slice A' (withL l p).length c') ∧ PRow w' w.heap.size A' c' (withL l p) ∧ Below w.heap.size w w' := by
  obtain ⟨i0, hi0, hz0, hz1, hz2⟩ := info_parts info65
  go_enter Try.func39, Try.ntmps39
  go_wp2_with fail
  have hB := Blk.new w #[.string p.key, .string p.val, .int .i64 p.off] 65
  have hb0 := bl_alloc (Below.refl w.heap.size w) (.cells #[.string p.key, .string p.val, .int .i64 p.off] 65)
  generalize hW : w.alloc (.cells #[.string p.key, .string p.val, .int .i64 p.off] 65) = W at hB hb0 ⊢
  have hWs : w.heap.size < W.heap.size := hB.lt
  refine (without_any A c l p.key W (hl.below hb0) (by omega)).mono ?_
  rintro e w1 ⟨A1, c1, rfl, hP, hw1⟩
  have hB1 : Blk w1 w.heap.size [.string p.key, .string p.val, .int .i64 p.off] := hB.below hw1 hWs
  have hb1 := bl_tr hb0 hw1
  have hml := len_without l p.key
  have hkey : ∀ x ∈ withoutL l p.key, x.key ≠ p.key := fun x hx => without_key hx
  have hR : withL l p = insL p (withoutL l p.key) := rfl
  clear hl hB hW hb0
  generalize withoutL l p.key = m at *
  replace hkey := Lib.hid hkey
  replace hR := Lib.hid hR
  have q0 := hB1.get (j := 0) rfl
  have q1 := hB1.get (j := 1) rfl
  have q2 := hB1.get (j := 2) rfl
  go_wp2_with fail
  go_loopw [5] (fun u wr => ∃ k : Nat, k ≤ m.length ∧ u = .int .i64 k ∧ (∀ j (h : j < m.length), j < k → sb m[j].key p.key = true) ∧ Below w1.heap.size w1 wr) (fun u _ => m.length - (intOf u).toNat)
  case atStart => exact ⟨0, Nat.zero_le _, rfl, fun _ _ h => absurd h (by omega), Below.refl _ _⟩
  case round =>
    obtain ⟨k, hk, rfl, h1, hb⟩ := hrel
    replace h1 := Lib.hid h1
    have hB2 : Blk wr w.heap.size [.string p.key, .string p.val, .int .i64 p.off] := hB1.below hb hB1.lt
    have hP2 := hP.below hb
    have q0 := hB2.get (j := 0) rfl
    have q1 := hB2.get (j := 1) rfl
    have q2 := hB2.get (j := 2) rfl
    by_cases hlt : k < m.length
    · obtain ⟨b, o, rfl, hbl, ca⟩ := hP2.row k hlt
      have a0 : wr.cell? ⟨b, o + k * 3, none⟩ = some (.string m[k].key) := ca 0 _ rfl
      have hltI : (k : Int) < (m.length : Int) := by omega
      have hkI : decide ((k : Int) < (m.length : Int)) = true := by simpa using hlt
      clear ca
      by_cases hs : sb m[k].key p.key = true
      · have hN := Lib.hid (show ∀ j (h : j < m.length), j < k + 1 → sb m[j].key p.key = true from fun j h hj => by
          by_cases e : j = k
          · subst e; exact hs
          · exact h1.out j h (by omega))
        have hs2 : Op.bytesLess m[k].key.toList p.key.toList = true := by rw [str_lt]; exact hs
        clear hs
        generalize m[k].key = x at a0 hs2
        go_wp2_with fail
        go_quiet (fail)
        go_wp2_with fail
        go_roundw
        case rel => exact ⟨k + 1, by omega, by go_num, hN.out, bl_drewN hb _⟩
        case measure => simp [intOf]; omega
      · have hs2 : Op.bytesLess m[k].key.toList p.key.toList = false := by rw [str_lt]; simpa using hs
        have hins := Lib.hid (insL_at p m k hk h1.out fun h => by
          have h3 := hkey.out m[k] (List.getElem_mem _)
          rcases sb_total h3 with h4 | h4
          · exact absurd h4 hs
          · exact h4)
        clear hs
        generalize m[k].key = x at a0 hs2
        go_wp2_with fail
        go_quiet (fail)
        go_wp2_with fail
        have hbX := bl_drewN hb
        generalize hX : wr.drewN _ = X0
        obtain ⟨X, hXe⟩ : ∃ X, X0.drew = X := ⟨_, rfl⟩
        replace hbX : Below w1.heap.size w1 X := by rw [← hXe, ← hX]; exact bl_drew (hbX _)
        clear hX hb hP2 hB2 h1 hkey a0 q0 q1 q2
        have hXs := hbX.size
        have hPX := hP.below hbX
        have hBX := hB1.below hbX hB1.lt
        have hcap := hP.cap
        have hXL : LBel X.heap.size (some ⟨b, o, none⟩) m := hPX.row.bel
        have htk : (m.take k).length = k := by simp; omega
        replace htk := Lib.hid htk
        have hkI0 : (0 : Int) ≤ (k : Int) := by omega
        have hkI1 : (k : Int) ≤ (c1 : Int) := by omega
        have hkI2 : (k : Int) ≤ (m.length : Int) := by omega
        refine wpAnyH.region rfl (fun w' => Below X.heap.size X w') ?_
        rw [hXe]
        clear hXe
        refine wpAnyH.takeT (i := 1) (t := 27) (v := .slice (some ⟨b, o, none⟩) m.length c1) rfl rfl (by decide +kernel) (by decide +kernel) (by decide +kernel) (fun _ _ _ h => h.elim) (.inl ⟨rfl, fun w' hS => ?_⟩) (Below.refl _ _) ?_
        · go_simp
        try simp only [List.setIfInBounds_toArray, List.set_cons_zero, List.set_cons_succ]
        refine wpAnyH.takeT (i := 2) (t := 28) (v := .int .i64 k) rfl rfl (by decide +kernel) (by decide +kernel) (by decide +kernel) (fun _ _ _ h => h.elim) (.inl ⟨rfl, fun w' hS => ?_⟩) (Below.refl _ _) ?_
        · go_simp
        try simp only [List.setIfInBounds_toArray, List.set_cons_zero, List.set_cons_succ]
        refine wpAnyH.takeT (i := 3) (t := 29) (v := .slice (some ⟨b, o, none⟩) k c1) rfl rfl (by decide +kernel) (by decide +kernel) (by decide +kernel) (fun _ _ _ h => h.elim) (.inl ⟨rfl, fun w' hS => ?_⟩) (Below.refl _ _) ?_
        · go_simp
        try simp only [List.setIfInBounds_toArray, List.set_cons_zero, List.set_cons_succ]
        refine wpAnyH.takeT (i := 5) (t := 31) (v := .agg #[.string p.key, .string p.val, .int .i64 p.off]) rfl rfl (by decide +kernel) (by decide +kernel) (by decide +kernel) (fun _ _ _ h => h.elim) (.inl ⟨rfl, fun w' hS => ?_⟩) (Below.refl _ _) ?_
        · have hB' := hBX.below hS hBX.lt
          have r0 := hB'.get (j := 0) rfl
          have r1 := hB'.get (j := 1) rfl
          have r2 := hB'.get (j := 2) rfl
          go_simp
        try simp only [List.setIfInBounds_toArray, List.set_cons_zero, List.set_cons_succ]
        refine wpAnyH.takeT (i := 8) (t := 34) (v := .slice (some ⟨b, o, none⟩) m.length c1) rfl rfl (by decide +kernel) (by decide +kernel) (by decide +kernel) (fun _ _ _ h => h.elim) (.inl ⟨rfl, fun w' hS => ?_⟩) (Below.refl _ _) ?_
        · go_simp
        try simp only [List.setIfInBounds_toArray, List.set_cons_zero, List.set_cons_succ]
        refine wpAnyH.takeT (i := 9) (t := 35) (v := .int .i64 k) rfl rfl (by decide +kernel) (by decide +kernel) (by decide +kernel) (fun _ _ _ h => h.elim) (.inl ⟨rfl, fun w' hS => ?_⟩) (Below.refl _ _) ?_
        · go_simp
        try simp only [List.setIfInBounds_toArray, List.set_cons_zero, List.set_cons_succ]
        obtain ⟨A3, hA3⟩ : ∃ A3 : Option Addr, A3 = if c1 = k then (some ⟨b, o, none⟩) else Option.map (fun a : Addr => a.add (k * 3)) (some ⟨b, o, none⟩) := ⟨_, rfl⟩
        refine wpAnyH.takeT (i := 10) (t := 36) (v := .slice A3 (m.length - k) (c1 - k)) rfl rfl (by decide +kernel) (by decide +kernel) (by decide +kernel) (fun _ _ _ h => h.elim) (.inl ⟨rfl, fun w' hS => ?_⟩) (Below.refl _ _) ?_
        · have hA3' := hA3
          clear hkI
          go_simp
          first | (rw [hA3']; done) | (simp [hA3', Addr.add, Option.map]; done) | (rw [hA3']; split <;> rfl) | skip
        try simp only [List.setIfInBounds_toArray, List.set_cons_zero, List.set_cons_succ]
        have hsk : ∀ Y, Below X.heap.size X Y → SrcAt Y (some ⟨b, o, none⟩) k 3 ((m.take k).flatMap prL) := fun Y hY => by
          have := LAt.src prL_len (by omega) (((hPX.row.below hY).take k))
          rwa [htk.out] at this
        have hsd : ∀ Y, Below X.heap.size X Y → SrcAt Y A3 (m.length - k) 3 ((m.drop k).flatMap prL) := fun Y hY => by
          by_cases e : k < m.length
          · obtain ⟨b1, o1, hAe, _, _⟩ := hPX.row k e
            have hPY := hPX.row
            rw [hAe] at hPY
            rw [hA3, if_neg (by omega), hAe]
            have := LAt.src prL_len (by omega) ((hPY.below hY).drop k)
            rw [List.length_drop] at this
            simp only [Option.map_some, Addr.add_mid]
            exact this
          · have e2 : m.length - k = 0 := by omega
            rw [e2, List.drop_eq_nil_of_le (by omega)]
            exact ⟨rfl, fun h => absurd rfl h⟩
        clear hA3 hXL
        replace hsk := Lib.hid hsk
        replace hsd := Lib.hid hsd
        refine wpAnyH_all (rs := [0, 6]) (by decide +kernel) (by simp) fun q hq => ?_
        simp only [List.mem_cons, List.not_mem_nil, or_false] at hq
        rcases hq with rfl | rfl
        · skip
          refine wpOp_of rfl rfl ?_
          go_simp
          have bY1 : Below X.heap.size X (X.alloc (.cells #[] 65)) := bl_alloc (Below.refl _ _) _
          refine ⟨bY1, ?_⟩
          have own1 : (X.alloc (.cells #[] 65)).ownsRow X.heap.size 65 3 (.slice (some ⟨X.heap.size, 0, none⟩) 0 0) 0 [] := ownsRow_empty X 65 3 _ (Nat.le_refl _)
          generalize hY1 : X.alloc (.cells #[] 65) = Y1 at *
          have hs1 : X.heap.size < Y1.heap.size := by rw [← hY1]; simp
          clear hY1
          try simp only [List.setIfInBounds_toArray, List.set_cons_zero, List.set_cons_succ]
          refine wpAnyH_all (rs := [4, 6]) (by decide +kernel) (by simp) fun q hq => ?_
          simp only [List.mem_cons, List.not_mem_nil, or_false] at hq
          rcases hq with rfl | rfl
          · refine wpOp_of rfl rfl ?_
            refine wp_append_src 30 rfl (.tmp 26) (.tmp 29) 28 rfl X.heap.size 65 i0 _ 3 40 Try.underlying28 hi0 hz0 hz1 hz2 rfl (by decide) (.slice (some ⟨X.heap.size, 0, none⟩) 0 0) 0 [] rfl own1 (some ⟨b, o, none⟩) k c1 ((m.take k).flatMap prL) rfl (hsk.out _ bY1) (flat_one prL_one _) (by simp only [maxLen]; omega) (by omega) (by have := (bY1).size; simpa using this) ?_
            intro AY2 cY2 Y2 ownY2 gY2
            have bY2 := bl_own bY1 own1 (Nat.le_refl _) gY2
            try simp only [Nat.zero_add, List.nil_append] at ownY2 ⊢
            refine ⟨bY2, ?_⟩
            try simp only [List.setIfInBounds_toArray, List.set_cons_zero, List.set_cons_succ]
            refine wpAnyH.one (i := 6) (by decide +kernel) rfl rfl ?_
            go_simp
            have bY3 : Below X.heap.size X (Y2.alloc (.cells #[.string p.key, .string p.val, .int .i64 p.off] 65)) := bl_alloc bY2 _
            refine ⟨bY3, ?_⟩
            try simp only [List.setIfInBounds_toArray, List.set_cons_zero, List.set_cons_succ]
            refine wpAnyH.one (i := 7) (by decide +kernel) rfl rfl ?_
            refine wp_append_src 33 rfl (.tmp 30) (.tmp 32) 28 rfl X.heap.size 65 i0 _ 3 40 Try.underlying28 hi0 hz0 hz1 hz2 rfl (by decide) (.slice AY2 k cY2) k ((m.take k).flatMap prL) rfl (ownY2.alloc _) (some ⟨Y2.heap.size, 0, none⟩) 1 1 (prL p) rfl (src_new Y2 (prL p) 65 1 3 rfl) (prL_one p) (by simp only [maxLen]; omega) (by omega) (by have := (bY3).size; simpa using this) ?_
            intro AYa cYa Ya ownYa gYa
            have bYa := bl_own bY3 (ownY2.alloc _) (Nat.le_refl _) gYa
            try simp only [Nat.zero_add, List.nil_append] at ownYa ⊢
            refine ⟨bYa, ?_⟩
            try simp only [List.setIfInBounds_toArray, List.set_cons_zero, List.set_cons_succ]
            refine wpAnyH.one (i := 11) (by decide +kernel) rfl rfl ?_
            refine wp_append_src 37 rfl (.tmp 33) (.tmp 36) 28 rfl X.heap.size 65 i0 _ 3 40 Try.underlying28 hi0 hz0 hz1 hz2 rfl (by decide) (.slice AYa (k + 1) cYa) (k + 1) ((m.take k).flatMap prL ++ prL p) rfl ownYa A3 (m.length - k) (c1 - k) ((m.drop k).flatMap prL) rfl (hsd.out _ bYa) (flat_one prL_one _) (by simp only [maxLen]; omega) (by omega) (by have := (bYa).size; simpa using this) ?_
            intro AYb cYb Yb ownYb gYb
            have bYb := bl_own bYa ownYa (Nat.le_refl _) gYb
            try simp only [Nat.zero_add, List.nil_append] at ownYb ⊢
            refine ⟨bYb, ?_⟩
            try simp only [List.setIfInBounds_toArray, List.set_cons_zero, List.set_cons_succ]
            refine wpAnyH.takeT (i := 12) (t := 4) (v := .slice AYb (k + 1 + (m.length - k)) cYb) rfl rfl (by decide +kernel) (by decide +kernel) (by decide +kernel) (fun _ _ _ h => h.elim) (.inl ⟨rfl, fun w' hS => by go_simp⟩) bYb ?_
            try simp only [List.setIfInBounds_toArray, List.set_cons_zero, List.set_cons_succ]
            refine wpAnyH_done (by decide +kernel) ?_ _
            refine NoPanic.normal ?_
            have hlen : k + 1 + (m.length - k) = m.length + 1 := by omega
            rw [hlen] at ownYb ⊢
            go_wp2_with fail
            go_ret
            have hf : (m.take k).flatMap prL ++ prL p ++ (m.drop k).flatMap prL = (insL p m).flatMap prL := by rw [hins.out]; simp
            rw [hf] at ownYb
            have hL : m.length + 1 = (insL p m).length := (len_ins p m).symm
            rw [hL] at ownYb
            rw [hL]
            rw [hR.out]
            exact ⟨AYb, cYb, rfl, (PRow.of_own ownYb rfl).mono (Nat.le_trans hb1.size hXs), bl_tr hb1 (bl_tr hbX bYb)⟩
          · refine wpOp_of rfl rfl ?_
            go_simp
            have bY2 : Below X.heap.size X (Y1.alloc (.cells #[.string p.key, .string p.val, .int .i64 p.off] 65)) := bl_alloc bY1 _
            refine ⟨bY2, ?_⟩
            try simp only [List.setIfInBounds_toArray, List.set_cons_zero, List.set_cons_succ]
            have hN : SrcAt (Y1.alloc (.cells (prL p).toArray 65)) (some ⟨Y1.heap.size, 0, none⟩) 1 3 (prL p) := src_new Y1 (prL p) 65 1 3 rfl
            have own2 := own1.alloc (.cells (prL p).toArray 65)
            refine wpAnyH.one (i := 4) (by decide +kernel) rfl rfl ?_
            refine wp_append_src 30 rfl (.tmp 26) (.tmp 29) 28 rfl X.heap.size 65 i0 _ 3 40 Try.underlying28 hi0 hz0 hz1 hz2 rfl (by decide) (.slice (some ⟨X.heap.size, 0, none⟩) 0 0) 0 [] rfl own2 (some ⟨b, o, none⟩) k c1 ((m.take k).flatMap prL) rfl (hsk.out _ bY2) (flat_one prL_one _) (by simp only [maxLen]; omega) (by omega) (by have := (bY2).size; simpa using this) ?_
            intro AY3 cY3 Y3 ownY3 gY3
            have bY3 := bl_own bY2 own2 (Nat.le_refl _) gY3
            try simp only [Nat.zero_add, List.nil_append] at ownY3 ⊢
            have hN3 : SrcAt Y3 (some ⟨Y1.heap.size, 0, none⟩) 1 3 (prL p) := hN.grown gY3 (by simp) (by simp [Value.ownBlock]; omega)
            refine ⟨bY3, ?_⟩
            try simp only [List.setIfInBounds_toArray, List.set_cons_zero, List.set_cons_succ]
            refine wpAnyH.one (i := 7) (by decide +kernel) rfl rfl ?_
            refine wp_append_src 33 rfl (.tmp 30) (.tmp 32) 28 rfl X.heap.size 65 i0 _ 3 40 Try.underlying28 hi0 hz0 hz1 hz2 rfl (by decide) (.slice AY3 k cY3) k ((m.take k).flatMap prL) rfl ownY3 (some ⟨Y1.heap.size, 0, none⟩) 1 1 (prL p) rfl hN3 (prL_one p) (by simp only [maxLen]; omega) (by omega) (by have := (bY3).size; simpa using this) ?_
            intro AYa cYa Ya ownYa gYa
            have bYa := bl_own bY3 ownY3 (Nat.le_refl _) gYa
            try simp only [Nat.zero_add, List.nil_append] at ownYa ⊢
            refine ⟨bYa, ?_⟩
            try simp only [List.setIfInBounds_toArray, List.set_cons_zero, List.set_cons_succ]
            refine wpAnyH.one (i := 11) (by decide +kernel) rfl rfl ?_
            refine wp_append_src 37 rfl (.tmp 33) (.tmp 36) 28 rfl X.heap.size 65 i0 _ 3 40 Try.underlying28 hi0 hz0 hz1 hz2 rfl (by decide) (.slice AYa (k + 1) cYa) (k + 1) ((m.take k).flatMap prL ++ prL p) rfl ownYa A3 (m.length - k) (c1 - k) ((m.drop k).flatMap prL) rfl (hsd.out _ bYa) (flat_one prL_one _) (by simp only [maxLen]; omega) (by omega) (by have := (bYa).size; simpa using this) ?_
            intro AYb cYb Yb ownYb gYb
            have bYb := bl_own bYa ownYa (Nat.le_refl _) gYb
            try simp only [Nat.zero_add, List.nil_append] at ownYb ⊢
            refine ⟨bYb, ?_⟩
            try simp only [List.setIfInBounds_toArray, List.set_cons_zero, List.set_cons_succ]
            refine wpAnyH.takeT (i := 12) (t := 4) (v := .slice AYb (k + 1 + (m.length - k)) cYb) rfl rfl (by decide +kernel) (by decide +kernel) (by decide +kernel) (fun _ _ _ h => h.elim) (.inl ⟨rfl, fun w' hS => by go_simp⟩) bYb ?_
            try simp only [List.setIfInBounds_toArray, List.set_cons_zero, List.set_cons_succ]
            refine wpAnyH_done (by decide +kernel) ?_ _
            refine NoPanic.normal ?_
            have hlen : k + 1 + (m.length - k) = m.length + 1 := by omega
            rw [hlen] at ownYb ⊢
            go_wp2_with fail
            go_ret
            have hf : (m.take k).flatMap prL ++ prL p ++ (m.drop k).flatMap prL = (insL p m).flatMap prL := by rw [hins.out]; simp
            rw [hf] at ownYb
            have hL : m.length + 1 = (insL p m).length := (len_ins p m).symm
            rw [hL] at ownYb
            rw [hL]
            rw [hR.out]
            exact ⟨AYb, cYb, rfl, (PRow.of_own ownYb rfl).mono (Nat.le_trans hb1.size hXs), bl_tr hb1 (bl_tr hbX bYb)⟩
        · refine wpOp_of rfl rfl ?_
          go_simp
          have bY1 : Below X.heap.size X (X.alloc (.cells #[.string p.key, .string p.val, .int .i64 p.off] 65)) := bl_alloc (Below.refl _ _) _
          refine ⟨bY1, ?_⟩
          try simp only [List.setIfInBounds_toArray, List.set_cons_zero, List.set_cons_succ]
          have hN : SrcAt (X.alloc (.cells (prL p).toArray 65)) (some ⟨X.heap.size, 0, none⟩) 1 3 (prL p) := src_new X (prL p) 65 1 3 rfl
          generalize hY1 : X.alloc (.cells #[.string p.key, .string p.val, .int .i64 p.off] 65) = Y1 at *
          have hN1 : SrcAt Y1 (some ⟨X.heap.size, 0, none⟩) 1 3 (prL p) := by rw [← hY1]; exact hN
          have hs1 : X.heap.size < Y1.heap.size := by rw [← hY1]; simp
          clear hY1 hN
          refine wpAnyH.one (i := 0) (by decide +kernel) rfl rfl ?_
          go_simp
          have bY2 : Below X.heap.size X (Y1.alloc (.cells #[] 65)) := bl_alloc bY1 _
          refine ⟨bY2, ?_⟩
          try simp only [List.setIfInBounds_toArray, List.set_cons_zero, List.set_cons_succ]
          have own2 : (Y1.alloc (.cells #[] 65)).ownsRow X.heap.size 65 3 (.slice (some ⟨Y1.heap.size, 0, none⟩) 0 0) 0 [] := ownsRow_empty Y1 65 3 _ (by omega)
          refine wpAnyH.one (i := 4) (by decide +kernel) rfl rfl ?_
          refine wp_append_src 30 rfl (.tmp 26) (.tmp 29) 28 rfl X.heap.size 65 i0 _ 3 40 Try.underlying28 hi0 hz0 hz1 hz2 rfl (by decide) (.slice (some ⟨Y1.heap.size, 0, none⟩) 0 0) 0 [] rfl own2 (some ⟨b, o, none⟩) k c1 ((m.take k).flatMap prL) rfl (hsk.out _ bY2) (flat_one prL_one _) (by simp only [maxLen]; omega) (by omega) (by have := (bY2).size; simpa using this) ?_
          intro AY3 cY3 Y3 ownY3 gY3
          have bY3 := bl_own bY2 own2 (Nat.le_refl _) gY3
          try simp only [Nat.zero_add, List.nil_append] at ownY3 ⊢
          have hN3 : SrcAt Y3 (some ⟨X.heap.size, 0, none⟩) 1 3 (prL p) := ((hN1.grown (gr_below (bl_alloc (Below.refl _ _) _) none) (by omega) (by simp)).grown gY3 (by simp; omega) (by simp [Value.ownBlock]; omega))
          refine ⟨bY3, ?_⟩
          try simp only [List.setIfInBounds_toArray, List.set_cons_zero, List.set_cons_succ]
          refine wpAnyH.one (i := 7) (by decide +kernel) rfl rfl ?_
          refine wp_append_src 33 rfl (.tmp 30) (.tmp 32) 28 rfl X.heap.size 65 i0 _ 3 40 Try.underlying28 hi0 hz0 hz1 hz2 rfl (by decide) (.slice AY3 k cY3) k ((m.take k).flatMap prL) rfl ownY3 (some ⟨X.heap.size, 0, none⟩) 1 1 (prL p) rfl hN3 (prL_one p) (by simp only [maxLen]; omega) (by omega) (by have := (bY3).size; simpa using this) ?_
          intro AYa cYa Ya ownYa gYa
          have bYa := bl_own bY3 ownY3 (Nat.le_refl _) gYa
          try simp only [Nat.zero_add, List.nil_append] at ownYa ⊢
          refine ⟨bYa, ?_⟩
          try simp only [List.setIfInBounds_toArray, List.set_cons_zero, List.set_cons_succ]
          refine wpAnyH.one (i := 11) (by decide +kernel) rfl rfl ?_
          refine wp_append_src 37 rfl (.tmp 33) (.tmp 36) 28 rfl X.heap.size 65 i0 _ 3 40 Try.underlying28 hi0 hz0 hz1 hz2 rfl (by decide) (.slice AYa (k + 1) cYa) (k + 1) ((m.take k).flatMap prL ++ prL p) rfl ownYa A3 (m.length - k) (c1 - k) ((m.drop k).flatMap prL) rfl (hsd.out _ bYa) (flat_one prL_one _) (by simp only [maxLen]; omega) (by omega) (by have := (bYa).size; simpa using this) ?_
          intro AYb cYb Yb ownYb gYb
          have bYb := bl_own bYa ownYa (Nat.le_refl _) gYb
          try simp only [Nat.zero_add, List.nil_append] at ownYb ⊢
          refine ⟨bYb, ?_⟩
          try simp only [List.setIfInBounds_toArray, List.set_cons_zero, List.set_cons_succ]
          refine wpAnyH.takeT (i := 12) (t := 4) (v := .slice AYb (k + 1 + (m.length - k)) cYb) rfl rfl (by decide +kernel) (by decide +kernel) (by decide +kernel) (fun _ _ _ h => h.elim) (.inl ⟨rfl, fun w' hS => by go_simp⟩) bYb ?_
          try simp only [List.setIfInBounds_toArray, List.set_cons_zero, List.set_cons_succ]
          refine wpAnyH_done (by decide +kernel) ?_ _
          refine NoPanic.normal ?_
          have hlen : k + 1 + (m.length - k) = m.length + 1 := by omega
          rw [hlen] at ownYb ⊢
          go_wp2_with fail
          go_ret
          have hf : (m.take k).flatMap prL ++ prL p ++ (m.drop k).flatMap prL = (insL p m).flatMap prL := by rw [hins.out]; simp
          rw [hf] at ownYb
          have hL : m.length + 1 = (insL p m).length := (len_ins p m).symm
          rw [hL] at ownYb
          rw [hL]
          rw [hR.out]
          exact ⟨AYb, cYb, rfl, (PRow.of_own ownYb rfl).mono (Nat.le_trans hb1.size hXs), bl_tr hb1 (bl_tr hbX bYb)⟩
    · have hkI : decide ((k : Int) < (m.length : Int)) = false := by simp; omega
      have hins := Lib.hid (insL_at p m k hk h1.out fun h => by omega)
      go_wp2_with fail
      go_quiet (fail)
      go_wp2_with fail
      have hbX := bl_drewN hb
      generalize hX : wr.drewN _ = X0
      obtain ⟨X, hXe⟩ : ∃ X, X0.drew = X := ⟨_, rfl⟩
      replace hbX : Below w1.heap.size w1 X := by rw [← hXe, ← hX]; exact bl_drew (hbX _)
      clear hX hb hP2 hB2 h1 hkey q0 q1 q2
      have hXs := hbX.size
      have hPX := hP.below hbX
      have hBX := hB1.below hbX hB1.lt
      have hcap := hP.cap
      have hXL : LBel X.heap.size A1 m := hPX.row.bel
      have htk : (m.take k).length = k := by simp; omega
      replace htk := Lib.hid htk
      have hkI0 : (0 : Int) ≤ (k : Int) := by omega
      have hkI1 : (k : Int) ≤ (c1 : Int) := by omega
      have hkI2 : (k : Int) ≤ (m.length : Int) := by omega
      refine wpAnyH.region rfl (fun w' => Below X.heap.size X w') ?_
      rw [hXe]
      clear hXe
      refine wpAnyH.takeT (i := 1) (t := 27) (v := .slice A1 m.length c1) rfl rfl (by decide +kernel) (by decide +kernel) (by decide +kernel) (fun _ _ _ h => h.elim) (.inl ⟨rfl, fun w' hS => ?_⟩) (Below.refl _ _) ?_
      · go_simp
      try simp only [List.setIfInBounds_toArray, List.set_cons_zero, List.set_cons_succ]
      refine wpAnyH.takeT (i := 2) (t := 28) (v := .int .i64 k) rfl rfl (by decide +kernel) (by decide +kernel) (by decide +kernel) (fun _ _ _ h => h.elim) (.inl ⟨rfl, fun w' hS => ?_⟩) (Below.refl _ _) ?_
      · go_simp
      try simp only [List.setIfInBounds_toArray, List.set_cons_zero, List.set_cons_succ]
      refine wpAnyH.takeT (i := 3) (t := 29) (v := .slice A1 k c1) rfl rfl (by decide +kernel) (by decide +kernel) (by decide +kernel) (fun _ _ _ h => h.elim) (.inl ⟨rfl, fun w' hS => ?_⟩) (Below.refl _ _) ?_
      · go_simp
      try simp only [List.setIfInBounds_toArray, List.set_cons_zero, List.set_cons_succ]
      refine wpAnyH.takeT (i := 5) (t := 31) (v := .agg #[.string p.key, .string p.val, .int .i64 p.off]) rfl rfl (by decide +kernel) (by decide +kernel) (by decide +kernel) (fun _ _ _ h => h.elim) (.inl ⟨rfl, fun w' hS => ?_⟩) (Below.refl _ _) ?_
      · have hB' := hBX.below hS hBX.lt
        have r0 := hB'.get (j := 0) rfl
        have r1 := hB'.get (j := 1) rfl
        have r2 := hB'.get (j := 2) rfl
        go_simp
      try simp only [List.setIfInBounds_toArray, List.set_cons_zero, List.set_cons_succ]
      refine wpAnyH.takeT (i := 8) (t := 34) (v := .slice A1 m.length c1) rfl rfl (by decide +kernel) (by decide +kernel) (by decide +kernel) (fun _ _ _ h => h.elim) (.inl ⟨rfl, fun w' hS => ?_⟩) (Below.refl _ _) ?_
      · go_simp
      try simp only [List.setIfInBounds_toArray, List.set_cons_zero, List.set_cons_succ]
      refine wpAnyH.takeT (i := 9) (t := 35) (v := .int .i64 k) rfl rfl (by decide +kernel) (by decide +kernel) (by decide +kernel) (fun _ _ _ h => h.elim) (.inl ⟨rfl, fun w' hS => ?_⟩) (Below.refl _ _) ?_
      · go_simp
      try simp only [List.setIfInBounds_toArray, List.set_cons_zero, List.set_cons_succ]
      obtain ⟨A3, hA3⟩ : ∃ A3 : Option Addr, A3 = if c1 = k then A1 else Option.map (fun a : Addr => a.add (k * 3)) A1 := ⟨_, rfl⟩
      refine wpAnyH.takeT (i := 10) (t := 36) (v := .slice A3 (m.length - k) (c1 - k)) rfl rfl (by decide +kernel) (by decide +kernel) (by decide +kernel) (fun _ _ _ h => h.elim) (.inl ⟨rfl, fun w' hS => ?_⟩) (Below.refl _ _) ?_
      · have hA3' := hA3
        clear hkI
        go_simp
        first | (rw [hA3']; done) | (simp [hA3', Addr.add, Option.map]; done) | (rw [hA3']; split <;> rfl) | skip
      try simp only [List.setIfInBounds_toArray, List.set_cons_zero, List.set_cons_succ]
      have hsk : ∀ Y, Below X.heap.size X Y → SrcAt Y A1 k 3 ((m.take k).flatMap prL) := fun Y hY => by
        have := LAt.src prL_len (by omega) (((hPX.row.below hY).take k))
        rwa [htk.out] at this
      have hsd : ∀ Y, Below X.heap.size X Y → SrcAt Y A3 (m.length - k) 3 ((m.drop k).flatMap prL) := fun Y hY => by
        by_cases e : k < m.length
        · obtain ⟨b1, o1, hAe, _, _⟩ := hPX.row k e
          have hPY := hPX.row
          rw [hAe] at hPY
          rw [hA3, if_neg (by omega), hAe]
          have := LAt.src prL_len (by omega) ((hPY.below hY).drop k)
          rw [List.length_drop] at this
          simp only [Option.map_some, Addr.add_mid]
          exact this
        · have e2 : m.length - k = 0 := by omega
          rw [e2, List.drop_eq_nil_of_le (by omega)]
          exact ⟨rfl, fun h => absurd rfl h⟩
      clear hA3 hXL
      replace hsk := Lib.hid hsk
      replace hsd := Lib.hid hsd
      refine wpAnyH_all (rs := [0, 6]) (by decide +kernel) (by simp) fun q hq => ?_
      simp only [List.mem_cons, List.not_mem_nil, or_false] at hq
      rcases hq with rfl | rfl
      · skip
        refine wpOp_of rfl rfl ?_
        go_simp
        have bY1 : Below X.heap.size X (X.alloc (.cells #[] 65)) := bl_alloc (Below.refl _ _) _
        refine ⟨bY1, ?_⟩
        have own1 : (X.alloc (.cells #[] 65)).ownsRow X.heap.size 65 3 (.slice (some ⟨X.heap.size, 0, none⟩) 0 0) 0 [] := ownsRow_empty X 65 3 _ (Nat.le_refl _)
        generalize hY1 : X.alloc (.cells #[] 65) = Y1 at *
        have hs1 : X.heap.size < Y1.heap.size := by rw [← hY1]; simp
        clear hY1
        try simp only [List.setIfInBounds_toArray, List.set_cons_zero, List.set_cons_succ]
        refine wpAnyH_all (rs := [4, 6]) (by decide +kernel) (by simp) fun q hq => ?_
        simp only [List.mem_cons, List.not_mem_nil, or_false] at hq
        rcases hq with rfl | rfl
        · refine wpOp_of rfl rfl ?_
          refine wp_append_src 30 rfl (.tmp 26) (.tmp 29) 28 rfl X.heap.size 65 i0 _ 3 40 Try.underlying28 hi0 hz0 hz1 hz2 rfl (by decide) (.slice (some ⟨X.heap.size, 0, none⟩) 0 0) 0 [] rfl own1 A1 k c1 ((m.take k).flatMap prL) rfl (hsk.out _ bY1) (flat_one prL_one _) (by simp only [maxLen]; omega) (by omega) (by have := (bY1).size; simpa using this) ?_
          intro AY2 cY2 Y2 ownY2 gY2
          have bY2 := bl_own bY1 own1 (Nat.le_refl _) gY2
          try simp only [Nat.zero_add, List.nil_append] at ownY2 ⊢
          refine ⟨bY2, ?_⟩
          try simp only [List.setIfInBounds_toArray, List.set_cons_zero, List.set_cons_succ]
          refine wpAnyH.one (i := 6) (by decide +kernel) rfl rfl ?_
          go_simp
          have bY3 : Below X.heap.size X (Y2.alloc (.cells #[.string p.key, .string p.val, .int .i64 p.off] 65)) := bl_alloc bY2 _
          refine ⟨bY3, ?_⟩
          try simp only [List.setIfInBounds_toArray, List.set_cons_zero, List.set_cons_succ]
          refine wpAnyH.one (i := 7) (by decide +kernel) rfl rfl ?_
          refine wp_append_src 33 rfl (.tmp 30) (.tmp 32) 28 rfl X.heap.size 65 i0 _ 3 40 Try.underlying28 hi0 hz0 hz1 hz2 rfl (by decide) (.slice AY2 k cY2) k ((m.take k).flatMap prL) rfl (ownY2.alloc _) (some ⟨Y2.heap.size, 0, none⟩) 1 1 (prL p) rfl (src_new Y2 (prL p) 65 1 3 rfl) (prL_one p) (by simp only [maxLen]; omega) (by omega) (by have := (bY3).size; simpa using this) ?_
          intro AYa cYa Ya ownYa gYa
          have bYa := bl_own bY3 (ownY2.alloc _) (Nat.le_refl _) gYa
          try simp only [Nat.zero_add, List.nil_append] at ownYa ⊢
          refine ⟨bYa, ?_⟩
          try simp only [List.setIfInBounds_toArray, List.set_cons_zero, List.set_cons_succ]
          refine wpAnyH.one (i := 11) (by decide +kernel) rfl rfl ?_
          refine wp_append_src 37 rfl (.tmp 33) (.tmp 36) 28 rfl X.heap.size 65 i0 _ 3 40 Try.underlying28 hi0 hz0 hz1 hz2 rfl (by decide) (.slice AYa (k + 1) cYa) (k + 1) ((m.take k).flatMap prL ++ prL p) rfl ownYa A3 (m.length - k) (c1 - k) ((m.drop k).flatMap prL) rfl (hsd.out _ bYa) (flat_one prL_one _) (by simp only [maxLen]; omega) (by omega) (by have := (bYa).size; simpa using this) ?_
          intro AYb cYb Yb ownYb gYb
          have bYb := bl_own bYa ownYa (Nat.le_refl _) gYb
          try simp only [Nat.zero_add, List.nil_append] at ownYb ⊢
          refine ⟨bYb, ?_⟩
          try simp only [List.setIfInBounds_toArray, List.set_cons_zero, List.set_cons_succ]
          refine wpAnyH.takeT (i := 12) (t := 4) (v := .slice AYb (k + 1 + (m.length - k)) cYb) rfl rfl (by decide +kernel) (by decide +kernel) (by decide +kernel) (fun _ _ _ h => h.elim) (.inl ⟨rfl, fun w' hS => by go_simp⟩) bYb ?_
          try simp only [List.setIfInBounds_toArray, List.set_cons_zero, List.set_cons_succ]
          refine wpAnyH_done (by decide +kernel) ?_ _
          refine NoPanic.normal ?_
          have hlen : k + 1 + (m.length - k) = m.length + 1 := by omega
          rw [hlen] at ownYb ⊢
          go_wp2_with fail
          go_ret
          have hf : (m.take k).flatMap prL ++ prL p ++ (m.drop k).flatMap prL = (insL p m).flatMap prL := by rw [hins.out]; simp
          rw [hf] at ownYb
          have hL : m.length + 1 = (insL p m).length := (len_ins p m).symm
          rw [hL] at ownYb
          rw [hL]
          rw [hR.out]
          exact ⟨AYb, cYb, rfl, (PRow.of_own ownYb rfl).mono (Nat.le_trans hb1.size hXs), bl_tr hb1 (bl_tr hbX bYb)⟩
        · refine wpOp_of rfl rfl ?_
          go_simp
          have bY2 : Below X.heap.size X (Y1.alloc (.cells #[.string p.key, .string p.val, .int .i64 p.off] 65)) := bl_alloc bY1 _
          refine ⟨bY2, ?_⟩
          try simp only [List.setIfInBounds_toArray, List.set_cons_zero, List.set_cons_succ]
          have hN : SrcAt (Y1.alloc (.cells (prL p).toArray 65)) (some ⟨Y1.heap.size, 0, none⟩) 1 3 (prL p) := src_new Y1 (prL p) 65 1 3 rfl
          have own2 := own1.alloc (.cells (prL p).toArray 65)
          refine wpAnyH.one (i := 4) (by decide +kernel) rfl rfl ?_
          refine wp_append_src 30 rfl (.tmp 26) (.tmp 29) 28 rfl X.heap.size 65 i0 _ 3 40 Try.underlying28 hi0 hz0 hz1 hz2 rfl (by decide) (.slice (some ⟨X.heap.size, 0, none⟩) 0 0) 0 [] rfl own2 A1 k c1 ((m.take k).flatMap prL) rfl (hsk.out _ bY2) (flat_one prL_one _) (by simp only [maxLen]; omega) (by omega) (by have := (bY2).size; simpa using this) ?_
          intro AY3 cY3 Y3 ownY3 gY3
          have bY3 := bl_own bY2 own2 (Nat.le_refl _) gY3
          try simp only [Nat.zero_add, List.nil_append] at ownY3 ⊢
          have hN3 : SrcAt Y3 (some ⟨Y1.heap.size, 0, none⟩) 1 3 (prL p) := hN.grown gY3 (by simp) (by simp [Value.ownBlock]; omega)
          refine ⟨bY3, ?_⟩
          try simp only [List.setIfInBounds_toArray, List.set_cons_zero, List.set_cons_succ]
          refine wpAnyH.one (i := 7) (by decide +kernel) rfl rfl ?_
          refine wp_append_src 33 rfl (.tmp 30) (.tmp 32) 28 rfl X.heap.size 65 i0 _ 3 40 Try.underlying28 hi0 hz0 hz1 hz2 rfl (by decide) (.slice AY3 k cY3) k ((m.take k).flatMap prL) rfl ownY3 (some ⟨Y1.heap.size, 0, none⟩) 1 1 (prL p) rfl hN3 (prL_one p) (by simp only [maxLen]; omega) (by omega) (by have := (bY3).size; simpa using this) ?_
          intro AYa cYa Ya ownYa gYa
          have bYa := bl_own bY3 ownY3 (Nat.le_refl _) gYa
          try simp only [Nat.zero_add, List.nil_append] at ownYa ⊢
          refine ⟨bYa, ?_⟩
          try simp only [List.setIfInBounds_toArray, List.set_cons_zero, List.set_cons_succ]
          refine wpAnyH.one (i := 11) (by decide +kernel) rfl rfl ?_
          refine wp_append_src 37 rfl (.tmp 33) (.tmp 36) 28 rfl X.heap.size 65 i0 _ 3 40 Try.underlying28 hi0 hz0 hz1 hz2 rfl (by decide) (.slice AYa (k + 1) cYa) (k + 1) ((m.take k).flatMap prL ++ prL p) rfl ownYa A3 (m.length - k) (c1 - k) ((m.drop k).flatMap prL) rfl (hsd.out _ bYa) (flat_one prL_one _) (by simp only [maxLen]; omega) (by omega) (by have := (bYa).size; simpa using this) ?_
          intro AYb cYb Yb ownYb gYb
          have bYb := bl_own bYa ownYa (Nat.le_refl _) gYb
          try simp only [Nat.zero_add, List.nil_append] at ownYb ⊢
          refine ⟨bYb, ?_⟩
          try simp only [List.setIfInBounds_toArray, List.set_cons_zero, List.set_cons_succ]
          refine wpAnyH.takeT (i := 12) (t := 4) (v := .slice AYb (k + 1 + (m.length - k)) cYb) rfl rfl (by decide +kernel) (by decide +kernel) (by decide +kernel) (fun _ _ _ h => h.elim) (.inl ⟨rfl, fun w' hS => by go_simp⟩) bYb ?_
          try simp only [List.setIfInBounds_toArray, List.set_cons_zero, List.set_cons_succ]
          refine wpAnyH_done (by decide +kernel) ?_ _
          refine NoPanic.normal ?_
          have hlen : k + 1 + (m.length - k) = m.length + 1 := by omega
          rw [hlen] at ownYb ⊢
          go_wp2_with fail
          go_ret
          have hf : (m.take k).flatMap prL ++ prL p ++ (m.drop k).flatMap prL = (insL p m).flatMap prL := by rw [hins.out]; simp
          rw [hf] at ownYb
          have hL : m.length + 1 = (insL p m).length := (len_ins p m).symm
          rw [hL] at ownYb
          rw [hL]
          rw [hR.out]
          exact ⟨AYb, cYb, rfl, (PRow.of_own ownYb rfl).mono (Nat.le_trans hb1.size hXs), bl_tr hb1 (bl_tr hbX bYb)⟩
      · refine wpOp_of rfl rfl ?_
        go_simp
        have bY1 : Below X.heap.size X (X.alloc (.cells #[.string p.key, .string p.val, .int .i64 p.off] 65)) := bl_alloc (Below.refl _ _) _
        refine ⟨bY1, ?_⟩
        try simp only [List.setIfInBounds_toArray, List.set_cons_zero, List.set_cons_succ]
        have hN : SrcAt (X.alloc (.cells (prL p).toArray 65)) (some ⟨X.heap.size, 0, none⟩) 1 3 (prL p) := src_new X (prL p) 65 1 3 rfl
        generalize hY1 : X.alloc (.cells #[.string p.key, .string p.val, .int .i64 p.off] 65) = Y1 at *
        have hN1 : SrcAt Y1 (some ⟨X.heap.size, 0, none⟩) 1 3 (prL p) := by rw [← hY1]; exact hN
        have hs1 : X.heap.size < Y1.heap.size := by rw [← hY1]; simp
        clear hY1 hN
        refine wpAnyH.one (i := 0) (by decide +kernel) rfl rfl ?_
        go_simp
        have bY2 : Below X.heap.size X (Y1.alloc (.cells #[] 65)) := bl_alloc bY1 _
        refine ⟨bY2, ?_⟩
        try simp only [List.setIfInBounds_toArray, List.set_cons_zero, List.set_cons_succ]
        have own2 : (Y1.alloc (.cells #[] 65)).ownsRow X.heap.size 65 3 (.slice (some ⟨Y1.heap.size, 0, none⟩) 0 0) 0 [] := ownsRow_empty Y1 65 3 _ (by omega)
        refine wpAnyH.one (i := 4) (by decide +kernel) rfl rfl ?_
        refine wp_append_src 30 rfl (.tmp 26) (.tmp 29) 28 rfl X.heap.size 65 i0 _ 3 40 Try.underlying28 hi0 hz0 hz1 hz2 rfl (by decide) (.slice (some ⟨Y1.heap.size, 0, none⟩) 0 0) 0 [] rfl own2 A1 k c1 ((m.take k).flatMap prL) rfl (hsk.out _ bY2) (flat_one prL_one _) (by simp only [maxLen]; omega) (by omega) (by have := (bY2).size; simpa using this) ?_
        intro AY3 cY3 Y3 ownY3 gY3
        have bY3 := bl_own bY2 own2 (Nat.le_refl _) gY3
        try simp only [Nat.zero_add, List.nil_append] at ownY3 ⊢
        have hN3 : SrcAt Y3 (some ⟨X.heap.size, 0, none⟩) 1 3 (prL p) := ((hN1.grown (gr_below (bl_alloc (Below.refl _ _) _) none) (by omega) (by simp)).grown gY3 (by simp; omega) (by simp [Value.ownBlock]; omega))
        refine ⟨bY3, ?_⟩
        try simp only [List.setIfInBounds_toArray, List.set_cons_zero, List.set_cons_succ]
        refine wpAnyH.one (i := 7) (by decide +kernel) rfl rfl ?_
        refine wp_append_src 33 rfl (.tmp 30) (.tmp 32) 28 rfl X.heap.size 65 i0 _ 3 40 Try.underlying28 hi0 hz0 hz1 hz2 rfl (by decide) (.slice AY3 k cY3) k ((m.take k).flatMap prL) rfl ownY3 (some ⟨X.heap.size, 0, none⟩) 1 1 (prL p) rfl hN3 (prL_one p) (by simp only [maxLen]; omega) (by omega) (by have := (bY3).size; simpa using this) ?_
        intro AYa cYa Ya ownYa gYa
        have bYa := bl_own bY3 ownY3 (Nat.le_refl _) gYa
        try simp only [Nat.zero_add, List.nil_append] at ownYa ⊢
        refine ⟨bYa, ?_⟩
        try simp only [List.setIfInBounds_toArray, List.set_cons_zero, List.set_cons_succ]
        refine wpAnyH.one (i := 11) (by decide +kernel) rfl rfl ?_
        refine wp_append_src 37 rfl (.tmp 33) (.tmp 36) 28 rfl X.heap.size 65 i0 _ 3 40 Try.underlying28 hi0 hz0 hz1 hz2 rfl (by decide) (.slice AYa (k + 1) cYa) (k + 1) ((m.take k).flatMap prL ++ prL p) rfl ownYa A3 (m.length - k) (c1 - k) ((m.drop k).flatMap prL) rfl (hsd.out _ bYa) (flat_one prL_one _) (by simp only [maxLen]; omega) (by omega) (by have := (bYa).size; simpa using this) ?_
        intro AYb cYb Yb ownYb gYb
        have bYb := bl_own bYa ownYa (Nat.le_refl _) gYb
        try simp only [Nat.zero_add, List.nil_append] at ownYb ⊢
        refine ⟨bYb, ?_⟩
        try simp only [List.setIfInBounds_toArray, List.set_cons_zero, List.set_cons_succ]
        refine wpAnyH.takeT (i := 12) (t := 4) (v := .slice AYb (k + 1 + (m.length - k)) cYb) rfl rfl (by decide +kernel) (by decide +kernel) (by decide +kernel) (fun _ _ _ h => h.elim) (.inl ⟨rfl, fun w' hS => by go_simp⟩) bYb ?_
        try simp only [List.setIfInBounds_toArray, List.set_cons_zero, List.set_cons_succ]
        refine wpAnyH_done (by decide +kernel) ?_ _
        refine NoPanic.normal ?_
        have hlen : k + 1 + (m.length - k) = m.length + 1 := by omega
        rw [hlen] at ownYb ⊢
        go_wp2_with fail
        go_ret
        have hf : (m.take k).flatMap prL ++ prL p ++ (m.drop k).flatMap prL = (insL p m).flatMap prL := by rw [hins.out]; simp
        rw [hf] at ownYb
        have hL : m.length + 1 = (insL p m).length := (len_ins p m).symm
        rw [hL] at ownYb
        rw [hL]
        rw [hR.out]
        exact ⟨AYb, cYb, rfl, (PRow.of_own ownYb rfl).mono (Nat.le_trans hb1.size hXs), bl_tr hb1 (bl_tr hbX bYb)⟩
end Go.Proofs.Ytjokpjfmnjefdaa
