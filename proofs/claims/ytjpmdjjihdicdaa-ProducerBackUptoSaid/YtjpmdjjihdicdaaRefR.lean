/- gazetteref12: Note, walked. -/
import Derived.Test.YtjpmdjjihdicdaaRefM
namespace Go.Proofs.Ytjpmdjjihdicdaa
open Go.RowKit Go.Shelf
attribute [local go_sem] Oper.semAt_some

section
variable {P : Program} {ops : Array Oper} {Q : Exit → Act → World → Prop} {md : Region.Mode} {S : World → Prop} {L : Nat}
theorem anyBut.takeT {i t : Nat} {v : Value} {n : Nat} {dn : Array Bool} {a : Act} {w : World} {oi : Oper} (hL : WaitsAll md ops L) (hiL : i ≠ L) (hi : ops[i]? = some oi) (hd : oi.dst = some t) (hs : Region.noSelect ops = true) (hf : Region.free md ops dn i = true)
    (hr : (Region.ready md ops dn).contains i = true) (hQ : ∀ c a w, Q (.panic c) (a.put oi.dst v) w → Q (.panic c) a w) (hy : YieldsIf P ops S oi v a) (hS : S w)
    (h : anyBut P md ops Q S L n (dn.setIfInBounds i true) { a with tmps := a.tmps.setIfInBounds t v } w) : anyBut P md ops Q S L (n + 1) dn a w :=
  anyBut.take hL hiL hi hs hf hr hQ hy hS (by rw [hd]; exact h)
theorem anyBut.one {i : Nat} {o : Oper} {n : Nat} {dn : Array Bool} {a : Act} {w : World} (hr : Region.ready md ops dn = [i]) (hi : ops[i]? = some o) (hw : Region.wanted o (yielded ops a.tmps) = true)
    (h : o.wp P a w (fun a' w' => (i = L ∨ S w') ∧ anyBut P md ops Q S L n (dn.setIfInBounds i true) a' w') Q) : anyBut P md ops Q S L (n + 1) dn a w :=
  anyBut.all hr (by simp) fun j hj => by
    rw [List.mem_singleton] at hj
    subst hj
    unfold wpOp
    simp only [hi]
    rw [if_pos hw]
    exact .inl h
theorem wpOp_of {i : Nat} {o : Oper} {K : Act → World → Prop} {a : Act} {w : World} (hi : ops[i]? = some o) (hw : Region.wanted o (yielded ops a.tmps) = true) (h : o.wp P a w K Q) : wpOp P ops Q i K a w := by
  unfold wpOp
  simp only [hi]
  rw [if_pos hw]
  exact .inl h
end
theorem wp_append_src {P : Program} {w : World} {o : Oper} {a : Act} (d : Nat) (hd : o.dst = some d) {K : Act → World → Prop} {Q : Exit → Act → World → Prop} (s x : Operand) (t : TypeId)
    (ho : o.op = .call { callee := .builtin .append, args := #[s, x], argTypes := #[t, t] })
    (base : Nat) (e : TypeId) (i : TypeInfo) (z : Value) (size bytes : Nat) (ht : P.underlying t = some (.slice e)) (hi : P.info? e = some i) (hz : i.zero = some z)
    (hsize : i.size = size) (hby : i.bytes = bytes) (hzs : z.cells.size = size) (hsz : 0 < size) (v : Value) (n : Nat) (xs : List Value) (hs : a.eval s = v) (hown : w.ownsRow base e size v n xs)
    (A : Option Addr) (m c : Nat) (news : List Value) (hx : a.eval x = .slice A m c) (hsrc : SrcAt w A m size news) (h1 : ∀ u ∈ news, u.oneCell' = true) (h63 : n + m ≤ maxLen) (hbytes : (n + m) * bytes ≤ 140737488355328) (hbase : base ≤ w.heap.size)
    (h : ∀ A' c' w', w'.ownsRow base e size (.slice A' (n + m) c') (n + m) (xs ++ news) → w.grownBy w' v.ownBlock → K { a with tmps := a.tmps.setIfInBounds d (.slice A' (n + m) c') } w') :
    Oper.wp P o a w K Q := by
  obtain ⟨v', w', hr, h2, h3⟩ := run_append_src (P := P) (w := w) base t o.type e i z size bytes ht hi hz hsize hby hzs hsz v n xs hown A m c news hsrc h1 h63 hbytes hbase
  obtain ⟨A', c', rfl, _⟩ := ownsRow_tells h2
  unfold Oper.wp execOp
  simp only [ho, resolve, invoke, builtin, Sem.run_bind, Sem.run_pure, Result.andThen_ok, List.map_toArray, List.map_cons, List.map_nil, hs, hx, hr]
  rw [Oper.upon_value, hd]
  exact h A' c' w' h2 h3
theorem SrcAt.grown {w w' : World} {g m size : Nat} {news : List Value} {row : Option Nat} (h : SrcAt w (some ⟨g, 0, none⟩) m size news) (hg : w.grownBy w' row) (hl : g < w.heap.size) (hne : some g ≠ row) : SrcAt w' (some ⟨g, 0, none⟩) m size news := by
  refine ⟨h.1, fun hm => ?_⟩
  obtain ⟨ad, e, hc⟩ := h.2 hm
  cases e
  exact ⟨_, rfl, fun j u hu => (World.cell?_of_block (w := w) (w' := w') (a := Addr.add ⟨g, 0, none⟩ j) (by rw [Addr.add_mid]; exact hg.block g hl hne)).trans (hc j u hu)⟩
theorem bl_own {a w w1 : World} {e : TypeId} {size : Nat} {v : Value} {n : Nat} {xs : List Value} {base : Nat} (hb : Below a.heap.size a w) (h : w.ownsRow base e size v n xs) (hba : a.heap.size ≤ base) (hg : w.grownBy w1 v.ownBlock) : Below a.heap.size a w1 :=
  hb.grown hg hb.size (fun g e => Nat.le_trans hba (ownsRow_base h e))
def NotedC (w2 : World) (X bB : Nat) (bat : List Value) (p ep nx : Int) (ds : List Dn) (wx : World) : Prop :=
  ∃ A c, ds.length ≤ c ∧ TyAt wx X 92 ∧ Blk wx X [.int .i64 p, .int .i64 ep, .int .i64 nx, .slice A ds.length c] ∧ DnsT wx A ds ∧ Blk wx bB bat ∧ Below w2.heap.size w2 wx
theorem notedC_leaf {w2 WX w6 : World} {X bB : Nat} {bat : List Value} {p ep nx : Int} {ds : List Dn} {v : Value} {A6 : Option Addr} {n c6 : Nat} (hXX : Blk WX X [.int .i64 p, .int .i64 ep, .int .i64 nx, v]) (hB : Blk WX bB bat) (hne : bB ≠ X)
    (h2 : Below w2.heap.size w2 WX) (hX2 : w2.heap.size ≤ X) (S6 : (∀ b o, b < WX.heap.size → w6.cell? ⟨b, o, none⟩ = WX.cell? ⟨b, o, none⟩) ∧ Below WX.heap.size WX w6)
    (hT : TyAt WX X 92) (hown : w6.ownsRow WX.heap.size 93 3 (.slice A6 n c6) n (dnCells ds)) (hn : n = ds.length) : NotedC w2 X bB bat p ep nx ds (w6.setCell ⟨X, 3, none⟩ (.slice A6 n c6)) := by
  have hc := ownsRow_cap hown
  subst hn
  refine ⟨A6, c6, hc, (hT.of_heap (S6.2.block _ hT.lt)).setCell _ _, ?_, ?_, ?_, ?_⟩
  · simpa using (hXX.of_heap (S6.2.block _ hXX.lt)).set_same 3 (.slice A6 ds.length c6)
  · exact dnsT_of_own (ownsRow_setCell_below hown hXX.lt _) rfl
  · exact (hB.of_heap (S6.2.block _ hB.lt)).set_ne (by simpa using hne.symm) _
  · exact bl_set (h2.trans (S6.2.mono h2.size)) hX2 _
theorem ty_new (w : World) (cs : Array Value) (T : TypeId) : TyAt (w.alloc (.cells cs T)) w.heap.size T := ⟨cs, _, by rw [World.alloc_heap_new]⟩
theorem DnsT.drop1 {w : World} {b o : Nat} {ds : List Dn} (h : DnsT w (some ⟨b, o, none⟩) ds) : DnsT w (some ⟨b, o + 3, none⟩) (ds.drop 1) := fun i hi => by
  rw [List.length_drop] at hi
  obtain ⟨b', o', e, ht, c1, c2, c3⟩ := h (i + 1) (by omega)
  cases e
  simp only [List.getElem_drop]
  refine ⟨b, o + 3, rfl, ht, ?_, ?_, ?_⟩
  · rw [show o + 3 + i * 3 = o + (i + 1) * 3 from by omega]; simpa [Nat.add_comm] using c1
  · rw [show o + 3 + i * 3 + 1 = o + (i + 1) * 3 + 1 from by omega]; simpa [Nat.add_comm] using c2
  · rw [show o + 3 + i * 3 + 2 = o + (i + 1) * 3 + 2 from by omega]; simpa [Nat.add_comm] using c3

set_option maxRecDepth 100000 in
set_option maxHeartbeats 4000000 in
theorem rnote_any (n0 rb : Nat) (gL : Option Nat) (r : List Ent) (A : Option Addr) (c : Nat) (vs : List Value) (k p ep s : Int) (t : Bool) (rs : List Rec) (off : Int) (A2 : Option Addr) (c2 : Nat) (w : World)
    (h : RefAt w n0 rb gL r A c vs) (hn : n0 ≤ w.heap.size) (hrb : rb < n0) (hr : r.length ≤ 2932031007400) (hso : r.Pairwise fun a b => a.p < b.p) (hrl : ∀ x ∈ r, x.last.length ≤ 5 ∧ 0 ≤ x.nx ∧ x.nx ≤ 2147483648)
    (hR : RecsAt w A2 rs) (hs : -9223372036854775808 ≤ s ∧ s ≤ 9223372036854775807) :
    Calls Try.prog 23 #[.pointer (some ⟨rb, 0, none⟩), .agg #[.int .i64 k, .int .i64 p, .int .i64 ep, .int .i64 s, .bool t, .slice A2 rs.length c2], .int .i64 off] w fun e w' =>
      e = .returned (.int .i64 (noteR r k p ep s t rs off).1) ∧ NoteAt w w' n0 rb gL (noteR r k p ep s t rs off).2 := by
  have hlB := h.tab.lt
  have hrs := hR.1
  obtain ⟨i0, hi0, hz0, hz1, hz2⟩ := info_parts info93
  have hgL := Lib.hid (fun g (e : gL = some g) => h.lt (.inr (.inl e.symm)))
  by_cases ho1 : off < 0
  · have HN := Lib.hid (show noteR r k p ep s t rs off = (1, r) from by unfold noteR; rw [if_pos (.inl ho1)])
    go_enter Try.func23, Try.ntmps23
    go_wp2_with fail
    go_ret
    rw [HN.out]
    exact ⟨rfl, gL, A, c, vs, h.below (bl_alloc (Below.refl _ _) _), .inl rfl, FrR.of_below (bl_alloc (Below.refl _ _) _) _ _⟩
  · by_cases ho2 : 281474976710656 < off
    · have HN := Lib.hid (show noteR r k p ep s t rs off = (1, r) from by unfold noteR; rw [if_pos (.inr ho2)])
      go_enter Try.func23, Try.ntmps23
      go_wp2_with fail
      go_ret
      rw [HN.out]
      exact ⟨rfl, gL, A, c, vs, h.below (bl_alloc (Below.refl _ _) _), .inl rfl, FrR.of_below (bl_alloc (Below.refl _ _) _) _ _⟩
    · have ho3 : 0 ≤ off := by omega
      have ho4 : off ≤ 281474976710656 := by omega
      have HN := Lib.hid (show noteR r k p ep s t rs off = if (decideR (r.find? fun x => x.p == p) k p ep s t rs).2.2 ≠ 0 ∨ (decideR (r.find? fun x => x.p == p) k p ep s t rs).2.1 = true ∨ p = -1 then ((decideR (r.find? fun x => x.p == p) k p ep s t rs).2.2, r) else
        (0, putE r (noteEnt (r.find? fun x => x.p == p) k p ep s rs.length off)) from by unfold noteR; rw [if_neg (by omega)])
      clear ho1 ho2
      go_enter Try.func23, Try.ntmps23
      go_wp2_with fail
      refine (rdecide_any rb A c r k p ep s t rs A2 c2 _ (h.tab.alloc _) (h.ents.below (bl_alloc (Below.refl _ _) _)) (by omega) (fun x hx => by have := (hrl x hx).1; omega) (hR.below (bl_alloc (Below.refl _ _) _)) hs).mono ?_
      obtain ⟨D, hD⟩ : ∃ D, decideR (r.find? fun x => x.p == p) k p ep s t rs = D := ⟨_, rfl⟩
      have HD := Lib.hid hD
      rw [hD] at HN ⊢
      clear hD
      obtain ⟨D1, D2, D3⟩ := D
      rintro e w1 ⟨rfl, hb1⟩
      have hX := (Blk.new' (w := w) #[.int .i64 k, .int .i64 p, .int .i64 ep, .int .i64 s, .bool t, .slice A2 rs.length c2] 30 rfl).below hb1 (by simp)
      have hbb := bl_tr (bl_alloc (Below.refl _ _) _) hb1
      replace h := h.below hbb
      have hn1 : n0 ≤ w1.heap.size := Nat.le_trans hn hbb.size
      clear hb1
      have q := hX.cell
      have hlX := hX.lt
      unfold trip
      dsimp only at HN ⊢
      by_cases hbad : D3 ≠ 0 ∨ D2 = true ∨ p = -1
      · rw [if_pos hbad] at HN
        have hp : (p == -1) = true ∨ (p == -1) = false := by cases (p == -1) <;> simp
        have h3 : (D3 == 0) = true ∨ (D3 == 0) = false := by cases (D3 == 0) <;> simp
        cases D2
        all_goals
          rcases h3 with h3 | h3
          all_goals
            rcases hp with hp | hp
            all_goals
              have h4 : (D3 != 0) = !(D3 == 0) := rfl
              have h5 : (p != -1) = !(p == -1) := rfl
              rw [h3] at h4
              rw [hp] at h5
              simp only [Bool.not_true, Bool.not_false] at h4 h5
              first
                | (exfalso; simp at hbad h3 hp; omega)
                | (clear hbad
                   go_wp2_with fail
                   go_ret
                   rw [HN.out]
                   exact ⟨rfl, gL, A, c, vs, h, .inl rfl, FrR.of_below hbb _ _⟩)
      · rw [if_neg hbad] at HN
        obtain ⟨rfl, rfl, hp⟩ : D3 = 0 ∧ D2 = false ∧ p ≠ -1 := by
          refine ⟨?_, ?_, fun e => hbad (.inr (.inr e))⟩
          · by_cases h : D3 = 0
            · exact h
            · exact absurd (.inl h) hbad
          · cases D2
            · rfl
            · exact absurd (.inr (.inl rfl)) hbad
        clear hbad
        have hp1 : (p == -1) = false := by simpa using hp
        have hp2 : (p != -1) = true := by simpa using hp
        have hp' := Lib.hid hp
        clear hp
        go_wp2_with fail
        refine (at_any n0 rb gL r A c vs p _ h hn1 hrb hr).mono ?_
        rintro e w2 ⟨k2, rfl, hk, hlow, hge, hcase⟩
        obtain ⟨r3, x0, gL3, A3, c3, vs3, G⟩ := given_of h hso hrl hp'.out HD.out hk hlow hge hcase
        clear hcase hlow hge hk
        have hk3 : k2 < r3.length := (List.getElem?_eq_some_iff.1 G.at').1
        have hX2 := hX.of_heap (G.fr.block _ hlX (by omega) ?hx1)
        case hx1 => intro e; have := hgL.out _ e.symm; omega
        have hlB3 := G.ref.tab.lt
        obtain ⟨g3, Az, cz, rfl, rfl, hg0, hgl3, hvs3, hdz, e0, e1, e2, e3⟩ := G.ref.entry G.at'
        have hT3 := G.ref.tab
        have qT := hT3.cell
        have hxp := G.xp
        have hxl := G.len
        replace G := Lib.hid G
        obtain ⟨xp, xe, xn, xl⟩ := x0
        dsimp only at e0 e1 e2 e3 hdz hxp hxl hvs3
        subst hxp
        obtain ⟨hxl5, hxn0, hxn1⟩ := hxl
        have q2 := hX2.cell
        have hlX2 := hX2.lt
        clear hX q hT3
        have hee : xe = ep ∨ xe ≠ ep := by omega
        go_upto_if 51 with fail
        go_cut [] from 52 to 56 (fun wx => ∃ zn zl zA zc, Hid (zl = (if xe ≠ ep then [] else xl) ∧ zn = (if xe ≠ ep then 0 else xn)) ∧ Blk wx w2.heap.size [.int .i64 xp, .int .i64 ep, .int .i64 zn, .slice zA zl.length zc] ∧ zl.length ≤ 5 ∧ 0 ≤ zn ∧ zn ≤ 2147483648 ∧ DnsT wx zA zl ∧
          Blk wx w.heap.size [.int .i64 k, .int .i64 xp, .int .i64 ep, .int .i64 s, .bool t, .slice A2 rs.length c2] ∧ TyAt wx w2.heap.size 92 ∧ Below w2.heap.size w2 wx)
        case first =>
          rcases hee with rfl | hee
          · go_wp2_with fail
            go_meet
            case rel => exact ⟨xn, xl, Az, cz, Lib.hid (by simp), Blk.new' _ _ rfl, hxl5, hxn0, hxn1, hdz.keep (fun b hb => Below.heap_alloc w2 _ b hb.lt), hX2.alloc _, ty_new _ _ _, bl_alloc (Below.refl _ _) _⟩
          · have h7 : (xe == ep) = false := by simpa using hee
            have h8 : (xe != ep) = true := by simpa using hee
            go_wp2_with fail
            go_meet
            case rel => exact ⟨0, [], none, 0, Lib.hid (by simp [hee]), Blk.new' _ _ rfl, by simp, by omega, by omega, fun i hi => by simp at hi, hX2.alloc _, ty_new _ _ _, bl_alloc (Below.refl _ _) _⟩
        case rest =>
          obtain ⟨zn, zl, zA, zc, hz, hXX, hzl5, hzn0, hzn1, hdz, hB5, hT5, hb2⟩ := hcut
          clear q2 qT e0 e1 e2 e3 hee hX2 hp1 hp2 hxl5 hxn0 hxn1
          have qX := hXX.cell
          have uX := hXX.unf
          have qB := hB5.cell
          have lX := hXX.lt
          have lB := hB5.lt
          go_upto_if 59 with fail
          go_cut [] from 60 to 88 (fun wx => ∃ fn fl fA fc, Hid (fl = (if k = 1 then (if 5 < (zl ++ [(⟨s, rs.length, off⟩ : Dn)]).length then (zl ++ [(⟨s, rs.length, off⟩ : Dn)]).drop 1 else zl ++ [⟨s, rs.length, off⟩]) else zl) ∧ fn = (if k = 1 then zn + rs.length else zn)) ∧
            Blk wx w2.heap.size [.int .i64 xp, .int .i64 ep, .int .i64 fn, .slice fA fl.length fc] ∧ DnsT wx fA fl ∧ Below w2.heap.size w2 wx)
          case first =>
            have hke : k = 1 ∨ k ≠ 1 := by omega
            rcases hke with rfl | hke
            · go_wp2_with fail
              have hXY := hXX.set_same 2 (.int .i64 (zn + rs.length))
              have hBY := hB5.set_ne (a := ⟨w2.heap.size, 2, none⟩) (by dsimp only; omega) (.int .i64 (zn + rs.length))
              have hdY := hdz.keep (w' := wc.setCell ⟨w2.heap.size, 2, none⟩ (.int .i64 (zn + rs.length))) (fun b hb => Below.heap_setCell wc _ _ b ?hne93)
              case hne93 => exact hb.ne hT5 (by decide)
              have hTY := hT5.setCell ⟨w2.heap.size, 2, none⟩ (.int .i64 (zn + rs.length))
              have hsY := hdY.src
              have hbY := bl_set hb2 (p := ⟨w2.heap.size, 2, none⟩) (Nat.le_refl _) (.int .i64 (zn + rs.length))
              simp only [List.set_cons_succ, List.set_cons_zero] at hXY
              generalize wc.setCell ⟨w2.heap.size, 2, none⟩ (.int .i64 (zn + rs.length)) = WX at hXY hBY hdY hsY hbY hTY ⊢
              clear hXX hB5 hb2 hdz qX uX qB lX lB
              have hXX := hXY
              have lX := hXY.lt
              have lB := hBY.lt
              have qX := hXY.cell
              have qB := hBY.cell
              have hsr5 := hsY
              go_cut [] from 67 to 80 (fun wx => NotedC w2 w2.heap.size w.heap.size [.int .i64 1, .int .i64 xp, .int .i64 ep, .int .i64 s, .bool t, .slice A2 rs.length c2] xp ep (zn + rs.length) (zl ++ [⟨s, rs.length, off⟩]) wx)
              case first =>
                obtain ⟨X, hXe⟩ : ∃ X, WX.drew = X := ⟨_, rfl⟩
                have hXX' : Blk X w2.heap.size [.int .i64 xp, .int .i64 ep, .int .i64 (zn + rs.length), .slice zA zl.length zc] := by rw [← hXe]; exact hXX.drew
                have hBX : Blk X w.heap.size [.int .i64 1, .int .i64 xp, .int .i64 ep, .int .i64 s, .bool t, .slice A2 rs.length c2] := by rw [← hXe]; exact hBY.drew
                have hTX : TyAt X w2.heap.size 92 := by rw [← hXe]; exact hTY.of_heap rfl
                have hsX : SrcAt X zA zl.length 3 (dnCells zl) := by rw [← hXe]; exact hsr5
                have hb2X : Below w2.heap.size w2 X := by rw [← hXe]; exact bl_drew hbY
                have hsc : ∀ Y, Below X.heap.size X Y → SrcAt Y zA zl.length 3 (dnCells zl) := fun Y hY => src_keep hsX (by decide) ⟨fun b o hb => hY.cell (p := ⟨b, o, none⟩) hb, hY⟩
                replace hsc := Lib.hid hsc
                refine anyBut.region rfl 14 (fun w' => Below X.heap.size X w') ?_
                rw [hXe]
                clear hXe hXY hBY hdY hsY hbY hXX lX lB qX qB hsr5
                refine stopW (waits_of (by decide +kernel)) fun hW => ?_
                refine anyBut.takeT (i := 1) (t := 68) (v := .pointer (some ⟨w2.heap.size, 3, none⟩)) hW (by decide) rfl rfl (by decide +kernel) (by decide +kernel) (by decide +kernel) (fun _ _ _ h => h.elim) (.inl ⟨rfl, fun w' hS => ?_⟩) (Below.refl _ _) ?_
                · go_simp
                try simp only [List.setIfInBounds_toArray, List.set_cons_zero, List.set_cons_succ]
                refine anyBut.takeT (i := 2) (t := 69) (v := .slice zA zl.length zc) hW (by decide) rfl rfl (by decide +kernel) (by decide +kernel) (by decide +kernel) (fun _ _ _ h => h.elim) (.inl ⟨rfl, fun w' hS => ?_⟩) (Below.refl _ _) ?_
                · have hB' := hXX'.below hS hXX'.lt
                  have r3 := hB'.get (j := 3) rfl
                  go_simp
                try simp only [List.setIfInBounds_toArray, List.set_cons_zero, List.set_cons_succ]
                refine anyBut.takeT (i := 4) (t := 71) (v := .pointer (some ⟨w.heap.size, 3, none⟩)) hW (by decide) rfl rfl (by decide +kernel) (by decide +kernel) (by decide +kernel) (fun _ _ _ h => h.elim) (.inl ⟨rfl, fun w' hS => ?_⟩) (Below.refl _ _) ?_
                · go_simp
                try simp only [List.setIfInBounds_toArray, List.set_cons_zero, List.set_cons_succ]
                refine anyBut.takeT (i := 5) (t := 72) (v := .int .i64 s) hW (by decide) rfl rfl (by decide +kernel) (by decide +kernel) (by decide +kernel) (fun _ _ _ h => h.elim) (.inl ⟨rfl, fun w' hS => ?_⟩) (Below.refl _ _) ?_
                · have hB' := hBX.below hS hBX.lt
                  have r0 := hB'.get (j := 3) rfl
                  go_simp
                try simp only [List.setIfInBounds_toArray, List.set_cons_zero, List.set_cons_succ]
                refine anyBut.takeT (i := 6) (t := 73) (v := .pointer (some ⟨w.heap.size, 5, none⟩)) hW (by decide) rfl rfl (by decide +kernel) (by decide +kernel) (by decide +kernel) (fun _ _ _ h => h.elim) (.inl ⟨rfl, fun w' hS => ?_⟩) (Below.refl _ _) ?_
                · go_simp
                try simp only [List.setIfInBounds_toArray, List.set_cons_zero, List.set_cons_succ]
                refine anyBut.takeT (i := 7) (t := 74) (v := .slice A2 rs.length c2) hW (by decide) rfl rfl (by decide +kernel) (by decide +kernel) (by decide +kernel) (fun _ _ _ h => h.elim) (.inl ⟨rfl, fun w' hS => ?_⟩) (Below.refl _ _) ?_
                · have hB' := hBX.below hS hBX.lt
                  have r0 := hB'.get (j := 5) rfl
                  go_simp
                try simp only [List.setIfInBounds_toArray, List.set_cons_zero, List.set_cons_succ]
                refine anyBut.takeT (i := 8) (t := 75) (v := .int .i64 rs.length) hW (by decide) rfl rfl (by decide +kernel) (by decide +kernel) (by decide +kernel) (fun _ _ _ h => h.elim) (.inl ⟨rfl, fun w' hS => ?_⟩) (Below.refl _ _) ?_
                · go_simp
                try simp only [List.setIfInBounds_toArray, List.set_cons_zero, List.set_cons_succ]
                refine anyBut.takeT (i := 9) (t := 76) (v := .int .i64 off) hW (by decide) rfl rfl (by decide +kernel) (by decide +kernel) (by decide +kernel) (fun _ _ _ h => h.elim) (.inl ⟨rfl, fun w' hS => ?_⟩) (Below.refl _ _) ?_
                · go_simp
                try simp only [List.setIfInBounds_toArray, List.set_cons_zero, List.set_cons_succ]
                refine anyBut.takeT (i := 10) (t := 77) (v := .agg #[.int .i64 s, .int .i64 rs.length, .int .i64 off]) hW (by decide) rfl rfl (by decide +kernel) (by decide +kernel) (by decide +kernel) (fun _ _ _ h => h.elim) (.inl ⟨rfl, fun w' hS => ?_⟩) (Below.refl _ _) ?_
                · go_simp
                try simp only [List.setIfInBounds_toArray, List.set_cons_zero, List.set_cons_succ]
                refine anyBut.all (rs := [0, 11]) (by decide +kernel) (by simp) fun q hq => ?_
                simp only [List.mem_cons, List.not_mem_nil, or_false] at hq
                rcases hq with rfl | rfl
                · refine wpOp_of rfl rfl ?_
                  go_simp
                  have bY1 : Below X.heap.size X (X.alloc (.cells #[] 93)) := bl_alloc (Below.refl _ _) _
                  refine ⟨bY1, ?_⟩
                  have own1 : (X.alloc (.cells #[] 93)).ownsRow X.heap.size 93 3 (.slice (some ⟨X.heap.size, 0, none⟩) 0 0) 0 [] := ownsRow_empty X 93 3 _ (Nat.le_refl _)
                  generalize hY1 : X.alloc (.cells #[] 93) = Y1 at *
                  have hs1 : X.heap.size < Y1.heap.size := by rw [← hY1]; simp
                  clear hY1
                  try simp only [List.setIfInBounds_toArray, List.set_cons_zero, List.set_cons_succ]
                  refine anyBut.all (rs := [3, 11]) (by decide +kernel) (by simp) fun q hq => ?_
                  simp only [List.mem_cons, List.not_mem_nil, or_false] at hq
                  rcases hq with rfl | rfl
                  · refine wpOp_of rfl rfl ?_
                    refine wp_append_src 70 rfl (.tmp 67) (.tmp 69) 90 rfl X.heap.size 93 i0 _ 3 24 Try.underlying90 hi0 hz0 hz1 hz2 rfl (by decide) (.slice (some ⟨X.heap.size, 0, none⟩) 0 0) 0 [] rfl own1 zA zl.length zc (dnCells zl) rfl (hsc.out _ bY1) (dnCells_one zl) (by simp only [maxLen]; omega) (by omega) (by have := (bY1).size; simpa using this) ?_
                    intro AY2 cY2 Y2 ownY2 gY2
                    have bY2 := bl_own bY1 own1 (Nat.le_refl _) gY2
                    try simp only [Nat.zero_add, List.nil_append] at ownY2 ⊢
                    refine ⟨.inr bY2, ?_⟩
                    try simp only [List.setIfInBounds_toArray, List.set_cons_zero, List.set_cons_succ]
                    refine anyBut.one (i := 11) (by decide +kernel) rfl rfl ?_
                    go_simp
                    have bY3 : Below X.heap.size X (Y2.alloc (.cells #[.int .i64 s, .int .i64 rs.length, .int .i64 off] 93)) := bl_alloc bY2 _
                    refine ⟨bY3, ?_⟩
                    try simp only [List.setIfInBounds_toArray, List.set_cons_zero, List.set_cons_succ]
                    refine anyBut.one (i := 12) (by decide +kernel) rfl rfl ?_
                    refine wp_append_src 79 rfl (.tmp 70) (.tmp 78) 90 rfl X.heap.size 93 i0 _ 3 24 Try.underlying90 hi0 hz0 hz1 hz2 rfl (by decide) (.slice AY2 zl.length cY2) zl.length (dnCells zl) rfl (ownY2.alloc _) (some ⟨Y2.heap.size, 0, none⟩) 1 1 (dnL ⟨s, rs.length, off⟩) rfl (src_new Y2 (dnL ⟨s, rs.length, off⟩) 93 1 3 rfl) (by intro u hu; simp [dnL] at hu; rcases hu with rfl | rfl | rfl <;> rfl) (by simp only [maxLen]; omega) (by omega) (by have := (bY3).size; simpa using this) ?_
                    intro AYa cYa Ya ownYa gYa
                    have bYa := bl_own bY3 (ownY2.alloc _) (Nat.le_refl _) gYa
                    try simp only [Nat.zero_add, List.nil_append] at ownYa ⊢
                    refine ⟨.inr bYa, ?_⟩
                    try simp only [List.setIfInBounds_toArray, List.set_cons_zero, List.set_cons_succ]
                    refine anyBut.takeT (i := 13) (t := 80) (v := .pointer (some ⟨w2.heap.size, 3, none⟩)) hW (by decide) rfl rfl (by decide +kernel) (by decide +kernel) (by decide +kernel) (fun _ _ _ h => h.elim) (.inl ⟨rfl, fun w' hS => ?_⟩) bYa ?_
                    · go_simp
                    try simp only [List.setIfInBounds_toArray, List.set_cons_zero, List.set_cons_succ]
                    refine anyBut.one (i := 14) (by decide +kernel) rfl rfl ?_
                    have hXa := hXX'.below bYa hXX'.lt
                    have r3 := hXa.get (j := 3) rfl
                    have u3 := hXa.unf 3
                    go_simp
                    try simp only [List.setIfInBounds_toArray, List.set_cons_zero, List.set_cons_succ]
                    refine anyBut.done (by decide +kernel) ?_ _
                    refine NoPanic.normal ?_
                    go_wp2_with fail
                    go_meet
                    case rel =>
                      rw [show (dnCells zl ++ dnL ⟨s, rs.length, off⟩) = dnCells (zl ++ [⟨s, rs.length, off⟩]) from (dnCells_snoc _ _).symm] at ownYa
                      exact notedC_leaf hXX' hBX (by omega) hb2X (Nat.le_refl _) ⟨fun b o hb => bYa.cell (p := ⟨b, o, none⟩) hb, bYa⟩ hTX ownYa (by simp)
                  · refine wpOp_of rfl rfl ?_
                    go_simp
                    have bY2 : Below X.heap.size X (Y1.alloc (.cells #[.int .i64 s, .int .i64 rs.length, .int .i64 off] 93)) := bl_alloc bY1 _
                    refine ⟨bY2, ?_⟩
                    try simp only [List.setIfInBounds_toArray, List.set_cons_zero, List.set_cons_succ]
                    have hN : SrcAt (Y1.alloc (.cells (dnL ⟨s, rs.length, off⟩).toArray 93)) (some ⟨Y1.heap.size, 0, none⟩) 1 3 (dnL ⟨s, rs.length, off⟩) := src_new Y1 (dnL ⟨s, rs.length, off⟩) 93 1 3 rfl
                    have own2 := own1.alloc (.cells (dnL ⟨s, rs.length, off⟩).toArray 93)
                    refine anyBut.one (i := 3) (by decide +kernel) rfl rfl ?_
                    refine wp_append_src 70 rfl (.tmp 67) (.tmp 69) 90 rfl X.heap.size 93 i0 _ 3 24 Try.underlying90 hi0 hz0 hz1 hz2 rfl (by decide) (.slice (some ⟨X.heap.size, 0, none⟩) 0 0) 0 [] rfl own2 zA zl.length zc (dnCells zl) rfl (hsc.out _ bY2) (dnCells_one zl) (by simp only [maxLen]; omega) (by omega) (by have := (bY2).size; simpa using this) ?_
                    intro AY3 cY3 Y3 ownY3 gY3
                    have bY3 := bl_own bY2 own2 (Nat.le_refl _) gY3
                    try simp only [Nat.zero_add, List.nil_append] at ownY3 ⊢
                    have hN3 : SrcAt Y3 (some ⟨Y1.heap.size, 0, none⟩) 1 3 (dnL ⟨s, rs.length, off⟩) := hN.grown gY3 (by simp) (by simp [Value.ownBlock]; omega)
                    refine ⟨.inr bY3, ?_⟩
                    try simp only [List.setIfInBounds_toArray, List.set_cons_zero, List.set_cons_succ]
                    refine anyBut.one (i := 12) (by decide +kernel) rfl rfl ?_
                    refine wp_append_src 79 rfl (.tmp 70) (.tmp 78) 90 rfl X.heap.size 93 i0 _ 3 24 Try.underlying90 hi0 hz0 hz1 hz2 rfl (by decide) (.slice AY3 zl.length cY3) zl.length (dnCells zl) rfl ownY3 (some ⟨Y1.heap.size, 0, none⟩) 1 1 (dnL ⟨s, rs.length, off⟩) rfl hN3 (by intro u hu; simp [dnL] at hu; rcases hu with rfl | rfl | rfl <;> rfl) (by simp only [maxLen]; omega) (by omega) (by have := (bY3).size; simpa using this) ?_
                    intro AYa cYa Ya ownYa gYa
                    have bYa := bl_own bY3 ownY3 (Nat.le_refl _) gYa
                    try simp only [Nat.zero_add, List.nil_append] at ownYa ⊢
                    refine ⟨.inr bYa, ?_⟩
                    try simp only [List.setIfInBounds_toArray, List.set_cons_zero, List.set_cons_succ]
                    refine anyBut.takeT (i := 13) (t := 80) (v := .pointer (some ⟨w2.heap.size, 3, none⟩)) hW (by decide) rfl rfl (by decide +kernel) (by decide +kernel) (by decide +kernel) (fun _ _ _ h => h.elim) (.inl ⟨rfl, fun w' hS => ?_⟩) bYa ?_
                    · go_simp
                    try simp only [List.setIfInBounds_toArray, List.set_cons_zero, List.set_cons_succ]
                    refine anyBut.one (i := 14) (by decide +kernel) rfl rfl ?_
                    have hXa := hXX'.below bYa hXX'.lt
                    have r3 := hXa.get (j := 3) rfl
                    have u3 := hXa.unf 3
                    go_simp
                    try simp only [List.setIfInBounds_toArray, List.set_cons_zero, List.set_cons_succ]
                    refine anyBut.done (by decide +kernel) ?_ _
                    refine NoPanic.normal ?_
                    go_wp2_with fail
                    go_meet
                    case rel =>
                      rw [show (dnCells zl ++ dnL ⟨s, rs.length, off⟩) = dnCells (zl ++ [⟨s, rs.length, off⟩]) from (dnCells_snoc _ _).symm] at ownYa
                      exact notedC_leaf hXX' hBX (by omega) hb2X (Nat.le_refl _) ⟨fun b o hb => bYa.cell (p := ⟨b, o, none⟩) hb, bYa⟩ hTX ownYa (by simp)
                · refine wpOp_of rfl rfl ?_
                  go_simp
                  have bY1 : Below X.heap.size X (X.alloc (.cells #[.int .i64 s, .int .i64 rs.length, .int .i64 off] 93)) := bl_alloc (Below.refl _ _) _
                  refine ⟨bY1, ?_⟩
                  try simp only [List.setIfInBounds_toArray, List.set_cons_zero, List.set_cons_succ]
                  have hN : SrcAt (X.alloc (.cells (dnL ⟨s, rs.length, off⟩).toArray 93)) (some ⟨X.heap.size, 0, none⟩) 1 3 (dnL ⟨s, rs.length, off⟩) := src_new X (dnL ⟨s, rs.length, off⟩) 93 1 3 rfl
                  generalize hY1 : X.alloc (.cells #[.int .i64 s, .int .i64 rs.length, .int .i64 off] 93) = Y1 at *
                  have hN1 : SrcAt Y1 (some ⟨X.heap.size, 0, none⟩) 1 3 (dnL ⟨s, rs.length, off⟩) := by rw [← hY1]; exact hN
                  have hs1 : X.heap.size < Y1.heap.size := by rw [← hY1]; simp
                  clear hY1 hN
                  refine anyBut.one (i := 0) (by decide +kernel) rfl rfl ?_
                  go_simp
                  have bY2 : Below X.heap.size X (Y1.alloc (.cells #[] 93)) := bl_alloc bY1 _
                  refine ⟨bY2, ?_⟩
                  try simp only [List.setIfInBounds_toArray, List.set_cons_zero, List.set_cons_succ]
                  have own2 : (Y1.alloc (.cells #[] 93)).ownsRow X.heap.size 93 3 (.slice (some ⟨Y1.heap.size, 0, none⟩) 0 0) 0 [] := ownsRow_empty Y1 93 3 _ (by omega)
                  refine anyBut.one (i := 3) (by decide +kernel) rfl rfl ?_
                  refine wp_append_src 70 rfl (.tmp 67) (.tmp 69) 90 rfl X.heap.size 93 i0 _ 3 24 Try.underlying90 hi0 hz0 hz1 hz2 rfl (by decide) (.slice (some ⟨Y1.heap.size, 0, none⟩) 0 0) 0 [] rfl own2 zA zl.length zc (dnCells zl) rfl (hsc.out _ bY2) (dnCells_one zl) (by simp only [maxLen]; omega) (by omega) (by have := (bY2).size; simpa using this) ?_
                  intro AY3 cY3 Y3 ownY3 gY3
                  have bY3 := bl_own bY2 own2 (Nat.le_refl _) gY3
                  try simp only [Nat.zero_add, List.nil_append] at ownY3 ⊢
                  have hN3 : SrcAt Y3 (some ⟨X.heap.size, 0, none⟩) 1 3 (dnL ⟨s, rs.length, off⟩) := ((hN1.grown (gr_below (bl_alloc (Below.refl _ _) _) none) (by omega) (by simp)).grown gY3 (by simp; omega) (by simp [Value.ownBlock]; omega))
                  refine ⟨.inr bY3, ?_⟩
                  try simp only [List.setIfInBounds_toArray, List.set_cons_zero, List.set_cons_succ]
                  refine anyBut.one (i := 12) (by decide +kernel) rfl rfl ?_
                  refine wp_append_src 79 rfl (.tmp 70) (.tmp 78) 90 rfl X.heap.size 93 i0 _ 3 24 Try.underlying90 hi0 hz0 hz1 hz2 rfl (by decide) (.slice AY3 zl.length cY3) zl.length (dnCells zl) rfl ownY3 (some ⟨X.heap.size, 0, none⟩) 1 1 (dnL ⟨s, rs.length, off⟩) rfl hN3 (by intro u hu; simp [dnL] at hu; rcases hu with rfl | rfl | rfl <;> rfl) (by simp only [maxLen]; omega) (by omega) (by have := (bY3).size; simpa using this) ?_
                  intro AYa cYa Ya ownYa gYa
                  have bYa := bl_own bY3 ownY3 (Nat.le_refl _) gYa
                  try simp only [Nat.zero_add, List.nil_append] at ownYa ⊢
                  refine ⟨.inr bYa, ?_⟩
                  try simp only [List.setIfInBounds_toArray, List.set_cons_zero, List.set_cons_succ]
                  refine anyBut.takeT (i := 13) (t := 80) (v := .pointer (some ⟨w2.heap.size, 3, none⟩)) hW (by decide) rfl rfl (by decide +kernel) (by decide +kernel) (by decide +kernel) (fun _ _ _ h => h.elim) (.inl ⟨rfl, fun w' hS => ?_⟩) bYa ?_
                  · go_simp
                  try simp only [List.setIfInBounds_toArray, List.set_cons_zero, List.set_cons_succ]
                  refine anyBut.one (i := 14) (by decide +kernel) rfl rfl ?_
                  have hXa := hXX'.below bYa hXX'.lt
                  have r3 := hXa.get (j := 3) rfl
                  have u3 := hXa.unf 3
                  go_simp
                  try simp only [List.setIfInBounds_toArray, List.set_cons_zero, List.set_cons_succ]
                  refine anyBut.done (by decide +kernel) ?_ _
                  refine NoPanic.normal ?_
                  go_wp2_with fail
                  go_meet
                  case rel =>
                    rw [show (dnCells zl ++ dnL ⟨s, rs.length, off⟩) = dnCells (zl ++ [⟨s, rs.length, off⟩]) from (dnCells_snoc _ _).symm] at ownYa
                    exact notedC_leaf hXX' hBX (by omega) hb2X (Nat.le_refl _) ⟨fun b o hb => bYa.cell (p := ⟨b, o, none⟩) hb, bYa⟩ hTX ownYa (by simp)
              case rest =>
                obtain ⟨A7, c7, hc7, hT7, hX7, hd7, hB7, hb7⟩ := hcut
                obtain ⟨L5, hL5⟩ : ∃ L5, L5 = zl ++ [(⟨s, rs.length, off⟩ : Dn)] := ⟨_, rfl⟩
                have hll : L5.length = zl.length + 1 := by rw [hL5]; simp
                simp only [List.length_append, List.length_cons, List.length_nil, Nat.zero_add] at hX7 hc7
                rw [← hL5] at hd7
                rw [← hll] at hX7 hc7
                replace hL5 := Lib.hid hL5
                have q7 := hX7.get (j := 3) rfl
                have u7 := hX7.unf 3
                have l7 := hX7.lt
                clear hXX hdz
                by_cases h5 : 5 < L5.length
                · obtain ⟨b7, o7, rfl, ht7, _⟩ := hd7 0 (by omega)
                  have hg5 : decide ((5 : Int) < (L5.length : Int)) = true := by simp; omega
                  have hc1 : ¬ c7 = 1 := by omega
                  have hl1 : (1 : Int) ≤ (L5.length : Int) := by omega
                  replace hll := Lib.hid hll
                  have h8 := hX7.set_same 3 (.slice (some ⟨b7, o7 + 3, none⟩) (L5.length - 1) (c7 - 1))
                  simp only [List.set_cons_succ, List.set_cons_zero] at h8
                  go_wp2_with fail
                  go_meet
                  case rel =>
                    refine ⟨zn + rs.length, L5.drop 1, some ⟨b7, o7 + 3, none⟩, c7 - 1, Lib.hid ⟨?_, ?_⟩, ?_, ?_, ?_⟩
                    · rw [← hL5.out]; simp [h5]
                    · simp
                    · rw [List.length_drop]; have := hll.out; rw [show zl.length = L5.length - 1 from by omega]; exact h8
                    · exact hd7.drop1.keep (fun b hb => Below.heap_setCell wc _ _ b (hb.ne hT7 (by decide)))
                    · exact bl_set hb7 (p := ⟨w2.heap.size, 3, none⟩) (Nat.le_refl _) _
                · have hg5 : decide ((5 : Int) < (L5.length : Int)) = false := by simp; omega
                  go_wp2_with fail
                  go_meet
                  case rel => exact ⟨zn + rs.length, L5, A7, c7, Lib.hid ⟨by rw [← hL5.out]; simp [h5], by simp⟩, hX7, hd7, hb7⟩
            · have h7 : (k == 1) = false := by simpa using hke
              have h8 : (k != 1) = true := by simpa using hke
              have hke' := Lib.hid hke
              clear hke
              go_wp2_with fail
              go_meet
              case rel => exact ⟨zn, zl, zA, zc, Lib.hid (by simp [hke'.out]), hXX, hdz, hb2⟩
          case rest =>
            obtain ⟨fn, fl, fA, fc, hf, hXX, hdf, hb2⟩ := hcut
            clear qX uX qB lX lB
            have HR := G.out.ref.below hb2
            have u3 := ownsRow_unf HR.row
            obtain ⟨g3', Az', cz', eA, _, _, hgl4, _, _, e0, e1, e2, e3⟩ := HR.entry G.out.at'
            cases eA
            dsimp only at e0 e1 e2 e3
            have lXc := hXX.lt
            have lBc := HR.tab.lt
            have t0 := HR.tab.drew.get (j := 0) rfl
            have x0 := hXX.drew.get (j := 0) rfl
            have x1 := hXX.drew.get (j := 1) rfl
            have x2 := hXX.drew.get (j := 2) rfl
            have x3 := hXX.drew.get (j := 3) rfl
            go_wp2_with fail
            go_still_tail 7, (by kernel_rfl)
            change wpList _ _ _ _ _ (wc.drew)
            go_wp2_with fail
            go_ret
            rw [HN.out]
            exact ⟨rfl, note_end G.out hbb hb2 hk3 hz.out hf.out hdf⟩
end Go.Proofs.Ytjpmdjjihdicdaa
