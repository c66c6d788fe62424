/- The rows that Compact leaves: kept. -/
import Derived.Test.YtejjiiakficafaaLo
namespace Go.Proofs.Ytejjiiakficafaa
open Go.RowKit Go.Shelf Go.Maps
attribute [local go_sem] Oper.semAt_some

def okS (k : ByteArray) : Prop := k.size ≤ maxLen
def klS (k : ByteArray) : Lit := .string k.data.toList
theorem told_str {P : Program} {K : TypeId} (hK : P.underlying K = some .string) : KeyTold P K ByteArray okS (fun k => .string k) klS :=
  ⟨string_keyed hK, fun x hx => WideMaps.keyOf_string_mk hK hx, fun _ _ => trivial, fun x y _ _ h => by
    injection h with h
    cases x; cases y
    simp only at h
    congr 1
    exact Array.toList_inj.1 h⟩
def encI (z : Int) : Value := .int .i64 z
theorem zero3 (w : World) : (zeroValue 3).run Try.prog w = .ok (encI 0) w := by kernel_rfl

theorem beq_off {a b : Int} (h : a = b) : (a == b) = true := by simpa using h

set_option maxHeartbeats 1000000 in
theorem kept1_any (r : Rw) (n : Int) (fn : ByteArray → Int) (mp k : Nat) (Bn Bl Bm lb tb : Nat) (s f : Int) (rv ov : Value) (A : Option Addr) (c : Nat) (l : List Gn) (w : World) (hN : Blk w Bn [.int .i64 n]) (hL : Blk w Bl [.pointer (some ⟨lb, 0, none⟩)]) (hM : Blk w Bm [.map (some mp)])
    (hF : FM Try.prog 9 klS okS w mp k encI 0 fn) (hB : Blk w lb (lgL tb s f rv ov (.slice A l.length c))) (hl : LAt w A 3 gnL l) (hll : l.length ≤ 4611686018427387904) (hr : r.rc.key.size ≤ 140737488351232) :
    Calls Try.prog 43 #[.agg #[.int .i64 r.off, .int .i64 r.prod, .bool r.tx, .string r.rc.key, .string r.rc.val, .bool r.rc.dead], .pointer (some ⟨Bn, 0, none⟩), .pointer (some ⟨Bl, 0, none⟩), .pointer (some ⟨Bm, 0, none⟩)] w fun e w' => e = .returned (.bool (staysP l n fn r)) ∧ Below w.heap.size w w' := by
  have qN := hN.cell
  have qL := hL.cell
  have qM := hM.cell
  have lN := hN.lt
  have lL := hL.lt
  have lM := hM.lt
  have lF := hF.lt
  have HS := Lib.hid (show staysP l n fn r = (decide (n ≤ r.off) || (!lost l r && (fn r.rc.key == r.off))) from rfl)
  have hb1 := bl_alloc (Below.refl w.heap.size w) (.cells #[.int .i64 r.off, .int .i64 r.prod, .bool r.tx, .string r.rc.key, .string r.rc.val, .bool r.rc.dead] 51)
  have hB1 := hB.alloc (.cells #[.int .i64 r.off, .int .i64 r.prod, .bool r.tx, .string r.rc.key, .string r.rc.val, .bool r.rc.dead] 51)
  have hl1 := hl.below hb1
  have hR : Blk (w.alloc (.cells #[.int .i64 r.off, .int .i64 r.prod, .bool r.tx, .string r.rc.key, .string r.rc.val, .bool r.rc.dead] 51)) w.heap.size (rwL r) := Blk.new' _ _ rfl
  by_cases hn : n ≤ r.off
  · go_enter Try.func43, Try.ntmps43
    go_wp2_with fail
    go_ret
    exact ⟨ret_bool (by rw [HS.out]; simp [hn]), hb1⟩
  · have HL := Lib.hid (show lost l r = lost l r from rfl)
    cases hx : lost l r with
    | true =>
      have HS2 := Lib.hid (show staysP l n fn r = false by rw [HS.out, hx]; simp; omega)
      have hcon := lost_any r lb tb s f rv ov A c l _ hB1 hl1 hll
      rw [hx] at hcon
      replace hcon := Lib.hid hcon
      clear HS HL hx
      go_enter Try.func43, Try.ntmps43
      go_wp2_with (go_at_call 37; refine hcon.out.mono ?_; rintro e w2 ⟨rfl, hb2⟩)
      go_ret
      exact ⟨ret_bool (by rw [HS2.out]), bl_tr hb1 hb2⟩
    | false =>
      have HS2 := Lib.hid (show staysP l n fn r = (fn r.rc.key == r.off) by rw [HS.out, hx, decide_eq_false (by omega)]; simp)
      have hcon := lost_any r lb tb s f rv ov A c l _ hB1 hl1 hll
      rw [hx] at hcon
      replace hcon := Lib.hid hcon
      clear HS HL hx
      go_enter Try.func43, Try.ntmps43
      go_wp2_with (go_at_call 37; refine hcon.out.mono ?_; rintro e w2 ⟨rfl, hb2⟩; have hlk := ((hF.alloc _).below hb2 (by simp; omega)).look (told_str Try.underlying9) Try.underlying55 zero3 (x := r.rc.key) (by unfold okS maxLen; omega); simp only [encI] at hlk; have qR := (hR.below hb2 hR.lt).cell; simp only [rwL] at qR; have qM2 := ((hM.alloc _).below hb2 (hM.alloc _).lt).cell)
      go_ret
      exact ⟨ret_bool (by rw [HS2.out]), bl_tr hb1 hb2⟩

theorem lastF_snoc (gs : List Gn) (n : Int) (l : List Rw) (i : Nat) (h : i < l.length) : lastF gs n (l.take (i + 1)) = if decide (l[i].off < n) && !lost gs l[i] then (fun y => if y = l[i].rc.key then l[i].off else lastF gs n (l.take i) y) else lastF gs n (l.take i) := by
  rw [List.take_succ_eq_append_getElem h]
  unfold lastF
  rw [List.foldl_append]
  rfl

set_option maxRecDepth 100000 in
set_option maxHeartbeats 2000000 in
theorem kept_any (n : Int) (lb tb : Nat) (s f : Int) (ov : Value) (A2 : Option Addr) (c2 : Nat) (rows : List Rw) (A : Option Addr) (c : Nat) (l : List Gn) (w : World) (hB : Blk w lb (lgL tb s f (.slice A2 rows.length c2) ov (.slice A l.length c)))
    (hR : LAt w A2 6 rwL rows) (hl : LAt w A 3 gnL l) (hrl : rows.length ≤ 2199023255500) (hll : l.length ≤ 4611686018427387904) (hk : ∀ r ∈ rows, r.rc.key.size ≤ 140737488351232) :
    Calls Try.prog 26 #[.pointer (some ⟨lb, 0, none⟩), .int .i64 n] w fun e w' => ∃ A' c', e = .returned (.slice A' (rows.filter (staysP l n (lastF l n rows))).length c') ∧
      w'.ownsRow w.heap.size 51 6 (.slice A' (rows.filter (staysP l n (lastF l n rows))).length c') (rows.filter (staysP l n (lastF l n rows))).length ((rows.filter (staysP l n (lastF l n rows))).flatMap rwL) ∧ Below w.heap.size w w' := by
  have hmf : ∀ (fn : Fn) (first cap : Array Value) (w : World), (Instr.makeFunc fn first cap).run Try.prog w = .ok (.func fn first cap) w := fun _ _ _ _ => rfl
  have hmm := @run_makeMap Try.prog
  have q3 : w.cell? ⟨lb, 3, none⟩ = some (.slice A2 rows.length c2) := hB.get rfl
  have hlt := hB.lt
  have hlt1 : lb < w.heap.size + 1 := by omega
  have hlt2 : lb < w.heap.size + 1 + 1 := by omega
  have hlt3 : lb < w.heap.size + 1 + 1 + 1 := by omega
  replace hk := Lib.hid hk
  go_enter Try.func26, Try.ntmps26
  go_wp2_with fail
  go_loopw [14] (fun u wr => ∃ i : Nat, u = .int .i64 i ∧ i ≤ rows.length ∧ Blk wr w.heap.size [.pointer (some ⟨lb, 0, none⟩)] ∧ Blk wr (w.heap.size + 1) [.int .i64 n] ∧ Blk wr (w.heap.size + 1 + 1 + 1) [.map (some (w.heap.size + 1 + 1))] ∧
    FM Try.prog 9 klS okS wr (w.heap.size + 1 + 1) i encI 0 (lastF l n (rows.take i)) ∧ Below w.heap.size w wr) (fun u _ => rows.length - (intOf u).toNat)
  case atStart =>
    have hfm := ((FM.made ((w.alloc (.cells #[.pointer (some ⟨lb, 0, none⟩)] 23)).alloc (.cells #[.int .i64 n] 3)) Try.prog 9 klS okS encI 0).alloc (.cells #[.map (some (w.heap.size + 1 + 1))] 55))
    refine ⟨0, rfl, Nat.zero_le _, ?_, ?_, ?_, by simpa [lastF] using hfm, bl_alloc (bl_alloc (bl_alloc (bl_alloc (Below.refl _ _) _) _) _) _⟩
    all_goals (repeat' (first | (refine Blk.new' _ _ ?_; (simp; done)) | apply Blk.alloc))
  case round =>
    obtain ⟨i, rfl, hi, hBl, hBn, hBm, hF, hb⟩ := hrel
    have hBw := hB.below hb hlt
    have hlw := hl.below hb
    have hRw := hR.below hb
    have hbs := hb.size
    clear hlt1 hlt2 hlt3
    by_cases hil : i < rows.length
    · obtain ⟨b, p, rfl, hbl, ca⟩ := hRw i hil
      have hft := Lib.hid (lastF_snoc l n rows i hil)
      have hkx := hk.out rows[i] (List.getElem_mem hil)
      generalize rows[i] = x at ca hft hkx
      have a0 : wr.cell? ⟨b, p + i * 6, none⟩ = some (.int .i64 x.off) := ca 0 _ rfl
      have a1 : wr.cell? ⟨b, p + i * 6 + 1, none⟩ = some (.int .i64 x.prod) := ca 1 _ rfl
      have a2 : wr.cell? ⟨b, p + i * 6 + 2, none⟩ = some (.bool x.tx) := ca 2 _ rfl
      have a3 : wr.cell? ⟨b, p + i * 6 + 3, none⟩ = some (.string x.rc.key) := ca 3 _ rfl
      have a4 : wr.cell? ⟨b, p + i * 6 + 4, none⟩ = some (.string x.rc.val) := ca 4 _ rfl
      have a5 : wr.cell? ⟨b, p + i * 6 + 5, none⟩ = some (.bool x.rc.dead) := ca 5 _ rfl
      have qn := hBn.cell
      have ql := hBl.cell
      have qm := hBm.cell
      have ln := hBn.lt
      have ll := hBl.lt
      have lm := hBm.lt
      have lF := hF.lt
      have hb1 := bl_alloc (Below.refl wr.heap.size wr) (.cells #[.int .i64 x.off, .int .i64 x.prod, .bool x.tx, .string x.rc.key, .string x.rc.val, .bool x.rc.dead] 51)
      have hX : Blk (wr.alloc (.cells #[.int .i64 x.off, .int .i64 x.prod, .bool x.tx, .string x.rc.key, .string x.rc.val, .bool x.rc.dead] 51)) wr.heap.size (rwL x) := Blk.new' _ _ rfl
      have hi0 : i < maxLen := by simp only [maxLen]; omega
      clear ca hB hR hl
      by_cases hn : x.off < n
      · have hcon := lost_any x lb tb s f _ ov A c l _ (hBw.alloc (.cells #[.int .i64 x.off, .int .i64 x.prod, .bool x.tx, .string x.rc.key, .string x.rc.val, .bool x.rc.dead] 51)) (hlw.below hb1) hll
        cases hx : lost l x with
        | true =>
          have hft2 := Lib.hid (show lastF l n (rows.take (i + 1)) = lastF l n (rows.take i) by rw [hft.out, hx]; simp)
          rw [hx] at hcon
          replace hcon := Lib.hid hcon
          clear hx hft hlw hBw hRw
          go_wp2_with (go_at_call 37; refine hcon.out.mono ?_; rintro e w2 ⟨rfl, hb2⟩)
          refine ⟨⟨i + 1, by go_num, by omega, (hBl.alloc _).below hb2 (hBl.alloc _).lt, (hBn.alloc _).below hb2 (hBn.alloc _).lt, (hBm.alloc _).below hb2 (hBm.alloc _).lt, ?_, bl_tr (bl_tr hb hb1) hb2⟩, by simp [intOf]; omega⟩
          rw [hft2.out]
          exact ((hF.alloc _).below hb2 (hF.alloc _).lt).mono (by omega)
        | false =>
          have hft2 := Lib.hid (show lastF l n (rows.take (i + 1)) = fun y => if y = x.rc.key then x.off else lastF l n (rows.take i) y by rw [hft.out, hx, if_pos (by simp [hn])])
          rw [hx] at hcon
          replace hcon := Lib.hid hcon
          clear hx hft hlw hBw hRw
          go_wp2_with (first | (go_at_call 37; refine hcon.out.mono ?_; rintro e w2 ⟨rfl, hb2⟩; have hX2 := hX.below hb2 hX.lt; have qX := hX2.cell; simp only [rwL] at qX; have hBm2 := (hBm.alloc _).below hb2 (hBm.alloc _).lt; have qm2 := hBm2.cell; have hF2 := (hF.alloc _).below hb2 (hF.alloc _).lt) | (refine wpList_mapUpdate_fm rfl _ _ _ 55 rfl (told_str Try.underlying9) Try.underlying55 (w.heap.size + 1 + 1) i rfl hF2 hi0 x.rc.key (by unfold okS maxLen; omega) rfl x.off rfl ?_; intro w3 hF3 hg3))
          have hsz := hb2.size
          simp only [World.size_alloc] at hsz
          refine ⟨⟨i + 1, by go_num, by omega, ((hBl.alloc _).below hb2 (hBl.alloc _).lt).grown hg3 (by first | (simp; done) | (simp; omega)), ((hBn.alloc _).below hb2 (hBn.alloc _).lt).grown hg3 (by first | (simp; done) | (simp; omega)), hBm2.grown hg3 (by first | (simp; done) | (simp; omega)), ?_, bl_gr (bl_tr (bl_tr hb hb1) hb2) hg3 (by omega)⟩, by simp [intOf]; omega⟩
          rw [hft2.out]
          exact hF3
      · have hft2 := Lib.hid (show lastF l n (rows.take (i + 1)) = lastF l n (rows.take i) by rw [hft.out, decide_eq_false hn]; simp)
        clear hft
        go_wp2_with fail
        refine ⟨⟨i + 1, by go_num, by omega, hBl.alloc _, hBn.alloc _, hBm.alloc _, ?_, bl_tr hb hb1⟩, by simp [intOf]; omega⟩
        rw [hft2.out]
        exact (hF.alloc _).mono (by omega)
    · obtain rfl : i = rows.length := by omega
      rw [List.take_length] at hF
      have ql := hBl.cell
      have qw3 : wr.cell? ⟨lb, 3, none⟩ = some (.slice A2 rows.length c2) := hBw.get rfl
      have hcl : ∀ x ∈ rows, ∀ W : World, Below wr.heap.size wr W → Calls Try.prog 43 #[.agg #[.int .i64 x.off, .int .i64 x.prod, .bool x.tx, .string x.rc.key, .string x.rc.val, .bool x.rc.dead], .pointer (some ⟨w.heap.size + 1, 0, none⟩), .pointer (some ⟨w.heap.size, 0, none⟩), .pointer (some ⟨w.heap.size + 1 + 1 + 1, 0, none⟩)] W fun e w' => e = .returned (.bool (staysP l n (lastF l n rows) x)) ∧ Below W.heap.size W w' :=
        fun x hx W hW => kept1_any x n _ (w.heap.size + 1 + 1) rows.length _ _ _ lb tb s f _ ov A c l W (hBn.below hW hBn.lt) (hBl.below hW hBl.lt) (hBm.below hW hBm.lt) (hF.below hW hF.lt) (hBw.below hW hBw.lt) (hlw.below hW) hll (hk.out x hx)
      replace hcl := Lib.hid hcl
      go_wp2_with (go_at_call 32; refine (keep43_any A2 c2 rows (staysP l n (lastF l n rows)) _ _ _ _ hRw hrl hcl.out).mono ?_; rintro e w2 ⟨A3, c3, rfl, hown, hb2⟩)
      go_ret
      exact ⟨A3, c3, rfl, ownsRow_le hown hbs, bl_tr hb hb2⟩
end Go.Proofs.Ytejjiiakficafaa
