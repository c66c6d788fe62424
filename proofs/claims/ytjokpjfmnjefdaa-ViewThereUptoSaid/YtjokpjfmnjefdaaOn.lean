/- view.on: a map, row by row; its pairs, sorted. -/
import Derived.Test.YtjokpjfmnjefdaaTb
namespace Go.Proofs.Ytjokpjfmnjefdaa
open Go.RowKit Go.Shelf Go.Maps
attribute [local go_sem] Oper.semAt_some

theorem kept_new {w w' : World} {row : Option Nat} {base : Nat} {e : TypeId} {size : Nat} {v : Value} {n : Nat} {xs : List Value} (h : w.ownsRow base e size v n xs) (hg : w.grownBy w' row) (hr : ∀ r, row = some r → r < base) : w'.ownsRow base e size v n xs :=
  h.kept hg (by
    cases hv : v.ownBlock with
    | none => exact .inl rfl
    | some g =>
      refine .inr fun e => ?_
      have := hr g e.symm
      have := ownsRow_base h hv
      omega)
theorem lookS_mem_asM {l : List Pr} (h : Ris l) {p : Pr} (hp : p ∈ l) : lookS (asM l) p.key = some p := by
  unfold lookS asM
  rw [List.find?_map, Option.map_map]
  have : l.find? ((fun q : ByteArray × Pr => decide (q.1 = p.key)) ∘ fun p => (p.key, p)) = some p := by
    rw [List.find?_eq_some_iff_append]
    obtain ⟨s, t, rfl⟩ := List.append_of_mem hp
    refine ⟨by simp, s, t, rfl, fun x hx => ?_⟩
    have h1 := (List.pairwise_append.1 h).2.2 x hx p List.mem_cons_self
    have : x.key ≠ p.key := by intro e; rw [e, sb_irrefl] at h1; cases h1
    simp [this]
  rw [this]; rfl
theorem src_new' (w : World) (cs : List Value) (t : TypeId) (m size : Nat) (h : cs.length = m * size) {b : Nat} (hb : b = w.heap.size) : SrcAt (w.alloc (.cells cs.toArray t)) (some ⟨b, 0, none⟩) m size cs := by
  rw [hb]; exact src_new w cs t m size h
/-- The pairs that are told. -/
structure ToldL (L os : List Pr) (pr : ByteArray → Bool) (left : Lit → Bool) : Prop where
  perm : os.Perm (L.filter fun p => pr p.key)
  left : ∀ k : ByteArray, left (.string (kb k)) = (!pr k && (lookS (asM L) k).isSome)
theorem ToldL.start (L : List Pr) : ToldL L [] (fun _ => false) (Maps.has (smD prV (asM L))) := ⟨by simp, fun k => by rw [smD_has]; simp⟩
theorem ToldL.step {L os : List Pr} {pr : ByteArray → Bool} {left : Lit → Bool} (h : ToldL L os pr left) (hL : Ris L) {x : Pr} (hx : x ∈ L) (hl : left (.string (kb x.key)) = true) :
    ToldL L (os ++ [x]) (fun k => pr k || decide (k = x.key)) (fun z => left z && !z.sameKey (.string (kb x.key))) := by
  refine ⟨?_, fun k => ?_⟩
  · have h0 : pr x.key = false := by
      rw [h.left] at hl
      cases e : pr x.key with
      | false => rfl
      | true => rw [e] at hl; simp at hl
    exact (h.perm.append_right [x]).trans (perm_one (ris_nodup hL) hx pr h0).symm
  · rw [h.left]
    simp only [Lit.sameKey, kb_beq]
    cases pr k <;> cases lookS (asM L) k <;> simp
theorem ToldL.done {L os : List Pr} {pr : ByteArray → Bool} {left : Lit → Bool} (h : ToldL L os pr left) (hL : Ris L) (hl : ∀ k, left k = false) : os.Perm L := by
  have : (L.filter fun p => pr p.key) = L := by
    rw [List.filter_eq_self]
    intro p hp
    have h1 := h.left p.key
    rw [hl, lookS_mem_asM hL hp] at h1
    simpa using h1.symm
  exact this ▸ h.perm

def onL (l : List Pr) (r : List Rw) : List Pr := r.foldl stepL (l.foldl withL [])
theorem ris_foldW (l : List Pr) : ∀ d, Ris d → Ris (l.foldl withL d) := by
  induction l with
  | nil => intro d h; exact h
  | cons p r ih => intro d h; exact ih _ (ris_with h p)
theorem ris_foldS (l : List Rw) : ∀ d, Ris d → Ris (l.foldl stepL d) := by
  induction l with
  | nil => intro d h; exact h
  | cons p r ih => intro d h; exact ih _ (ris_step h p)
theorem ris_onL (l : List Pr) (r : List Rw) : Ris (onL l r) := ris_foldS r _ (ris_foldW l _ List.Pairwise.nil)
theorem len_foldW (l : List Pr) : ∀ d, (l.foldl withL d).length ≤ d.length + l.length := by
  induction l with
  | nil => intro d; simp
  | cons p r ih => intro d; rw [List.foldl_cons]; have := ih (withL d p); have := len_with d p; simp; omega
theorem len_onL (l : List Pr) (r : List Rw) : (onL l r).length ≤ l.length + r.length := by
  have h1 := len_fold r (l.foldl withL [])
  have h2 := len_foldW l []
  unfold onL
  simp at h2; omega

set_option maxRecDepth 100000 in
set_option maxHeartbeats 4000000 in
theorem on_any (A B : Option Addr) (c d : Nat) (l : List Pr) (rs : List Rw) (w : World) (hl : LAt w A 3 prL l) (hr : LAt w B 6 rwL rs) (hll : l.length + rs.length ≤ 3518437208800)
    (hkl : ∀ p ∈ l, p.key.size ≤ maxLen) (hkr : ∀ r ∈ rs, r.key.size ≤ maxLen) :
    Calls Try.prog 33 #[.slice A l.length c, .slice B rs.length d] w fun e w' => ∃ A' c', e = .returned (.slice A' (onL l rs).length c') ∧ PRow w' w.heap.size A' c' (onL l rs) ∧ Below w.heap.size w w' := by
  have hmm := @run_makeMap Try.prog
  have K9 : Keyed Try.prog 9 := string_keyed Try.underlying9
  obtain ⟨i0, hi0, hz0, hz1, hz2⟩ := info_parts info56
  have hRis := ris_onL l rs
  have hLen := len_onL l rs
  obtain ⟨L, hL⟩ : ∃ L, L = onL l rs := ⟨_, rfl⟩
  rw [← hL] at hRis hLen ⊢
  replace hL := Lib.hid hL
  generalize hmb : w.heap.size = mb at *
  go_enter Try.func33, Try.ntmps33
  go_wp2_with fail
  go_loopw [16] (fun u wr => ∃ i : Nat, i ≤ l.length ∧ u = .int .i64 i ∧ SM Try.prog 9 wr mb i prV (asM ((l.take i).foldl withL [])) ∧ Below w.heap.size w wr) (fun u _ => l.length - (intOf u).toNat)
  case atStart => exact ⟨0, Nat.zero_le _, rfl, by rw [← hmb]; exact SM.made w _ _ _, bl_alloc (Below.refl _ _) _⟩
  case round =>
    obtain ⟨i, hi, rfl, hM, hb⟩ := hrel
    by_cases hlt : i < l.length
    · obtain ⟨b, o, rfl, hbl, ca⟩ := (hl.below hb) i hlt
      have hmm2 := Lib.hid (show asM ((l.take (i + 1)).foldl withL []) = putS (asM ((l.take i).foldl withL [])) l[i].key l[i] by rw [putS_asM, List.take_succ_eq_append_getElem hlt, List.foldl_append]; rfl)
      have hkx := hkl l[i] (List.getElem_mem _)
      generalize l[i] = x at ca hmm2 hkx
      have a0 : wr.cell? ⟨b, o + i * 3, none⟩ = some (.string x.key) := ca 0 _ rfl
      have a1 := ca 1 _ rfl
      have a2 := ca 2 _ rfl
      have hltI : (i : Int) < (l.length : Int) := by omega
      clear ca hl hr hkl hkr
      have hbs := hb.size
      have hML := hM.lt
      have hiM : i < maxLen := by simp only [maxLen]; omega
      go_wp2_with (refine wpList_mapUpdate_sm (enc := prV) rfl _ _ _ 95 rfl Try.underlying9 Try.underlying95 mb i rfl (hM.alloc _) hiM x.key rfl hkx x rfl ?nx1; case' nx1 => intro w2 hM2 hg2)
      rw [← hmm2.out] at hM2
      have hb2 := bl_gr (bl_alloc hb _) hg2 (by omega)
      go_roundw
      case rel => exact ⟨i + 1, by omega, by go_num, hM2, hb2⟩
      case measure => simp [intOf]; omega
    · obtain rfl : i = l.length := by omega
      rw [List.take_length] at hM
      clear hl hkl
      generalize hL0 : l.foldl withL [] = L0 at hM
      have hON := Lib.hid (show rs.foldl stepL L0 = L by rw [hL.out, ← hL0]; rfl)
      clear hL0 hL
      go_wp2_with fail
      go_loopw [27] (fun u wx => ∃ i : Nat, i ≤ rs.length ∧ u = .int .i64 i ∧ SM Try.prog 9 wx mb (l.length + i) prV (asM ((rs.take i).foldl stepL L0)) ∧ Below w.heap.size w wx) (fun u _ => rs.length - (intOf u).toNat)
      case atStart => exact ⟨0, Nat.zero_le _, rfl, hM, hb⟩
      case round =>
        clear hM hb
        obtain ⟨i, hi, rfl, hM, hb⟩ := hrel
        by_cases hlt : i < rs.length
        · obtain ⟨b, o, rfl, hbl, ca⟩ := (hr.below hb) i hlt
          have hmm2 := Lib.hid (show asM ((rs.take (i + 1)).foldl stepL L0) = asM (stepL ((rs.take i).foldl stepL L0) rs[i]) by rw [List.take_succ_eq_append_getElem hlt, List.foldl_append]; rfl)
          have hkx := hkr rs[i] (List.getElem_mem _)
          generalize rs[i] = x at ca hmm2 hkx
          generalize hLi : (rs.take i).foldl stepL L0 = Li at hM hmm2
          clear hLi
          have hbs := hb.size
          have hML := hM.lt
          have hiM : l.length + i < maxLen := by simp only [maxLen]; omega
          have hltI : (i : Int) < (rs.length : Int) := by omega
          obtain ⟨xo, xp, xi, xk, xv, xd⟩ := x
          have a0 : wr.cell? ⟨b, o + i * 6, none⟩ = some (.int .i64 xo) := ca 0 _ rfl
          have a1 : wr.cell? ⟨b, o + i * 6 + 1, none⟩ = some (.int .i64 xp) := ca 1 _ rfl
          have a2 : wr.cell? ⟨b, o + i * 6 + 2, none⟩ = some (.bool xi) := ca 2 _ rfl
          have a3 : wr.cell? ⟨b, o + i * 6 + 3, none⟩ = some (.string xk) := ca 3 _ rfl
          have a4 : wr.cell? ⟨b, o + i * 6 + 4, none⟩ = some (.string xv) := ca 4 _ rfl
          have a5 : wr.cell? ⟨b, o + i * 6 + 5, none⟩ = some (.bool xd) := ca 5 _ rfl
          clear ca hr hkr
          cases xd with
          | true =>
            have hst : asM (stepL Li ⟨xo, xp, xi, xk, xv, true⟩) = delS (asM Li) xk := by rw [delS_asM]; rfl
            rw [hst] at hmm2
            clear hst
            go_wp2_with (refine wpList_delete_sm (enc := prV) rfl _ _ 95 rfl Try.underlying9 Try.underlying95 mb (l.length + i) rfl (hM.alloc _) xk rfl hkx ?nx2; case' nx2 => intro w2 hM2 hg2)
            rw [← hmm2.out] at hM2
            have hb2 := bl_gr (bl_alloc hb _) hg2 (by omega)
            go_roundw
            case rel => exact ⟨i + 1, by omega, by go_num, hM2.mono (by omega), hb2⟩
            case measure => simp [intOf]; omega
          | false =>
            have hst : asM (stepL Li ⟨xo, xp, xi, xk, xv, false⟩) = putS (asM Li) xk ⟨xk, xv, xo⟩ := by rw [show putS (asM Li) xk ⟨xk, xv, xo⟩ = asM (withL Li ⟨xk, xv, xo⟩) from putS_asM Li ⟨xk, xv, xo⟩]; rfl
            rw [hst] at hmm2
            clear hst
            go_wp2_with (refine wpList_mapUpdate_sm (enc := prV) rfl _ _ _ 95 rfl Try.underlying9 Try.underlying95 mb (l.length + i) rfl (hM.alloc _) hiM xk rfl hkx ⟨xk, xv, xo⟩ rfl ?nx3; case' nx3 => intro w2 hM2 hg2)
            rw [← hmm2.out] at hM2
            have hb2 := bl_gr (bl_alloc hb _) hg2 (by omega)
            go_roundw
            case rel => exact ⟨i + 1, by omega, by go_num, hM2, hb2⟩
            case measure => simp [intOf]; omega
        · obtain rfl : i = rs.length := by omega
          rw [List.take_length] at hM
          clear hr hkr
          rw [hON.out] at hM
          clear hON
          have hML := hM.lt
          have hbs := hb.size
          go_wp2_with (first | (at_range; refine wpList_range_own _ rfl _ 95 rfl 9 56 K9 Try.underlying95 holdR mb (l.length + rs.length) (smD prV (asM L)) rfl hM ?_; intro w0 hrg0 hg0 hs0))
          have hsz0 := hg0.size
          have hb0 : Below w.heap.size w w0 := hb.trans ⟨hg0.os, hg0.tape, hg0.output, hg0.size, fun i hi => hg0.block i (by omega) (by simp)⟩
          generalize hrr : wr.heap.size = r at hrg0 hs0 hsz0 ⊢
          have hT0 := ToldL.start L
          have hmr : mb < r := by omega
          clear hM hb hg0
          go_frame
          go_loopw [10] (fun v wr => ∃ (os : List Pr) (pr : ByteArray → Bool) (A : Option Addr) (c cnt : Nat) (left : Lit → Bool), v = .slice A os.length c ∧ wr.ranges Try.prog 9 holdR mb r (l.length + rs.length) (smD prV (asM L)) left cnt ∧ ToldL L os pr left ∧ wr.ownsRow (r + 1) 56 3 (.slice A os.length c) os.length (os.flatMap prL) ∧ Below w.heap.size w wr ∧ r + 1 ≤ wr.heap.size) (fun _ wr => wr.rangeLeft mb r)
          case atStart => exact ⟨[], _, none, 0, _, _, rfl, hrg0, hT0, World.ownsRow_nil _ _ _ _, hb0, by omega⟩
          case round =>
            obtain ⟨os, pr, A1, c1, cnt, left, rfl, hrg, hT, hown, hb, hrs⟩ := hrel
            clear hrg0 hT0 hb0
            have hrange := hrg.left_eq
            have hol : os.length ≤ L.length := by have := hT.perm.length_eq; have := List.length_filter_le (fun p : Pr => pr p.key) L; omega
            go_wp2_with (first | (at_next; refine wpList_next_ranges _ rfl _ rfl 9 K9 holdR Value.string (fun v : Value => v) (fun key kl hk => by obtain ⟨x, e, _⟩ := WideMaps.string_of_keyOf Try.underlying9 hk; exact ⟨x, e⟩) (fun v y _ => ⟨v, rfl⟩) mb r _ _ left cnt rfl hrg ?_ ?_))
            · intro hc0 hl0
              have hp := hT.done hRis hl0
              have hnd : (os.map (·.key)).Nodup := (hp.map (·.key)).nodup_iff.2 (ris_nodup hRis)
              have hol2 : os.length < 4611686018427387904 := by omega
              clear hT hrg
              go_wp2_with (first | (go_at_call 53; refine (sort_any A1 c1 (r + 1) os wr hown hnd hol2).mono ?_; rintro e w3 ⟨rfl, ⟨sl, hsp, hsr, hsl, hsu⟩, hg3⟩))
              have hsL : sl = L := ris_unique hsr hRis (hsp.trans hp)
              subst hsL
              have hb3 : Below w.heap.size w w3 := bl_own hb hown (by omega) hg3
              have hlen : os.length = sl.length := hp.length_eq
              have hcap1 : sl.length ≤ c1 := by rw [← hlen]; exact ownsRow_cap hown
              have hbase1 : ∀ a, A1 = some a → r + 1 ≤ a.block := fun a e => ownsRow_base hown (by rw [e]; rfl)
              rw [hlen]
              go_ret
              exact ⟨A1, c1, rfl, ⟨hsl, hcap1, fun a e => Nat.le_trans (by omega) (hbase1 a e), hsu⟩, by rw [← hmb]; exact hb3⟩
            · intro x cv kl ya yb w1 cnt1 hkl hleftk hRc hat hrg1 hlt hg1 hs1 hen
              obtain ⟨x', e1, rfl, hx140⟩ := WideMaps.string_of_keyOf Try.underlying9 hkl
              cases e1
              have hlx := hleftk
              rw [show (Lit.string x.data.toList) = .string (kb x) from rfl, hT.left] at hlx
              obtain ⟨p, hp⟩ := Option.isSome_iff_exists.1 (by simpa using (Bool.and_eq_true_iff.1 hlx).2)
              have hcv : cv = .agg #[.string p.key, .string p.val, .int .i64 p.off] := by
                show cv = prV p
                have h1 := hat (.held (prV p))
                rw [show (Lit.string x.data.toList) = .string (kb x) from rfl, smD_at, hp] at h1
                simp only [holdR, Option.some.injEq, Prod.mk.injEq] at hRc
                rw [← hRc.1] at h1
                simpa using h1.symm
              subst hcv
              obtain ⟨hpL, rfl⟩ := lookS_asM hp
              have hT1 := hT.step hRis hpL hleftk
              have hown1 := kept_new hown hg1 (by intro q e; cases e; omega)
              have hb1 : Below w.heap.size w w1 := bl_gr hb hg1 (by omega)
              have hle := hT1.perm.length_eq
              have hfl := Lib.hid (show (os ++ [p]).flatMap prL = os.flatMap prL ++ prL p by rw [List.flatMap_append]; simp)
              have hL1 : (os ++ [p]).length = os.length + 1 := by simp
              clear hRis hat hRc hleftk hlx hkl hT hown hrg hb
              have hs1' : r + 1 ≤ w1.heap.size := by omega
              clear hs1
              go_wp2_with (at_builtin; refine wpList_append_srcT rfl _ _ 26 rfl (r + 1) 56 i0 _ 3 40 Try.underlying26 hi0 hz0 hz1 hz2 rfl (by omega) (.slice A1 os.length c1) os.length _ rfl ((hown1.alloc _).alloc _) (some ⟨w1.heap.size + 1, 0, none⟩) 1 1 (prL p) rfl (src_new' (w1.alloc _) (prL p) 56 1 3 rfl (by simp)) (prL_one p) ?h63 ?hby ?hbase ?nxl; case' nxl => intro A2 c2 w2 hown2 hg2)
              case h63 => simp only [maxLen]; omega
              case hby => omega
              case hbase => simp; omega
              have hb2 := bl_own (bl_alloc (bl_alloc hb1 _) _) ((hown1.alloc _).alloc _) (by omega) hg2
              have hnr : ∀ q, (Value.slice A1 os.length c1).ownBlock = some q → r + 1 ≤ q := fun q e => ownsRow_base hown1 e
              have hrg2 := ((hrg1.alloc _).alloc _).kept hg2 (by intro e; have := hnr _ e.symm; omega) (by intro e; have := hnr _ e.symm; omega)
              rw [← hfl.out, ← hL1] at hown2
              have hs2 := hg2.size
              simp at hs2
              go_roundw
              case rel => exact ⟨os ++ [p], _, A2, c2, cnt1, _, by rw [hL1], hrg2, hT1, hown2, hb2, by omega⟩
              case measure => rw [hrg2.left_eq, hrange]; exact hlt
end Go.Proofs.Ytjokpjfmnjefdaa
