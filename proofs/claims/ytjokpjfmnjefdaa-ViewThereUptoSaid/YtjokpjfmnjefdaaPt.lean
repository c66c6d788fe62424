/- Patch. -/
import Derived.Test.YtjokpjfmnjefdaaPd
namespace Go.Proofs.Ytjokpjfmnjefdaa
open Go.RowKit Go.Shelf
attribute [local go_sem] Oper.semAt_some

set_option maxRecDepth 100000 in
set_option maxHeartbeats 400000 in
theorem clone_own (A : Option Addr) (c : Nat) (l : List Pr) (w : World) (hl : LAt w A 3 prL l) (hll : l.length ≤ 3518437208800) :
    Calls Try.prog 41 #[.slice A l.length c] w fun e w' => ∃ A' c', e = .returned (.slice A' l.length c') ∧ w'.ownsRow w.heap.size 56 3 (.slice A' l.length c') l.length (l.flatMap prL) ∧ Below w.heap.size w w' := by
  obtain ⟨i0, hi0, hz0, hz1, hz2⟩ := info_parts info56
  cases A with
  | none =>
    obtain rfl : l = [] := by
      cases l with
      | nil => rfl
      | cons x r => obtain ⟨b, o, e, _⟩ := hl 0 (by simp); cases e
    have hn : ∀ (c : Nat) (w : World), (binOp .eql 26 (.slice none 0 c) (.slice none 0 0)).run Try.prog w = .ok (.bool true) w := fun c w => Lib.run_eql_slice_nil w 26 56 none 0 c 0 0 Try.underlying26
    go_enter Try.func41, Try.ntmps41
    go_wp2_with fail
    go_ret
    exact ⟨none, 0, rfl, World.ownsRow_nil _ _ _ _, Below.refl _ _⟩
  | some a =>
    have hn : ∀ (n c : Nat) (w : World), (binOp .eql 26 (.slice (some a) n c) (.slice none 0 0)).run Try.prog w = .ok (.bool false) w := fun n c w => Lib.run_eql_slice_nil w 26 56 (some a) n c 0 0 Try.underlying26
    go_enter Try.func41, Try.ntmps41
    have hsrc := LAt.src prL_len (by omega) (hl.below (bl_alloc (Below.refl w.heap.size w) (.cells #[] 56)))
    have hown := ownsRow_empty w 56 3 w.heap.size (Nat.le_refl _)
    go_wp2_with (at_builtin; refine wpList_append_srcT rfl _ _ 26 rfl w.heap.size 56 i0 _ 3 40 Try.underlying26 hi0 hz0 hz1 hz2 rfl (by omega) (.slice (some ⟨w.heap.size, 0, none⟩) 0 0) 0 [] rfl hown (some a) l.length c (l.flatMap prL) rfl hsrc (flat_one prL_one _) ?h63 ?hby ?hbase ?nxl; case' nxl => intro A2 c2 w2 hown2 hg2)
    case h63 => simp only [maxLen]; omega
    case hby => omega
    case hbase => simp
    have hb2 := bl_own (bl_alloc (Below.refl w.heap.size w) _) hown (Nat.le_refl _) hg2
    simp only [Nat.zero_add, List.nil_append] at hown2 ⊢
    go_wp2_with fail
    go_ret
    exact ⟨A2, c2, rfl, hown2, hb2⟩


theorem flat_set (l : List Pr) (i : Nat) (hi : i < l.length) (k v : ByteArray) (hk : l[i].key = k) : (l.flatMap prL).set (i * 3 + 1) (.string v) = (l.set i ⟨k, v, l[i].off⟩).flatMap prL := by
  subst hk
  have h1 : l.set i ⟨l[i].key, v, l[i].off⟩ = l.take i ++ ⟨l[i].key, v, l[i].off⟩ :: l.drop (i + 1) := by rw [List.set_eq_take_append_cons_drop, if_pos hi]
  have h2 := congrArg (fun z => (z.flatMap prL).set (i * 3 + 1) (Value.string v)) (split_at hi)
  have hl : ((l.take i).flatMap prL).length = i * 3 := by rw [flat_length prL_len, List.length_take]; omega
  simp only [List.flatMap_append, List.flatMap_cons] at h2
  rw [h1, h2, List.set_append_right _ _ (by omega), hl, Nat.add_sub_cancel_left]
  simp [List.flatMap_append, prL]
theorem own_set {w : World} {base : Nat} {A : Option Addr} {c i : Nat} {l : List Pr} {k v : ByteArray} (hown : w.ownsRow base 56 3 (.slice A l.length c) l.length (l.flatMap prL)) (hi : i < l.length) (hk : l[i].key = k) :
    ∃ g, A = some ⟨g, 0, none⟩ ∧ base ≤ g ∧ g < w.heap.size ∧ (∃ u, w.cell? ⟨g, i * 3 + 1, none⟩ = some u) ∧ w.frozen? ⟨g, i * 3 + 1, none⟩ = false ∧
      (w.setCell ⟨g, i * 3 + 1, none⟩ (.string v)).ownsRow base 56 3 (.slice A (l.set i ⟨k, v, l[i].off⟩).length c) (l.set i ⟨k, v, l[i].off⟩).length ((l.set i ⟨k, v, l[i].off⟩).flatMap prL) := by
  rcases own_open hown with ⟨_, h0, _, _⟩ | ⟨g, cur, rfl, hb, hC, h1, h2, h3, h4⟩
  · omega
  · refine ⟨g, rfl, hb, hC.lt, ⟨cur[i * 3 + 1]'(by omega), by rw [hC.cell, List.getElem?_eq_getElem]⟩, hC.unf _, ?_⟩
    rw [List.length_set]
    refine own_shut hb (hC.setCell (i * 3 + 1) (.string v)) h1 h2 (by rw [List.length_set, h3]) ?_
    rw [List.take_set, h4, flat_set l i hi k v hk]
theorem own_lt {w : World} {base : Nat} {A : Option Addr} {n c : Nat} {xs : List Value} (h : w.ownsRow base 56 3 (.slice A n c) n xs) : ∀ g, A = some ⟨g, 0, none⟩ → g < w.heap.size := fun g e => by
  rcases own_open h with ⟨rfl, _⟩ | ⟨g', cur, rfl, _, hC, _⟩
  · cases e
  · cases e; exact hC.lt
theorem cel_new (w : World) (p : Pr) : Cel (w.alloc (.cells #[.string p.key, .string p.val, .int .i64 p.off] 56)) w.heap.size (prL p) := by
  unfold Cel
  rw [World.alloc_heap_new]
  rfl
theorem found_iff {l out : List Pr} {k : ByteArray} {i : Nat} (hr : Ris out) (hg : getL out k = getL l k) (h : At out k i) : foundB out k i = (getL l k).isSome := by
  cases hf : foundB out k i with
  | true =>
    obtain ⟨q, e⟩ := found_of hf
    rw [← hg, getL_found h q e]; rfl
  | false => rw [← hg, getL_not (not_found hr h hf)]; rfl

set_option maxHeartbeats 400000 in
theorem pat_arg (A B : Option Addr) (c d : Nat) (l : List Pr) (cs : List Ch) (w : World) (hl : LAt w A 3 prL l) (hr : LAt w B 5 chL cs) (hll : l.length ≤ 4611686018427387904) (hrl : cs.length ≤ 4611686018427387904) (h : ¬ (TabP l ∧ RisC cs)) :
    Calls Try.prog 29 #[.slice A l.length c, .slice B cs.length d] w fun e w' => e = .returned (.tuple #[.slice none 0 0, .int .i64 1]) ∧ Below w.heap.size w w' := by
  go_enter Try.func29, Try.ntmps29
  go_wp2_with fail
  refine (table_any A c l _ hl (by omega)).mono ?_
  rintro e w1 ⟨b1, rfl, hb1, hw1⟩
  cases b1 with
  | false =>
    clear hb1
    go_wp2_with fail
    go_ret2
    exact ⟨rfl, hw1⟩
  | true =>
    have tl := hb1.1 rfl
    clear hb1
    go_wp2_with fail
    refine (risingC_any B d cs _ (hr.below hw1) (by omega)).mono ?_
    rintro e w2 ⟨b2, rfl, hb2, hw2⟩
    obtain rfl : b2 = false := by cases b2 with | false => rfl | true => exact absurd ⟨tl, hb2.1 rfl⟩ h
    clear hb2
    go_wp2_with fail
    go_ret2
    exact ⟨rfl, bl_tr hw1 hw2⟩

/-- What Patch answers at a table and changes that rise. -/
def PatPost (w : World) (l : List Pr) (cs : List Ch) (e : Ending) (w' : World) : Prop :=
  ((∃ c ∈ cs, badC l c = true) ∧ e = .returned (.tuple #[.slice none 0 0, .int .i64 54]) ∧ Below w.heap.size w w') ∨
  ((∀ c ∈ cs, badC l c = false) ∧ ∃ A' c', e = .returned (.tuple #[.slice A' (outP l cs).length c', .int .i64 0]) ∧ PRow w' w.heap.size A' c' (outP l cs) ∧ Below w.heap.size w w')

set_option maxRecDepth 100000 in
set_option maxHeartbeats 4000000 in
theorem pat_any (A B : Option Addr) (c d : Nat) (l : List Pr) (cs : List Ch) (w : World) (hl : LAt w A 3 prL l) (hr : LAt w B 5 chL cs) (hll : l.length + cs.length ≤ 3518437208000)
    (tl : TabP l) (tm : RisC cs) :
    Calls Try.prog 29 #[.slice A l.length c, .slice B cs.length d] w (PatPost w l cs) := by
  go_enter Try.func29, Try.ntmps29
  go_wp2_with fail
  refine (table_any A c l _ hl (by omega)).mono ?_
  rintro e w1 ⟨b1, rfl, hb1, hw1⟩
  obtain rfl : b1 = true := hb1.2 tl
  clear hb1
  go_wp2_with fail
  refine (risingC_any B d cs _ (hr.below hw1) (by omega)).mono ?_
  rintro e w2 ⟨b2, rfl, hb2, hw2⟩
  obtain rfl : b2 = true := hb2.2 tm
  clear hb2
  have hw := bl_tr hw1 hw2
  replace hl := hl.below hw
  replace hr := hr.below hw
  clear hw1 hw2
  go_wp2_with fail
  refine (clone_own A c l _ hl (by omega)).mono ?_
  rintro e w3 ⟨A3, c3, rfl, hown3, hw3⟩
  have hris := Lib.hid ((risP_iff l).1 tl.1)
  replace tm := Lib.hid tm
  clear tl
  go_wp2_with fail
  go_loopw [6, 25] (fun v u wr => ∃ (i : Nat) (A1 : Option Addr) (c1 : Nat), i ≤ cs.length ∧ v = .slice A1 (outP l (cs.take i)).length c1 ∧ u = .int .i64 i ∧ (∀ x ∈ cs.take i, badC l x = false) ∧ wr.ownsRow w2.heap.size 56 3 (.slice A1 (outP l (cs.take i)).length c1) (outP l (cs.take i)).length ((outP l (cs.take i)).flatMap prL) ∧ Below w2.heap.size w2 wr) (fun _ u _ => cs.length - (intOf u).toNat)
  case atStart => exact ⟨0, A3, c3, Nat.zero_le _, rfl, rfl, by simp, hown3, hw3⟩
  case round =>
    obtain ⟨i, A1, c1, hi, rfl, rfl, hN, hown, hb⟩ := hrel
    by_cases hlt : i < cs.length
    · obtain ⟨b, o, rfl, hbl, ca⟩ := (hr.below hb) i hlt
      have hstep := Lib.hid (outP_succ (l := l) hlt)
      have hRo := Lib.hid (ris_outP hris.out (cs.take i))
      have hgo := Lib.hid (show getL (outP l (cs.take i)) cs[i].key = getL l cs[i].key from getL_fold l _ _ (risC_ne tm.out hlt))
      have hlen := len_outP l cs i (by omega)
      have hbadY := Lib.hid (fun h : badC l cs[i] = true => (⟨cs[i], List.getElem_mem _, h⟩ : ∃ x ∈ cs, badC l x = true))
      have hbadN := Lib.hid (fun (h : badC l cs[i] = false) x (hx : x ∈ cs.take (i + 1)) => (by
        rw [List.take_succ_eq_append_getElem hlt, List.mem_append] at hx
        rcases hx with hx | hx
        · exact hN x hx
        · obtain rfl := List.mem_singleton.1 hx; exact h : badC l x = false))
      replace hN := Lib.hid hN
      have hglt := Lib.hid (own_lt hown)
      generalize hout : outP l (cs.take (i + 1)) = out' at hstep
      replace hout := Lib.hid hout
      generalize outP l (cs.take i) = out at hstep hRo hgo hlen hown ⊢
      generalize cs[i] = x at ca hstep hgo hbadY hbadN
      have a0 : wr.cell? ⟨b, o + i * 5, none⟩ = some (.string x.key) := ca 0 _ rfl
      have a1 : wr.cell? ⟨b, o + i * 5 + 1, none⟩ = some (.string x.old) := ca 1 _ rfl
      have a2 : wr.cell? ⟨b, o + i * 5 + 2, none⟩ = some (.string x.new) := ca 2 _ rfl
      have a3 : wr.cell? ⟨b, o + i * 5 + 3, none⟩ = some (.bool x.was) := ca 3 _ rfl
      have a4 : wr.cell? ⟨b, o + i * 5 + 4, none⟩ = some (.bool x.is) := ca 4 _ rfl
      have hltI : (i : Int) < (cs.length : Int) := by omega
      clear ca
      have hbs := hb.size
      go_wp2_with fail
      refine (get_any A c l x.key _ ((hl.below hb).below (bl_alloc (Below.refl _ _) _)) (by omega)).mono ?_
      rintro e w4 ⟨rfl, hw4⟩
      have hX := bl_tr (bl_alloc (Below.refl wr.heap.size wr) (.cells #[.string x.key, .string x.old, .string x.new, .bool x.was, .bool x.is] 42)) hw4
      have hc4 : Blk w4 wr.heap.size (chL x) := (Blk.new wr #[.string x.key, .string x.old, .string x.new, .bool x.was, .bool x.is] 42).below hw4 (by simp)
      have q0 := hc4.get (j := 0) rfl
      have q1 := hc4.get (j := 1) rfl
      have q2 := hc4.get (j := 2) rfl
      have q3 := hc4.get (j := 3) rfl
      have q4 := hc4.get (j := 4) rfl
      replace hown := kept_own hown hX
      have hLo := LAt.of_own prL_len hown rfl
      clear a0 a1 a2 a3 a4 hw4
      have hbad : badC l x = (!decide (gotV (getL l x.key) = x.old) || !((getL l x.key).isSome == x.was) || (!x.is && !decide (x.new = ⟨#[]⟩))) := rfl
      have e1 := str_eq (gotV (getL l x.key)) x.old
      have e4 := nil_eq x.new
      cases c1' : decide (gotV (getL l x.key) = x.old) with
      | false =>
        rw [c1'] at e1
        clear e4
        have hbb : badC l x = true := by rw [hbad, c1']; rfl
        clear hbad c1'
        clear hstep hbadN hl hr hLo hown hRo hgo
        replace hbadY := Lib.hid (hbadY.out hbb)
        go_wp2_with fail
        go_ret2
        exact .inl ⟨hbadY.out, rfl, bl_tr hw (bl_tr hb hX)⟩
      | true =>
        rw [c1'] at e1
        cases hgs : (getL l x.key).isSome <;> cases hws : x.was
        · rw [hws] at q3
          cases his : x.is with
          | true =>
            rw [his] at q4
            have hbb : badC l x = false := by rw [hbad, c1', hgs, hws, his]; rfl
            clear hbad c1' e4
            clear hbadY hl hr
            replace hbadN := Lib.hid (hbadN.out hbb)
            replace hgs := Lib.hid hgs
            go_wp2_with fail
            refine (search_any A1 c1 out x.key w4 hLo (by omega) hRo.out).mono ?_
            rintro e w5 ⟨i0, hAt, rfl, hw5⟩
            have hfd : foundB out x.key i0 = false := by rw [found_iff hRo.out hgo.out hAt, hgs.out]
            rw [hfd]
            have hY := bl_tr hX hw5
            replace hown := kept_own hown hw5
            replace hc4 := hc4.below hw5 hc4.lt
            replace q0 := hc4.get (j := 0) rfl
            replace q1 := hc4.get (j := 1) rfl
            replace q2 := hc4.get (j := 2) rfl
            replace q3 := hc4.get (j := 3) rfl
            replace q4 := hc4.get (j := 4) rfl
            have hps := patS_not hRo.out hgo.out hAt hfd
            rw [his, ← hstep.out] at hps
            have hi0 := hAt.1
            simp only [if_true] at hps
            have hin := insert_any A1 c1 w2.heap.size w5.heap.size i0 out ⟨x.key, x.new, 0⟩ _ (kept_own hown (bl_alloc (Below.refl _ _) _)) (cel_new w5 ⟨x.key, x.new, 0⟩) (fun g e => by have := own_lt hown g e; omega) hi0 (by omega) (by have := hY.size; simp; omega)
            rw [← hps] at hin
            have hi0l : out'.length = out.length + 1 := by rw [hps]; simp; omega
            rw [← hi0l] at hin
            clear hps hstep hAt hfd hown hLo hgo
            replace hi0l := Lib.hid hi0l
            go_wp2_with fail
            refine hin.mono ?_
            rintro e w6 ⟨A6, c6, rfl, hown6, hw6⟩
            go_wp2_with fail
            go_roundw
            case rel => refine ⟨i + 1, A6, c6, by omega, ?_⟩; rw [hout.out]; exact ⟨rfl, by go_num, hbadN.out, hown6, (bl_tr hb (bl_alloc hY _)).trans hw6⟩
            case measure => simp [intOf]; omega
          | false =>
            rw [his] at q4
            cases c4 : decide (x.new = ⟨#[]⟩) with
            | false =>
              rw [c4] at e4
              have hbb : badC l x = true := by rw [hbad, c1', hgs, hws, his, c4]; rfl
              clear hbad c1' c4
              clear hstep hbadN hl hr hLo hown hRo hgo
              replace hbadY := Lib.hid (hbadY.out hbb)
              go_wp2_with fail
              go_ret2
              exact .inl ⟨hbadY.out, rfl, bl_tr hw (bl_tr hb hX)⟩
            | true =>
              rw [c4] at e4
              have hbb : badC l x = false := by rw [hbad, c1', hgs, hws, his, c4]; rfl
              clear hbad c1' c4
              clear hbadY hl hr
              replace hbadN := Lib.hid (hbadN.out hbb)
              replace hgs := Lib.hid hgs
              go_wp2_with fail
              refine (search_any A1 c1 out x.key w4 hLo (by omega) hRo.out).mono ?_
              rintro e w5 ⟨i0, hAt, rfl, hw5⟩
              have hfd : foundB out x.key i0 = false := by rw [found_iff hRo.out hgo.out hAt, hgs.out]
              rw [hfd]
              have hY := bl_tr hX hw5
              replace hown := kept_own hown hw5
              replace hc4 := hc4.below hw5 hc4.lt
              replace q0 := hc4.get (j := 0) rfl
              replace q1 := hc4.get (j := 1) rfl
              replace q2 := hc4.get (j := 2) rfl
              replace q3 := hc4.get (j := 3) rfl
              replace q4 := hc4.get (j := 4) rfl
              have hps := patS_not hRo.out hgo.out hAt hfd
              rw [his, ← hstep.out] at hps
              have hi0 := hAt.1
              simp only [Bool.false_eq_true, if_false] at hps
              subst hps
              clear hstep hAt hfd hLo hgo
              go_wp2_with fail
              go_roundw
              case rel => refine ⟨i + 1, A1, c1, by omega, ?_⟩; rw [hout.out]; exact ⟨rfl, by go_num, hbadN.out, hown, bl_tr hb hY⟩
              case measure => simp [intOf]; omega
        · rw [hws] at q3
          have hbb : badC l x = true := by rw [hbad, c1', hgs, hws]; rfl
          clear hbad c1' e4
          replace hgs := hgs
          clear hstep hbadN hl hr hLo hown hRo hgo
          replace hbadY := Lib.hid (hbadY.out hbb)
          go_wp2_with fail
          go_ret2
          exact .inl ⟨hbadY.out, rfl, bl_tr hw (bl_tr hb hX)⟩
        · rw [hws] at q3
          have hbb : badC l x = true := by rw [hbad, c1', hgs, hws]; rfl
          clear hbad c1' e4
          replace hgs := hgs
          clear hstep hbadN hl hr hLo hown hRo hgo
          replace hbadY := Lib.hid (hbadY.out hbb)
          go_wp2_with fail
          go_ret2
          exact .inl ⟨hbadY.out, rfl, bl_tr hw (bl_tr hb hX)⟩
        · rw [hws] at q3
          cases his : x.is with
          | true =>
            rw [his] at q4
            have hbb : badC l x = false := by rw [hbad, c1', hgs, hws, his]; rfl
            clear hbad c1' e4
            clear hbadY hl hr
            replace hbadN := Lib.hid (hbadN.out hbb)
            replace hgs := Lib.hid hgs
            go_wp2_with fail
            refine (search_any A1 c1 out x.key w4 hLo (by omega) hRo.out).mono ?_
            rintro e w5 ⟨i0, hAt, rfl, hw5⟩
            have hfd : foundB out x.key i0 = true := by rw [found_iff hRo.out hgo.out hAt, hgs.out]
            rw [hfd]
            have hY := bl_tr hX hw5
            replace hown := kept_own hown hw5
            replace hc4 := hc4.below hw5 hc4.lt
            replace q0 := hc4.get (j := 0) rfl
            replace q1 := hc4.get (j := 1) rfl
            replace q2 := hc4.get (j := 2) rfl
            replace q3 := hc4.get (j := 3) rfl
            replace q4 := hc4.get (j := 4) rfl
            obtain ⟨hi0, hk0⟩ := found_of hfd
            have hps := patS_found hRo.out hgo.out hAt hi0 hk0
            rw [his, ← hstep.out] at hps
            simp only [if_true] at hps
            obtain ⟨g, rfl, hbg, hgl, ⟨u, hu⟩, huf, hset⟩ := own_set (v := x.new) hown hi0 hk0
            rw [← hps] at hset
            have hi0l : out'.length = out.length := by rw [hps, List.length_set]
            clear hps hstep hAt hfd hk0 hown hLo hgo
            have hi0I : (i0 : Int) < (out.length : Int) := by omega
            replace hi0l := Lib.hid hi0l
            have hgne : g ≠ wr.heap.size := by have := hglt.out g rfl; omega
            go_wp2_with fail
            go_roundw
            case rel => refine ⟨i + 1, some ⟨g, 0, none⟩, c1, by omega, ?_⟩; rw [hout.out]; exact ⟨by rw [hi0l.out], by go_num, hbadN.out, hset, (bl_tr hb hY).setCell (p := ⟨g, i0 * 3 + 1, none⟩) hbg _⟩
            case measure => simp [intOf]; omega
          | false =>
            rw [his] at q4
            cases c4 : decide (x.new = ⟨#[]⟩) with
            | false =>
              rw [c4] at e4
              have hbb : badC l x = true := by rw [hbad, c1', hgs, hws, his, c4]; rfl
              clear hbad c1' c4
              clear hstep hbadN hl hr hLo hown hRo hgo
              replace hbadY := Lib.hid (hbadY.out hbb)
              go_wp2_with fail
              go_ret2
              exact .inl ⟨hbadY.out, rfl, bl_tr hw (bl_tr hb hX)⟩
            | true =>
              rw [c4] at e4
              have hbb : badC l x = false := by rw [hbad, c1', hgs, hws, his, c4]; rfl
              clear hbad c1' c4
              clear hbadY hl hr
              replace hbadN := Lib.hid (hbadN.out hbb)
              replace hgs := Lib.hid hgs
              go_wp2_with fail
              refine (search_any A1 c1 out x.key w4 hLo (by omega) hRo.out).mono ?_
              rintro e w5 ⟨i0, hAt, rfl, hw5⟩
              have hfd : foundB out x.key i0 = true := by rw [found_iff hRo.out hgo.out hAt, hgs.out]
              rw [hfd]
              have hY := bl_tr hX hw5
              replace hown := kept_own hown hw5
              replace hc4 := hc4.below hw5 hc4.lt
              replace q0 := hc4.get (j := 0) rfl
              replace q1 := hc4.get (j := 1) rfl
              replace q2 := hc4.get (j := 2) rfl
              replace q3 := hc4.get (j := 3) rfl
              replace q4 := hc4.get (j := 4) rfl
              obtain ⟨hi0, hk0⟩ := found_of hfd
              have hps := patS_found hRo.out hgo.out hAt hi0 hk0
              rw [his, ← hstep.out] at hps
              simp only [Bool.false_eq_true, if_false] at hps
              have hdl := delete1_any A1 c1 w2.heap.size i0 out w5 hown hi0
              rw [← hps] at hdl
              have hi0l : out'.length = out.length - 1 := by rw [hps]; simp; omega
              rw [← hi0l] at hdl
              clear hps hstep hAt hfd hk0 hown hLo hgo
              have hi0I : (i0 : Int) < (out.length : Int) := by omega
              replace hi0l := Lib.hid hi0l
              go_wp2_with fail
              refine hdl.mono ?_
              rintro e w6 ⟨A6, c6, rfl, hown6, hw6⟩
              go_wp2_with fail
              go_roundw
              case rel => refine ⟨i + 1, A6, c6, by omega, ?_⟩; rw [hout.out]; exact ⟨rfl, by go_num, hbadN.out, hown6, (bl_tr hb hY).trans hw6⟩
              case measure => simp [intOf]; omega
    · obtain rfl : i = cs.length := by omega
      rw [List.take_length] at hN hown
      replace hN := Lib.hid hN
      simp only [List.take_length]
      go_wp2_with fail
      go_ret2
      exact .inr ⟨hN.out, A1, c1, rfl, PRow.of_own hown rfl |>.mono hw.size, bl_tr hw hb⟩
end Go.Proofs.Ytjokpjfmnjefdaa
