/- The document's Patch. -/
import Derived.Test.YtjokpjfmnjefdaaPt
import Derived.Test.YtjokpjfmnjefdaaRl
import Derived.Test.YtjokpjfmnjefdaaRd
namespace Go.Proofs.Ytjokpjfmnjefdaa
open Go.RowKit Go.Shelf
attribute [local go_sem] Oper.semAt_some

set_option maxRecDepth 100000 in
set_option maxHeartbeats 2000000 in
theorem rpat_arg (A B : Option Addr) (c d : Nat) (l : List Pr) (cs : List Ch) (w : World) (hl : LAt w A 3 prL l) (hr : LAt w B 5 chL cs) (hll : l.length ≤ 4611686018427387904) (hrl : cs.length ≤ 4611686018427387904) (h : ¬ (TabP l ∧ RisC cs)) :
    Calls Try.prog 31 #[.slice A l.length c, .slice B cs.length d] w fun e w' => e = .returned (.tuple #[.slice none 0 0, .int .i64 1]) ∧ Below w.heap.size w w' := by
  go_enter Try.func31, Try.ntmps31
  go_wp2_with fail
  refine (rtable_any A c l _ hl (by omega)).mono ?_
  rintro e w1 ⟨b1, rfl, hb1, hw0⟩
  cases b1 with
  | false =>
    clear hb1
    go_wp2_with fail
    go_ret2
    exact ⟨rfl, hw0⟩
  | true =>
    have hnr := Lib.hid (fun hR => h ⟨hb1.1 rfl, hR⟩ : ¬ RisC cs)
    clear hb1 h hl
    replace hr := hr.below hw0
    go_wp2_with fail
    go_loopw [6] (fun u wr => ∃ i : Nat, 1 ≤ i ∧ u = .int .i64 i ∧ (i ≤ cs.length ∨ i = 1) ∧ (∀ j (h : j + 1 < cs.length), j + 1 < i → sb cs[j].key cs[j + 1].key = true) ∧ Below w1.heap.size w1 wr) (fun u _ => cs.length - (intOf u).toNat)
    case atStart => exact ⟨1, Nat.le_refl _, rfl, .inr rfl, fun j h hj => by omega, Below.refl _ _⟩
    case round =>
      obtain ⟨i, h1, rfl, hi, hN, hb⟩ := hrel
      by_cases hlt : i < cs.length
      · obtain ⟨m, hmi⟩ : ∃ m, m + 1 = i := ⟨i - 1, by omega⟩
        obtain ⟨b, o, rfl, hbl, ca⟩ := (hr.below hb) i hlt
        obtain ⟨b', o', hA', _, cb⟩ := (hr.below hb) m (by omega)
        cases hA'
        have hmm : ∀ x y : Ch, cs[i] = x → cs[m]'(by omega) = y → (sb y.key x.key = true → ∀ j (h : j + 1 < cs.length), j + 1 < i + 1 → sb cs[j].key cs[j + 1].key = true) ∧ (¬ sb y.key x.key = true → ¬ RisC cs) := fun x y hx hy => by
          subst hx hy
          subst hmi
          refine ⟨fun hh j h hj => ?_, fun hn hR => hn (hR m hlt)⟩
          by_cases e : j = m
          · subst e; exact hh
          · exact hN j h (by omega)
        replace hmm := Lib.hid (hmm cs[i] (cs[m]'(by omega)) rfl rfl)
        generalize cs[i] = x at ca hmm
        generalize cs[m]'(by omega) = y at cb hmm
        have a0 : wr.cell? ⟨b, o + i * 5, none⟩ = some (.string x.key) := ca 0 _ rfl
        have b0 : wr.cell? ⟨b, o + m * 5, none⟩ = some (.string y.key) := cb 0 _ rfl
        have hltI : (i : Int) < (cs.length : Int) := by omega
        have hltI2 : (m : Int) < (cs.length : Int) := by omega
        have hw1 : IntKind.i64.wrap ((i : Int) - 1) = m := by rw [IntKind.wrap_i64] <;> omega
        clear ca cb hN
        by_cases hxy : sb y.key x.key = true
        · have hle : (Op.bytesLess x.key.toList y.key.toList || x.key.toList == y.key.toList) = false := by rw [str_lt, str_eq, le_false hxy]
          go_wp2_with fail
          go_quiet (fail)
          go_wp2_with fail
          go_roundw
          case rel => exact ⟨i + 1, by omega, by go_num, .inl (by omega), hmm.out.1 hxy, bl_drewN hb _⟩
          case measure => simp [intOf]; omega
        · have hle : (Op.bytesLess x.key.toList y.key.toList || x.key.toList == y.key.toList) = true := by rw [str_lt, str_eq, le_true hxy]
          go_wp2_with fail
          go_quiet (fail)
          go_wp2_with fail
          go_ret2
          exact ⟨rfl, bl_tr hw0 (bl_drewN hb _)⟩
      · exact absurd (fun j h => hN j h (by omega) : RisC cs) hnr.out

theorem off_succ {l : List Pr} (hr : Ris l) {k : Nat} (hk : k < l.length) (key : ByteArray) : (l[k].key = key → offL (l.take (k + 1)) key = l[k].off) ∧ (¬ l[k].key = key → offL (l.take (k + 1)) key = offL (l.take k) key) := by
  have e : getL (l.take (k + 1)) key = (getL (l.take k) key).or (if l[k].key = key then some l[k] else none) := by
    unfold getL
    rw [List.take_succ_eq_append_getElem hk, List.find?_append]
    congr 1
    by_cases h : l[k].key = key <;> simp [h]
  refine ⟨fun h => ?_, fun h => ?_⟩
  · have hn : getL (l.take k) key = none := getL_not fun x hx hxk => by
      obtain ⟨j, hj, rfl⟩ := List.getElem_of_mem hx
      rw [List.length_take] at hj
      rw [List.getElem_take] at hxk
      have := List.pairwise_iff_getElem.1 hr j k (by omega) hk (by omega)
      rw [hxk, h, sb_irrefl] at this
      cases this
    unfold offL
    rw [e, hn, if_pos h]
    rfl
  · unfold offL
    rw [e, if_neg h, Option.or_none]

/-- What the document's Patch answers. -/
def RPatPost (w : World) (l : List Pr) (cs : List Ch) (e : Ending) (w' : World) : Prop :=
  ((∃ c ∈ cs, badC l c = true) ∧ e = .returned (.tuple #[.slice none 0 0, .int .i64 54]) ∧ Below w.heap.size w w') ∨
  ((∀ c ∈ cs, badC l c = false) ∧ ∃ A' c', e = .returned (.tuple #[.slice A' (outP l cs).length c', .int .i64 0]) ∧ LAt w' A' 3 prL (outP l cs) ∧ Below w.heap.size w w')

set_option maxRecDepth 100000 in
set_option maxHeartbeats 4000000 in
theorem rpat_any (A B : Option Addr) (c d : Nat) (l : List Pr) (cs : List Ch) (w : World) (hl : LAt w A 3 prL l) (hr : LAt w B 5 chL cs) (hll : l.length + cs.length ≤ 3518437208000) (tl : TabP l) (tm : RisC cs) :
    Calls Try.prog 31 #[.slice A l.length c, .slice B cs.length d] w (RPatPost w l cs) := by
  obtain ⟨i0, hi0, hz0, hz1, hz2⟩ := info_parts info65
  go_enter Try.func31, Try.ntmps31
  go_wp2_with fail
  refine (rtable_any A c l _ hl (by omega)).mono ?_
  rintro e w1 ⟨b1, rfl, hb1, hw0⟩
  obtain rfl : b1 = true := hb1.2 tl
  clear hb1
  have hris := Lib.hid ((risP_iff l).1 tl.1)
  replace tm := Lib.hid tm
  clear tl
  replace hl := hl.below hw0
  replace hr := hr.below hw0
  go_wp2_with fail
  go_loopw [6] (fun u wr => ∃ i : Nat, 1 ≤ i ∧ u = .int .i64 i ∧ (i ≤ cs.length ∨ i = 1) ∧ (∀ j (h : j + 1 < cs.length), j + 1 < i → sb cs[j].key cs[j + 1].key = true) ∧ Below w1.heap.size w1 wr) (fun u _ => cs.length - (intOf u).toNat)
  case atStart => exact ⟨1, Nat.le_refl _, rfl, .inr rfl, fun j h hj => by omega, Below.refl _ _⟩
  case round =>
    obtain ⟨i, h1, rfl, hi, hN, hb⟩ := hrel
    by_cases hlt : i < cs.length
    · obtain ⟨m, hmi⟩ : ∃ m, m + 1 = i := ⟨i - 1, by omega⟩
      obtain ⟨b, o, rfl, hbl, ca⟩ := (hr.below hb) i hlt
      obtain ⟨b', o', hA', _, cb⟩ := (hr.below hb) m (by omega)
      cases hA'
      have hmm : ∀ x y : Ch, cs[i] = x → cs[m]'(by omega) = y → (sb y.key x.key = true → ∀ j (h : j + 1 < cs.length), j + 1 < i + 1 → sb cs[j].key cs[j + 1].key = true) ∧ (¬ sb y.key x.key = true → ¬ RisC cs) := fun x y hx hy => by
        subst hx hy
        subst hmi
        refine ⟨fun hh j h hj => ?_, fun hn hR => hn (hR m hlt)⟩
        by_cases e : j = m
        · subst e; exact hh
        · exact hN j h (by omega)
      replace hmm := Lib.hid (hmm cs[i] (cs[m]'(by omega)) rfl rfl)
      generalize cs[i] = x at ca hmm
      generalize cs[m]'(by omega) = y at cb hmm
      have a0 : wr.cell? ⟨b, o + i * 5, none⟩ = some (.string x.key) := ca 0 _ rfl
      have b0 : wr.cell? ⟨b, o + m * 5, none⟩ = some (.string y.key) := cb 0 _ rfl
      have hltI : (i : Int) < (cs.length : Int) := by omega
      have hltI2 : (m : Int) < (cs.length : Int) := by omega
      have hw1 : IntKind.i64.wrap ((i : Int) - 1) = m := by rw [IntKind.wrap_i64] <;> omega
      clear ca cb hN
      by_cases hxy : sb y.key x.key = true
      · have hle : (Op.bytesLess x.key.toList y.key.toList || x.key.toList == y.key.toList) = false := by rw [str_lt, str_eq, le_false hxy]
        go_wp2_with fail
        go_quiet (fail)
        go_wp2_with fail
        go_roundw
        case rel => exact ⟨i + 1, by omega, by go_num, .inl (by omega), hmm.out.1 hxy, bl_drewN hb _⟩
        case measure => simp [intOf]; omega
      · have hle : (Op.bytesLess x.key.toList y.key.toList || x.key.toList == y.key.toList) = true := by rw [str_lt, str_eq, le_true hxy]
        exact absurd tm.out (hmm.out.2 hxy)
    · clear hN
      have hw1 := bl_tr hw0 hb
      replace hl := hl.below hb
      replace hr := hr.below hb
      have hsrc := LAt.src prL_len (by omega) (hl.below (bl_alloc (Below.refl wr.heap.size wr) (.cells #[] 65)))
      have hown := ownsRow_empty wr 65 3 wr.heap.size (Nat.le_refl _)
      go_wp2_with (at_builtin; refine wpList_append_srcT rfl _ _ 28 rfl wr.heap.size 65 i0 _ 3 40 Try.underlying28 hi0 hz0 hz1 hz2 rfl (by omega) (.slice (some ⟨wr.heap.size, 0, none⟩) 0 0) 0 [] rfl hown A l.length c (l.flatMap prL) rfl hsrc (flat_one prL_one _) ?h63 ?hby ?hbase ?nxl; case' nxl => intro A2 c2 w2 hown2 hg2)
      case h63 => simp only [maxLen]; omega
      case hby => omega
      case hbase => simp
      have hb2 := bl_own (bl_alloc (Below.refl wr.heap.size wr) _) hown (Nat.le_refl _) hg2
      simp only [Nat.zero_add, List.nil_append] at hown2 ⊢
      have hL2 := LAt.of_own prL_len hown2 rfl
      have hw := bl_tr hw1 hb2
      replace hl := hl.below hb2
      replace hr := hr.below hb2
      clear hown hown2 hsrc hg2 hw0 hb hw1 hb2
      go_wp2_with fail
      go_loopw [7, 8] (fun v u wr => ∃ (i : Nat) (A1 : Option Addr) (c1 : Nat) (out : List Pr), i ≤ cs.length ∧ out = outP l (cs.take i) ∧ v = .slice A1 out.length c1 ∧ u = .int .i64 i ∧ (∀ x ∈ cs.take i, badC l x = false) ∧ LAt wr A1 3 prL out ∧ Below w2.heap.size w2 wr) (fun _ u _ => cs.length - (intOf u).toNat)
      case atStart => exact ⟨0, A2, c2, l, Nat.zero_le _, by simp [outP], rfl, rfl, by simp, hL2, Below.refl _ _⟩
      case round =>
        clear hL2
        obtain ⟨i, A1, c1, out, hi, ho, rfl, rfl, hN, hL, hb⟩ := hrel
        have hlen : out.length ≤ l.length + i := by rw [ho]; exact len_outP l cs i hi
        by_cases hlt : i < cs.length
        · obtain ⟨b, o, rfl, hbl, ca⟩ := (hr.below hb) i hlt
          have hstep := outP_succ (l := l) hlt
          rw [← ho] at hstep
          generalize hout : outP l (cs.take (i + 1)) = out' at hstep
          replace hstep := Lib.hid hstep
          replace hout := Lib.hid hout
          have hbadY := Lib.hid (fun h : badC l cs[i] = true => (⟨cs[i], List.getElem_mem _, h⟩ : ∃ x ∈ cs, badC l x = true))
          have hbadN := Lib.hid (fun (h : badC l cs[i] = false) x (hx : x ∈ cs.take (i + 1)) => (by
            rw [List.take_succ_eq_append_getElem hlt, List.mem_append] at hx
            rcases hx with hx | hx
            · exact hN x hx
            · obtain rfl := List.mem_singleton.1 hx; exact h : badC l x = false))
          clear hN ho
          generalize cs[i] = x at ca hstep hbadY hbadN
          have a0 : wr.cell? ⟨b, o + i * 5, none⟩ = some (.string x.key) := ca 0 _ rfl
          have a1 : wr.cell? ⟨b, o + i * 5 + 1, none⟩ = some (.string x.old) := ca 1 _ rfl
          have a2 : wr.cell? ⟨b, o + i * 5 + 2, none⟩ = some (.string x.new) := ca 2 _ rfl
          have a3 : wr.cell? ⟨b, o + i * 5 + 3, none⟩ = some (.bool x.was) := ca 3 _ rfl
          have a4 : wr.cell? ⟨b, o + i * 5 + 4, none⟩ = some (.bool x.is) := ca 4 _ rfl
          have hltI : (i : Int) < (cs.length : Int) := by omega
          clear ca
          have hbs := hb.size
          go_wp2_with fail
          refine (rget_any A c l x.key _ ((hl.below hb).below (bl_alloc (Below.refl _ _) _)) (by omega)).mono ?_
          rintro e w4 ⟨rfl, hw4⟩
          have hX := bl_tr (bl_alloc (Below.refl wr.heap.size wr) (.cells #[.string x.key, .string x.old, .string x.new, .bool x.was, .bool x.is] 43)) hw4
          have hc4 : Blk w4 wr.heap.size (chL x) := (Blk.new wr #[.string x.key, .string x.old, .string x.new, .bool x.was, .bool x.is] 43).below hw4 (by simp)
          have q0 := hc4.get (j := 0) rfl
          have q1 := hc4.get (j := 1) rfl
          have q2 := hc4.get (j := 2) rfl
          have q3 := hc4.get (j := 3) rfl
          have q4 := hc4.get (j := 4) rfl
          clear a0 a1 a2 a3 a4 hw4
          have hbad : badC l x = (!decide (gotV (getL l x.key) = x.old) || !((getL l x.key).isSome == x.was) || (!x.is && !decide (x.new = ⟨#[]⟩))) := rfl
          have e1 := str_eq (gotV (getL l x.key)) x.old
          have e4 := nil_eq x.new
          cases c1' : decide (gotV (getL l x.key) = x.old) with
          | false =>
            rw [c1'] at e1
            have hbb : badC l x = true := by rw [hbad, c1']; rfl
            clear e4 hbad c1'
            clear hstep hbadN hl hr hL
            replace hbadY := Lib.hid (hbadY.out hbb)
            go_wp2_with fail
            go_ret2
            exact .inl ⟨hbadY.out, rfl, bl_tr hw (bl_tr hb hX)⟩
          | true =>
            rw [c1'] at e1
            cases hgs : (getL l x.key).isSome <;> cases hws : x.was
            · rw [hws] at q3
              cases his : x.is with
              | true =>
                rw [his] at q4
                have hbb : badC l x = false := by rw [hbad, c1', hgs, hws, his]; rfl
                clear hbad c1' e4
                clear hbadY
                replace hbadN := Lib.hid (hbadN.out hbb)
                have hL4 := hL.below hX
                have hps := hstep.out
                unfold patS at hps
                rw [his] at hps
                simp only [if_true] at hps
                have hl4 := (hl.below hb).below hX
                replace hps := Lib.hid hps
                have hgl := hc4.lt
                clear hstep hL hl hr
                go_wp2_with fail
                go_loopw [13] (fun u wr => ∃ k : Nat, k ≤ l.length ∧ u = .int .i64 k ∧ Blk wr w4.heap.size [.string x.key, .string x.new, .int .i64 (offL (l.take k) x.key)] ∧ Below w4.heap.size w4 wr) (fun u _ => l.length - (intOf u).toNat)
                case atStart => exact ⟨0, Nat.zero_le _, rfl, Blk.new w4 #[.string x.key, .string x.new, .int .i64 0] 65, bl_alloc (Below.refl _ _) _⟩
                case round =>
                  obtain ⟨k, hk, rfl, hB, hbk⟩ := hrel
                  have hc5 := hc4.below hbk hc4.lt
                  replace q0 := hc5.get (j := 0) rfl
                  have r0 := hB.get (j := 0) rfl
                  have r1 := hB.get (j := 1) rfl
                  have r2 := hB.get (j := 2) rfl
                  have ru := hB.unf 2
                  by_cases hkl : k < l.length
                  · obtain ⟨b3, o3, rfl, hbl3, cb⟩ := (hl4.below hbk) k hkl
                    have hof := off_succ hris.out hkl x.key
                    generalize l[k] = y at cb hof
                    have s0 : wr.cell? ⟨b3, o3 + k * 3, none⟩ = some (.string y.key) := cb 0 _ rfl
                    have s1 : wr.cell? ⟨b3, o3 + k * 3 + 1, none⟩ = some (.string y.val) := cb 1 _ rfl
                    have s2 : wr.cell? ⟨b3, o3 + k * 3 + 2, none⟩ = some (.int .i64 y.off) := cb 2 _ rfl
                    have hkI : (k : Int) < (l.length : Int) := by omega
                    clear cb
                    by_cases hyk : y.key = x.key
                    · have hd : (y.key.toList == x.key.toList) = true := by rw [str_eq]; simpa using hyk
                      replace hof := Lib.hid (hof.1 hyk)
                      replace hyk := Lib.hid hyk
                      go_wp2_with fail
                      go_quiet (fail)
                      go_wp2_with fail
                      go_roundw
                      case rel => exact ⟨k + 1, by omega, by go_num, by rw [hof.out]; exact (hB.drewN _).set_same 2 _, (bl_drewN hbk _).setCell (p := ⟨w4.heap.size, 2, none⟩) (Nat.le_refl _) _⟩
                      case measure => simp [intOf]; omega
                    · have hd : (y.key.toList == x.key.toList) = false := by rw [str_eq]; simpa using hyk
                      replace hof := Lib.hid (hof.2 hyk)
                      replace hyk := Lib.hid hyk
                      go_wp2_with fail
                      go_quiet (fail)
                      go_wp2_with fail
                      go_roundw
                      case rel => exact ⟨k + 1, by omega, by go_num, by rw [hof.out]; exact hB.drewN _, bl_drewN hbk _⟩
                      case measure => simp [intOf]; omega
                  · obtain rfl : k = l.length := by omega
                    rw [List.take_length] at hB r2
                    have hwi := with_any A1 c1 out (chP l x) wr (hL4.below hbk) (by omega)
                    rw [← hps.out] at hwi
                    unfold chP at hwi
                    go_wp2_with fail
                    refine hwi.mono ?_
                    rintro e w6 ⟨A6, c6, rfl, hP6, hw6⟩
                    go_wp2_with fail
                    go_roundw
                    case rel => refine ⟨i + 1, A6, c6, _, by omega, rfl, ?_⟩; rw [hout.out]; exact ⟨rfl, by go_num, hbadN.out, hP6.row, bl_tr hb (bl_tr hX (bl_tr hbk hw6))⟩
                    case measure => simp [intOf]; omega
              | false =>
                rw [his] at q4
                cases c4 : decide (x.new = ⟨#[]⟩) with
                | false =>
                  rw [c4] at e4
                  have hbb : badC l x = true := by rw [hbad, c1', hgs, hws, his, c4]; rfl
                  clear hbad c1' c4
                  clear hstep hbadN hl hr hL
                  replace hbadY := Lib.hid (hbadY.out hbb)
                  go_wp2_with fail
                  go_ret2
                  exact .inl ⟨hbadY.out, rfl, bl_tr hw (bl_tr hb hX)⟩
                | true =>
                  rw [c4] at e4
                  have hbb : badC l x = false := by rw [hbad, c1', hgs, hws, his, c4]; rfl
                  clear hbad c1' c4
                  clear hbadY
                  replace hbadN := Lib.hid (hbadN.out hbb)
                  have hL4 := hL.below hX
                  have hps := hstep.out
                  unfold patS at hps
                  rw [his] at hps
                  simp only [Bool.false_eq_true, if_false] at hps
                  have hwo := without_any A1 c1 out x.key w4 hL4 (by omega)
                  rw [← hps] at hwo
                  clear hps hstep hL hl hr
                  go_wp2_with fail
                  refine hwo.mono ?_
                  rintro e w6 ⟨A6, c6, rfl, hP6, hw6⟩
                  go_wp2_with fail
                  go_roundw
                  case rel => refine ⟨i + 1, A6, c6, _, by omega, rfl, ?_⟩; rw [hout.out]; exact ⟨rfl, by go_num, hbadN.out, hP6.row, bl_tr hb (bl_tr hX hw6)⟩
                  case measure => simp [intOf]; omega
            · rw [hws] at q3
              have hbb : badC l x = true := by rw [hbad, c1', hgs, hws]; rfl
              clear hbad c1' e4
              clear hstep hbadN hl hr hL
              replace hbadY := Lib.hid (hbadY.out hbb)
              go_wp2_with fail
              go_ret2
              exact .inl ⟨hbadY.out, rfl, bl_tr hw (bl_tr hb hX)⟩
            · rw [hws] at q3
              have hbb : badC l x = true := by rw [hbad, c1', hgs, hws]; rfl
              clear hbad c1' e4
              clear hstep hbadN hl hr hL
              replace hbadY := Lib.hid (hbadY.out hbb)
              go_wp2_with fail
              go_ret2
              exact .inl ⟨hbadY.out, rfl, bl_tr hw (bl_tr hb hX)⟩
            · rw [hws] at q3
              cases his : x.is with
              | true =>
                rw [his] at q4
                have hbb : badC l x = false := by rw [hbad, c1', hgs, hws, his]; rfl
                clear hbad c1' e4
                clear hbadY
                replace hbadN := Lib.hid (hbadN.out hbb)
                have hL4 := hL.below hX
                have hps := hstep.out
                unfold patS at hps
                rw [his] at hps
                simp only [if_true] at hps
                have hl4 := (hl.below hb).below hX
                replace hps := Lib.hid hps
                have hgl := hc4.lt
                clear hstep hL hl hr
                go_wp2_with fail
                go_loopw [13] (fun u wr => ∃ k : Nat, k ≤ l.length ∧ u = .int .i64 k ∧ Blk wr w4.heap.size [.string x.key, .string x.new, .int .i64 (offL (l.take k) x.key)] ∧ Below w4.heap.size w4 wr) (fun u _ => l.length - (intOf u).toNat)
                case atStart => exact ⟨0, Nat.zero_le _, rfl, Blk.new w4 #[.string x.key, .string x.new, .int .i64 0] 65, bl_alloc (Below.refl _ _) _⟩
                case round =>
                  obtain ⟨k, hk, rfl, hB, hbk⟩ := hrel
                  have hc5 := hc4.below hbk hc4.lt
                  replace q0 := hc5.get (j := 0) rfl
                  have r0 := hB.get (j := 0) rfl
                  have r1 := hB.get (j := 1) rfl
                  have r2 := hB.get (j := 2) rfl
                  have ru := hB.unf 2
                  by_cases hkl : k < l.length
                  · obtain ⟨b3, o3, rfl, hbl3, cb⟩ := (hl4.below hbk) k hkl
                    have hof := off_succ hris.out hkl x.key
                    generalize l[k] = y at cb hof
                    have s0 : wr.cell? ⟨b3, o3 + k * 3, none⟩ = some (.string y.key) := cb 0 _ rfl
                    have s1 : wr.cell? ⟨b3, o3 + k * 3 + 1, none⟩ = some (.string y.val) := cb 1 _ rfl
                    have s2 : wr.cell? ⟨b3, o3 + k * 3 + 2, none⟩ = some (.int .i64 y.off) := cb 2 _ rfl
                    have hkI : (k : Int) < (l.length : Int) := by omega
                    clear cb
                    by_cases hyk : y.key = x.key
                    · have hd : (y.key.toList == x.key.toList) = true := by rw [str_eq]; simpa using hyk
                      replace hof := Lib.hid (hof.1 hyk)
                      replace hyk := Lib.hid hyk
                      go_wp2_with fail
                      go_quiet (fail)
                      go_wp2_with fail
                      go_roundw
                      case rel => exact ⟨k + 1, by omega, by go_num, by rw [hof.out]; exact (hB.drewN _).set_same 2 _, (bl_drewN hbk _).setCell (p := ⟨w4.heap.size, 2, none⟩) (Nat.le_refl _) _⟩
                      case measure => simp [intOf]; omega
                    · have hd : (y.key.toList == x.key.toList) = false := by rw [str_eq]; simpa using hyk
                      replace hof := Lib.hid (hof.2 hyk)
                      replace hyk := Lib.hid hyk
                      go_wp2_with fail
                      go_quiet (fail)
                      go_wp2_with fail
                      go_roundw
                      case rel => exact ⟨k + 1, by omega, by go_num, by rw [hof.out]; exact hB.drewN _, bl_drewN hbk _⟩
                      case measure => simp [intOf]; omega
                  · obtain rfl : k = l.length := by omega
                    rw [List.take_length] at hB r2
                    have hwi := with_any A1 c1 out (chP l x) wr (hL4.below hbk) (by omega)
                    rw [← hps.out] at hwi
                    unfold chP at hwi
                    go_wp2_with fail
                    refine hwi.mono ?_
                    rintro e w6 ⟨A6, c6, rfl, hP6, hw6⟩
                    go_wp2_with fail
                    go_roundw
                    case rel => refine ⟨i + 1, A6, c6, _, by omega, rfl, ?_⟩; rw [hout.out]; exact ⟨rfl, by go_num, hbadN.out, hP6.row, bl_tr hb (bl_tr hX (bl_tr hbk hw6))⟩
                    case measure => simp [intOf]; omega
              | false =>
                rw [his] at q4
                cases c4 : decide (x.new = ⟨#[]⟩) with
                | false =>
                  rw [c4] at e4
                  have hbb : badC l x = true := by rw [hbad, c1', hgs, hws, his, c4]; rfl
                  clear hbad c1' c4
                  clear hstep hbadN hl hr hL
                  replace hbadY := Lib.hid (hbadY.out hbb)
                  go_wp2_with fail
                  go_ret2
                  exact .inl ⟨hbadY.out, rfl, bl_tr hw (bl_tr hb hX)⟩
                | true =>
                  rw [c4] at e4
                  have hbb : badC l x = false := by rw [hbad, c1', hgs, hws, his, c4]; rfl
                  clear hbad c1' c4
                  clear hbadY
                  replace hbadN := Lib.hid (hbadN.out hbb)
                  have hL4 := hL.below hX
                  have hps := hstep.out
                  unfold patS at hps
                  rw [his] at hps
                  simp only [Bool.false_eq_true, if_false] at hps
                  have hwo := without_any A1 c1 out x.key w4 hL4 (by omega)
                  rw [← hps] at hwo
                  clear hps hstep hL hl hr
                  go_wp2_with fail
                  refine hwo.mono ?_
                  rintro e w6 ⟨A6, c6, rfl, hP6, hw6⟩
                  go_wp2_with fail
                  go_roundw
                  case rel => refine ⟨i + 1, A6, c6, _, by omega, rfl, ?_⟩; rw [hout.out]; exact ⟨rfl, by go_num, hbadN.out, hP6.row, bl_tr hb (bl_tr hX hw6)⟩
                  case measure => simp [intOf]; omega
        · obtain rfl : i = cs.length := by omega
          rw [List.take_length] at hN ho
          subst ho
          replace hN := Lib.hid hN
          go_wp2_with fail
          go_ret2
          exact .inr ⟨hN.out, A1, c1, rfl, hL, bl_tr hw hb⟩
end Go.Proofs.Ytjokpjfmnjefdaa
