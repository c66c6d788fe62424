/- The document's dealer: count (38), give (39). -/
import Derived.Test.YtbjjhnlifgbpmaaRa
import Derived.Laws.OwnMore
import Derived.Test.YtbjjhnlifgbpmaaSy
namespace Go.Proofs.Ytbjjhnlifgbpmaa
open Go.RowKit Go.Shelf
attribute [local go_sem] Oper.semAt_some

/-- The dealer: shares, and who has each partition. -/
structure OwnAt (w : World) (N D : Nat) (lv : Value) (AO : Option Addr) (cO : Nat) (own : List Int) : Prop where
  box : Blk w D [lv, .slice AO own.length cO]
  row : w.ownsRow N 3 1 (.slice AO own.length cO) own.length (own.flatMap encI)
  lt : D < N
  ls : N ≤ w.heap.size
theorem OwnAt.below {w w' : World} {N D : Nat} {lv : Value} {AO : Option Addr} {cO : Nat} {own : List Int} (h : OwnAt w N D lv AO cO own) (hb : Below w.heap.size w w') : OwnAt w' N D lv AO cO own :=
  ⟨h.box.below hb h.box.lt, ownsRow_below h.row hb, h.lt, Nat.le_trans h.ls hb.size⟩
theorem encI_at (own : List Int) (j : Nat) : (own.flatMap encI)[j]? = own[j]?.map (Value.int .i64) := by rw [encI_map, List.getElem?_map]
theorem OwnAt.cell {w : World} {N D : Nat} {lv : Value} {g : Nat} {cO : Nat} {own : List Int} (h : OwnAt w N D lv (some ⟨g, 0, none⟩) cO own) {j : Nat} (hj : j < own.length) : w.cell? ⟨g, j, none⟩ = some (.int .i64 own[j]) := by
  rw [h.row.cellAt j (by omega), encI_at, List.getElem?_eq_getElem hj]; rfl
theorem OwnAt.some {w : World} {N D : Nat} {lv : Value} {AO : Option Addr} {cO : Nat} {own : List Int} (h : OwnAt w N D lv AO cO own) (hn : 0 < own.length) : ∃ g, AO = Option.some ⟨g, 0, none⟩ ∧ N ≤ g := by
  rcases h.row.2 with ⟨e, h0⟩ | ⟨g, cap, cur, e, hb, _⟩
  · omega
  · simp only [Value.slice.injEq] at e; exact ⟨g, e.1, hb⟩

set_option maxRecDepth 100000 in
set_option maxHeartbeats 4000000 in
theorem count_any {w : World} {N D : Nat} {lv : Value} {AO : Option Addr} {cO : Nat} {own : List Int} (h : OwnAt w N D lv AO cO own) (hl : own.length ≤ 32) (i : Nat) :
    Calls Try.prog 38 #[.pointer (some ⟨D, 0, none⟩), .int .i64 i] w fun e w' => e = .returned (.int .i64 (cnt own i)) ∧ w = w' := by
  have q1 := h.box.get (j := 1) rfl
  go_enter Try.func38, Try.ntmps38
  go_wp2_with fail
  go_loopw [5, 6] (fun v u wr => ∃ p : Nat, p ≤ own.length ∧ u = .int .i64 p ∧ v = .int .i64 (cnt (own.take p) i : Nat) ∧ wr = w) (fun _ u _ => own.length - (intOf u).toNat)
  case atStart => exact ⟨0, Nat.zero_le _, rfl, rfl, rfl⟩
  case round =>
    obtain ⟨p, hp, rfl, rfl, rfl⟩ := hrel
    by_cases hlt : p < own.length
    · obtain ⟨g, rfl, hg⟩ := h.some (by omega)
      have q2 := h.cell hlt
      have htk : cnt (own.take (p + 1)) i = cnt (own.take p) i + if own[p] == (i : Int) then 1 else 0 := by
        rw [List.take_succ_eq_append_getElem hlt, cnt, List.countP_append]; simp [cnt, List.countP_cons]
      have hc32 : cnt (own.take p) i ≤ 32 := Nat.le_trans (List.countP_le_length ..) (by simp; omega)
      generalize own[p] = x at *
      generalize cnt (own.take p) i = cc at *
      have hp0 : (0 : Int) ≤ (p : Int) := by omega
      have hpI : (p : Int) < (own.length : Int) := by omega
      replace htk := Lib.hid htk
      cases hx : (x == (i : Int)) with
      | true =>
        replace htk := Lib.hid (by have := htk.out; rw [hx, if_pos rfl] at this; exact this)
        go_wp2_with fail
        exact ⟨⟨p + 1, by omega, by go_num, by rw [htk.out]; go_num, trivial⟩, by simp [intOf]; omega⟩
      | false =>
        replace htk := Lib.hid (by have := htk.out; rw [hx, if_neg (by simp)] at this; exact this)
        go_wp2_with fail
        exact ⟨⟨p + 1, by omega, by go_num, by rw [htk.out]; rfl, trivial⟩, by simp [intOf]; omega⟩
    · obtain rfl : p = own.length := by omega
      rw [List.take_length]
      go_wp2_with fail
      go_ret
      exact ⟨rfl, rfl⟩

set_option maxRecDepth 100000 in
set_option maxHeartbeats 4000000 in
theorem give_any {w : World} {N D : Nat} {lv : Value} {AO : Option Addr} {cO : Nat} {own : List Int} (h : OwnAt w N D lv AO cO own) (hl : own.length ≤ 32) (i : Nat) :
    Calls Try.prog 39 #[.pointer (some ⟨D, 0, none⟩), .int .i64 i] w fun e w' => e = .returned (.bool (give own i).isSome) ∧ OwnAt w' N D lv AO cO ((give own i).getD own) ∧ FrX (fun b => AO.map (·.block) = some b) w w' ∧ w'.heap.size = w.heap.size := by
  have q1 := h.box.get (j := 1) rfl
  go_enter Try.func39, Try.ntmps39
  go_wp2_with fail
  go_loopw [5] (fun u wr => ∃ p : Nat, p ≤ own.length ∧ u = .int .i64 p ∧ (∀ j (hj : j < own.length), j < p → ¬ own[j] < 0) ∧ wr = w) (fun u _ => own.length - (intOf u).toNat)
  case atStart => exact ⟨0, Nat.zero_le _, rfl, fun j _ hj => by omega, rfl⟩
  case round =>
    obtain ⟨p, hp, rfl, hno, rfl⟩ := hrel
    by_cases hlt : p < own.length
    · obtain ⟨g, rfl, hg⟩ := h.some (by omega)
      have q2 := h.cell hlt
      have u2 := h.row.frozenAt p
      have hp0 : (0 : Int) ≤ (p : Int) := by omega
      have hpI : (p : Int) < (own.length : Int) := by omega
      by_cases hx : own[p] < 0
      · have hgv : give own i = some (own.set p (i : Int)) := by
          rw [give, (List.findIdx?_eq_some_iff_getElem (p := fun o : Int => decide (o < 0))).2 ⟨hlt, by simpa using hx, fun j hj => by simpa using hno j (by omega) hj⟩]
          rfl
        replace hgv := Lib.hid hgv
        have hst := h.row.stored p (.int .i64 i)
        have hset : (own.flatMap encI).set p (.int .i64 (i : Int)) = (own.set p (i : Int)).flatMap encI := by rw [encI_map, encI_map, List.map_set]
        generalize own[p] = x at *
        have hxd : decide (x < 0) = true := by simpa using hx
        replace hset := Lib.hid hset
        replace hst := Lib.hid hst
        replace hno := Lib.hid hno
        go_wp2_with fail
        go_ret
        have hb := h.box.set_ne (a := ⟨g, p, none⟩) (by have := h.lt; simp; omega) (.int .i64 (i : Int))
        have hr := hst.out.1
        rw [hset.out] at hr
        refine ⟨by rw [hgv.out]; rfl, ?_, FrX.of_grown hst.out.2 (fun g' e => by cases e; exact .inl rfl), by simp⟩
        rw [hgv.out]
        exact ⟨by simpa using hb, by simpa using hr, h.lt, by simpa using h.ls⟩
      · have hno' : ∀ j (hj : j < own.length), j < p + 1 → ¬ own[j] < 0 := fun j hj hjp => by
          by_cases e : j = p
          · subst e; exact hx
          · exact hno j hj (by omega)
        generalize own[p] = x at *
        have hxd : decide (x < 0) = false := by simpa using hx
        replace hno := Lib.hid hno
        replace hno' := Lib.hid hno'
        go_wp2_with fail
        exact ⟨⟨p + 1, by omega, by go_num, hno'.out, trivial⟩, by simp [intOf]; omega⟩
    · obtain rfl : p = own.length := by omega
      have hgv : give own i = none := by
        rw [give, List.findIdx?_eq_none_iff.2 (fun x hx => by obtain ⟨j, hj, rfl⟩ := List.getElem_of_mem hx; simpa using hno j hj hj)]
        rfl
      replace hgv := Lib.hid hgv
      replace hno := Lib.hid hno
      go_wp2_with fail
      go_ret
      refine ⟨by rw [hgv.out]; rfl, ?_, FrX.refl _ _, rfl⟩
      rw [hgv.out]
      exact h
end Go.Proofs.Ytbjjhnlifgbpmaa
/- The document's had (37). -/
namespace Go.Proofs.Ytbjjhnlifgbpmaa
open Go.RowKit Go.Shelf
attribute [local go_sem] Oper.semAt_some

/-- Who is taken: what is no more to be dealt. -/
def tkL (parts : Nat) (D : List Int) : List Value := (List.range parts).map fun (p : Nat) => .bool (!D.contains (p : Int))
theorem tkL_len (parts : Nat) (D : List Int) : (tkL parts D).length = parts := by simp [tkL]
theorem tkL_get {parts : Nat} {D : List Int} {p : Nat} (hp : p < parts) : (tkL parts D)[p]? = some (.bool (!D.contains (p : Int))) := by simp [tkL, hp]
/-- What is met below p; what is left then. -/
def metP (f D : List Int) (p : Nat) : List Int := D.filter fun x => f.contains x && decide (x < (p : Int))
def leftP (f D : List Int) (p : Nat) : List Int := D.filter fun x => !(f.contains x && decide (x < (p : Int)))
theorem mem_metP {f D : List Int} {p : Nat} {x : Int} : x ∈ metP f D p ↔ x ∈ D ∧ x ∈ f ∧ x < (p : Int) := by simp [metP]
theorem mem_leftP {f D : List Int} {p : Nat} {x : Int} : x ∈ leftP f D p ↔ x ∈ D ∧ (x ∈ f → ¬ x < (p : Int)) := by
  simp only [leftP, List.mem_filter, Bool.not_eq_true', Bool.and_eq_false_iff, List.contains_eq_mem, decide_eq_false_iff_not]
  refine and_congr Iff.rfl ⟨fun h hf => h.resolve_left (fun k => k hf), fun h => ?_⟩
  by_cases hf : x ∈ f
  · exact .inr (h hf)
  · exact .inl hf
theorem metP_yes {f D : List Int} (hD : D.Pairwise (· < ·)) {p : Nat} (h1 : (p : Int) ∈ D) (h2 : (p : Int) ∈ f) : metP f D (p + 1) = metP f D p ++ [(p : Int)] := by
  refine rising_ext (hD.filter _) (List.pairwise_append.2 ⟨hD.filter _, by simp, fun x hx y hy => ?_⟩) fun x => ?_
  · rw [List.mem_singleton] at hy; subst hy; exact (mem_metP.1 hx).2.2
  · rw [List.mem_append, mem_metP, mem_metP, List.mem_singleton]
    constructor
    · rintro ⟨a, b, c⟩
      by_cases e : x = (p : Int)
      · exact .inr e
      · exact .inl ⟨a, b, by omega⟩
    · rintro (⟨a, b, c⟩ | rfl)
      · exact ⟨a, b, by omega⟩
      · exact ⟨h1, h2, by omega⟩
theorem metP_no {f D : List Int} {p : Nat} (h : ¬ ((p : Int) ∈ D ∧ (p : Int) ∈ f)) : metP f D (p + 1) = metP f D p ∧ leftP f D (p + 1) = leftP f D p := by
  have key : ∀ x ∈ D, (f.contains x && decide (x < ((p + 1 : Nat) : Int))) = (f.contains x && decide (x < (p : Int))) := fun x hx => by
    by_cases hf : x ∈ f
    · have hne : x ≠ (p : Int) := by rintro rfl; exact h ⟨hx, hf⟩
      have : decide (x < ((p + 1 : Nat) : Int)) = decide (x < (p : Int)) := by rw [decide_eq_decide]; omega
      rw [this]
    · simp [hf]
  exact ⟨List.filter_congr key, List.filter_congr fun x hx => by rw [key x hx]⟩
theorem tkL_put {f D : List Int} {parts p : Nat} (hp : p < parts) (h2 : (p : Int) ∈ f) : (tkL parts (leftP f D p)).set p (.bool true) = tkL parts (leftP f D (p + 1)) := by
  apply List.ext_getElem
  · simp [tkL]
  · intro j h1 _
    have hj : j < parts := by simpa [tkL] using h1
    rw [List.getElem_set]
    simp only [tkL, List.getElem_map, List.getElem_range]
    by_cases e : p = j
    · subst e
      have : ¬ ((p : Int) ∈ leftP f D (p + 1)) := fun h => (mem_leftP.1 h).2 h2 (by omega)
      simp [this]
    · rw [if_neg e]
      have : ((j : Int) ∈ leftP f D p) ↔ ((j : Int) ∈ leftP f D (p + 1)) := by
        rw [mem_leftP, mem_leftP]
        constructor
        · rintro ⟨a, b⟩; exact ⟨a, fun hf => by have := b hf; omega⟩
        · rintro ⟨a, b⟩; exact ⟨a, fun hf => by have := b hf; omega⟩
      congr 1
      rw [Bool.eq_iff_iff]
      simp [this]
theorem metP_all {f D : List Int} {parts : Nat} (hin : ∀ x ∈ D, x < (parts : Int)) : metP f D parts = D.filter (fun p => f.contains p) ∧ leftP f D parts = D.filter fun p => !f.contains p := by
  refine ⟨List.filter_congr fun x hx => ?_, List.filter_congr fun x hx => ?_⟩ <;> simp [hin x hx]
theorem metP_zero {f D : List Int} (hin : ∀ x ∈ D, 0 ≤ x) : metP f D 0 = [] ∧ leftP f D 0 = D := by
  refine ⟨List.filter_eq_nil_iff.2 fun x hx => ?_, List.filter_eq_self.2 fun x hx => ?_⟩ <;> (have := hin x hx; simp; try omega)
theorem metP_len {f D : List Int} {p : Nat} (h : D.length ≤ 32) : (metP f D p).length ≤ 32 := Nat.le_trans (List.length_filter_le _ _) h

theorem had_none {old : List Ou} {s : ByteArray} (h : ∀ j (hj : j < old.length), old[j].m ≠ s) : (hadOf (fmL old (bk old.length)) s).l = [] := by
  rw [hadOf, look_first, List.find?_eq_none.2 (fun x hx => by obtain ⟨j, hj, rfl⟩ := List.getElem_of_mem hx; simpa using h j hj)]
  rfl
theorem had_first {old : List Ou} {s : ByteArray} {k : Nat} (hk : k < old.length) (he : old[k].m = s) (h : ∀ j (hj : j < old.length), j < k → old[j].m ≠ s) : (hadOf (fmL old (bk old.length)) s).l = old[k].r.l := by
  rw [hadOf, look_first, (List.find?_eq_some_iff_getElem).2 ⟨by simpa using he, k, hk, rfl, fun j hj => by simpa using h j (by omega) hj⟩]
  rfl

set_option maxRecDepth 100000 in
set_option maxHeartbeats 8000000 in
theorem had_any (w0 w : World) (A0 : Option Addr) (c0 : Nat) (old : List Ou) (s : ByteArray) (parts T : Nat) (D : List Int) (ho : ShAt w0 A0 old) (hb0 : Below w0.heap.size w0 w) (hT0 : w0.heap.size ≤ T) (hol : old.length ≤ 3518437208783) (hok : ∀ i (h : i < old.length), old[i].r.l.length * 8 ≤ 140737488351232)
    (hp32 : parts ≤ 32) (hT : Blk w T (tkL parts D)) (hD : D.Pairwise (· < ·)) (hin : ∀ x ∈ D, 0 ≤ x ∧ x < (parts : Int)) (hD32 : D.length ≤ 32) (f : List Int) (hf : (hadOf (fmL old (bk old.length)) s).l = f) :
    Calls Try.prog 37 #[.slice A0 old.length c0, .string s, .int .i64 parts, .slice (some ⟨T, 0, none⟩) parts parts] w fun e w' => ∃ A c, e = .returned (.slice A (D.filter fun p => f.contains p).length c) ∧
      w'.ownsRow w.heap.size 3 1 (.slice A (D.filter fun p => f.contains p).length c) (D.filter fun p => f.contains p).length ((D.filter fun p => f.contains p).flatMap encI) ∧ Blk w' T (tkL parts (D.filter fun p => !f.contains p)) ∧ FrX (fun b => b = T) w w' := by
  obtain ⟨j0, hj0, hjz, hj1, hj2⟩ := info_parts infoI
  obtain ⟨l, hl⟩ : ∃ l, (D.filter fun p => f.contains p) = l := ⟨_, rfl⟩
  obtain ⟨D', hD'⟩ : ∃ D', (D.filter fun p => !f.contains p) = D' := ⟨_, rfl⟩
  rw [hl, hD']
  have hmz := metP_zero (f := f) (D := D) fun x hx => (hin x hx).1
  have hma := metP_all (f := f) (D := D) (parts := parts) fun x hx => (hin x hx).2
  rw [hl, hD'] at hma
  replace hl := Lib.hid hl
  replace hD' := Lib.hid hD'
  replace hmz := Lib.hid hmz
  replace hma := Lib.hid hma
  replace ho := Lib.hid ho
  replace hok := Lib.hid hok
  go_enter Try.func37, Try.ntmps37
  go_wp2_with fail
  go_loopw [9] (fun u wr => ∃ k : Nat, k ≤ old.length ∧ u = .int .i64 k ∧ (∀ j (hj : j < old.length), j < k → old[j].m ≠ s) ∧ wr = w) (fun u _ => old.length - (intOf u).toNat)
  case atStart => exact ⟨0, Nat.zero_le _, rfl, fun j _ h => by omega, rfl⟩
  case round =>
    obtain ⟨k, hk, rfl, hno, hwr⟩ := hrel
    subst wr
    by_cases hlt : k < old.length
    · obtain ⟨g, o, rfl, hg, hc⟩ := ho.out.1 k hlt
      have hsl := ho.out.2 old[k] (List.getElem_mem hlt)
      have hok1 := hok.out k hlt
      have hne : old[k].m ≠ s → ∀ j (hj : j < old.length), j < k + 1 → old[j].m ≠ s := fun h j hj hjk => by
        by_cases e : j = k
        · subst e; exact h
        · exact hno j hj (by omega)
      have heq : old[k].m = s → f = old[k].r.l := fun h => by rw [← hf]; exact had_first hlt h hno
      generalize old[k] = ou at *
      obtain ⟨m0, Ao, co, lo⟩ := ou
      simp only at hsl hok1 hne heq
      have p0 := (hb0.cell (p := ⟨g, o + k * 2 + 0, none⟩) hg).trans (hc 0 _ rfl)
      have p1w := hc 1 _ rfl
      simp only [Rw3.v, Nat.add_zero] at p0 p1w
      have hk0 : (0 : Int) ≤ (k : Int) := by omega
      have hkI : (k : Int) < (old.length : Int) := by omega
      replace hno := Lib.hid hno
      replace p1w := Lib.hid p1w
      clear hc
      by_cases hm : m0 = s
      · obtain rfl := (heq hm).symm
        have hmd : (m0.toList == s.toList) = true := by rw [str_eq]; simp [hm]
        have hkz : ((k : Int) == (old.length : Int)) = false := by rw [beq_eq_false_iff_ne]; omega
        replace hm := Lib.hid hm
        replace hne := Lib.hid hne
        replace hf := Lib.hid hf
        clear heq
        go_wp2_with fail
        go_loopw [10, 11] (fun v u wi => ∃ (p : Nat) (A : Option Addr) (c : Nat), p ≤ parts ∧ u = .int .i64 p ∧ v = .slice A (metP lo D p).length c ∧ wi.ownsRow w.heap.size 3 1 (.slice A (metP lo D p).length c) (metP lo D p).length ((metP lo D p).flatMap encI) ∧ Blk wi T (tkL parts (leftP lo D p)) ∧ FrX (fun b => b = T) w wi) (fun _ u _ => parts - (intOf u).toNat)
        case atStart =>
          refine ⟨0, none, 0, Nat.zero_le _, rfl, by rw [hmz.out.1]; rfl, ?_, ?_, FrX.refl _ _⟩
          · rw [hmz.out.1]; exact World.ownsRow_nil _ _ _ _
          · rw [hmz.out.2]; exact hT
        case round =>
          obtain ⟨p, A, c, hp, rfl, rfl, hrow, hTi, hfr⟩ := hrel
          have hbi : Below w0.heap.size w0 wr := hfr.below hb0 (by rintro b rfl; exact hT0) hb0.size
          have p1 := (hbi.cell (p := ⟨g, o + k * 2 + 1, none⟩) hg).trans p1w.out
          have hWs := hfr.size
          have hml := metP_len (f := lo) (D := D) (p := p) hD32
          by_cases hpl : p < parts
          · have hp0' : (0 : Int) ≤ (p : Int) := by omega
            have hpI : (p : Int) < (parts : Int) := by omega
            have hyes := Lib.hid (fun h1 h2 => metP_yes (f := lo) hD (p := p) h1 h2)
            have hno1 := Lib.hid (fun h => metP_no (f := lo) (D := D) (p := p) h)
            have hput := Lib.hid (fun h2 => tkL_put (f := lo) (D := D) hpl h2)
            have hlp : (leftP lo D p).contains (p : Int) = D.contains (p : Int) := by
              rw [Bool.eq_iff_iff]
              simp only [List.contains_eq_mem, decide_eq_true_eq, mem_leftP]
              exact ⟨fun h => h.1, fun h => ⟨h, fun _ => by omega⟩⟩
            have qT : wr.cell? ⟨T, p, none⟩ = some (.bool (!D.contains (p : Int))) := by rw [hTi.cell p, tkL_get hpl, hlp]
            have uT := hTi.unf p
            replace hlp := Lib.hid hlp
            obtain ⟨mp, hmp⟩ : ∃ mp, metP lo D p = mp := ⟨_, rfl⟩
            rw [hmp] at hrow hml hyes hno1 ⊢
            replace hmp := Lib.hid hmp
            go_wp2_with fail
            go_loopw [12, 13] (fun v u wi => ∃ i : Nat, i ≤ lo.length ∧ u = .int .i64 i ∧ v = .bool ((lo.take i).contains (p : Int)) ∧ wi = wr) (fun _ u _ => lo.length - (intOf u).toNat)
            case atStart => exact ⟨0, Nat.zero_le _, rfl, by simp, rfl⟩
            case round =>
              obtain ⟨i, hi, rfl, rfl, rfl⟩ := hrel
              by_cases hil : i < lo.length
              · obtain ⟨ga, oa, rfl, hga, hca⟩ := (hsl.low (n := w0.heap.size) hbi hsl.bel) i hil
                have qa := hca 0 _ rfl
                simp only [Nat.mul_one, Nat.add_zero] at qa
                have hi0 : (0 : Int) ≤ (i : Int) := by omega
                have hiI : (i : Int) < (lo.length : Int) := by omega
                have htk : (lo.take (i + 1)).contains (p : Int) = ((lo.take i).contains (p : Int) || lo[i] == (p : Int)) := by
                  rw [List.take_succ_eq_append_getElem hil, List.contains_eq_any_beq, List.contains_eq_any_beq, List.any_append]; simp [Bool.beq_comm]
                replace htk := Lib.hid htk
                generalize lo[i] = y at *
                clear hca
                cases hd : (lo.take i).contains (p : Int) with
                | true =>
                  replace htk := Lib.hid (htk.out.trans (by rw [hd, Bool.true_or]))
                  clear hd
                  go_wp2_with fail
                  exact ⟨⟨i + 1, by omega, by go_num, by rw [htk.out], trivial⟩, by simp [intOf]; omega⟩
                | false =>
                  replace htk := Lib.hid (htk.out.trans (by rw [hd, Bool.false_or]))
                  clear hd
                  go_wp2_with fail
                  exact ⟨⟨i + 1, by omega, by go_num, by rw [htk.out], trivial⟩, by simp [intOf]; omega⟩
              · obtain rfl : i = lo.length := by omega
                rw [List.take_length]
                have hmem : lo.contains (p : Int) = true → (p : Int) ∈ lo := fun h => by simpa using h
                have hmem2 : D.contains (p : Int) = true → (p : Int) ∈ D := fun h => by simpa using h
                cases hc1 : lo.contains (p : Int) with
                | false =>
                  have hx := hno1.out (fun h => by have := h.2; simp [this] at hc1)
                  replace hc1 := Lib.hid hc1
                  go_wp2_with fail
                  refine ⟨⟨p + 1, A, c, by omega, by go_num, by rw [hx.1], ?_, ?_, hfr⟩, by simp [intOf]; omega⟩
                  · rw [hx.1]; exact hrow
                  · rw [hx.2]; exact hTi
                | true =>
                  cases hc2 : D.contains (p : Int) with
                  | false =>
                    have hx := hno1.out (fun h => by have := h.1; simp [this] at hc2)
                    rw [hc2] at qT
                    replace hc1 := Lib.hid hc1
                    replace hc2 := Lib.hid hc2
                    go_wp2_with fail
                    refine ⟨⟨p + 1, A, c, by omega, by go_num, by rw [hx.1], ?_, ?_, hfr⟩, by simp [intOf]; omega⟩
                    · rw [hx.1]; exact hrow
                    · rw [hx.2]; exact hTi
                  | true =>
                    have hx := hyes.out (hmem2 hc2) (hmem hc1)
                    have hx2 := hput.out (hmem hc1)
                    rw [hc2] at qT
                    replace hc1 := Lib.hid hc1
                    replace hc2 := Lib.hid hc2
                    have hTlt := hT.lt
                    have hrow2 : (wr.setCell ⟨T, p, none⟩ (.bool true)).ownsRow w.heap.size 3 1 (.slice A mp.length c) mp.length (mp.flatMap encI) := ownsRow_setCell_below hrow hTlt _
                    have hT2 := blk_eq (hTi.set_same p (.bool true)) hx2
                    have hfr2 := hfr.set T p (.inl rfl) (.bool true)
                    have hsz2 : (wr.setCell ⟨T, p, none⟩ (.bool true)).heap.size = wr.heap.size := by simp
                    replace hx := Lib.hid hx
                    replace hsz2 := Lib.hid hsz2
                    go_wp2_with (refine wpList_append_srcT rfl _ _ 37 rfl w.heap.size 3 j0 _ 1 8 Try.underlying37 hj0 hjz hj1 hj2 rfl (by omega) (.slice A mp.length c) mp.length _ rfl (hrow2.alloc _) (some ⟨wr.heap.size, 0, none⟩) 1 1 (encI (p : Int)) rfl (by have := src_new (wr.setCell ⟨T, p, none⟩ (.bool true)) (encI (p : Int)) 3 1 1 rfl; rw [hsz2.out] at this; exact this) (encI_one _) (by simp only [maxLen]; omega) (by omega) (by simp; omega) ?_; intro A9 c9 w9 hown9 hg9)
                    have hne : some T ≠ (Value.slice A mp.length c).ownBlock := fun e => by have := ownsRow_base hrow e.symm; omega
                    refine ⟨⟨p + 1, A9, c9, by omega, by go_num, ?_, ?_, (hT2.alloc _).grown hg9 hne, ?_⟩, by simp [intOf]; omega⟩
                    · rw [hx.out]; simp
                    · rw [hx.out, List.flatMap_append, List.length_append]; simpa using hown9
                    · exact (hfr2.alloc _).tr' (FrX.of_grown (S := fun b => (Value.slice A mp.length c).ownBlock = some b) hg9 fun g e => .inl e) fun b e => .inr (ownsRow_base hrow e)
          · obtain rfl : p = parts := by omega
            rw [hma.out.1] at hrow ⊢
            rw [hma.out.2] at hTi
            go_wp2_with fail
            go_ret
            exact ⟨A, c, rfl, hrow, hTi, hfr⟩
      · have hmd : (m0.toList == s.toList) = false := by rw [str_eq]; simp [hm]
        replace hne := Lib.hid (hne hm)
        replace hm := Lib.hid hm
        replace hf := Lib.hid hf
        clear heq
        go_wp2_with fail
        exact ⟨⟨k + 1, by omega, by go_num, hne.out, trivial⟩, by simp [intOf]; omega⟩
    · obtain rfl : k = old.length := by omega
      have hf0 : f = [] := by rw [← hf]; exact had_none fun j hj => hno j hj hj
      have e1 : l = [] := by rw [← hl.out, hf0]; simp
      have e2 : D' = D := by rw [← hD'.out, hf0]; simp
      subst e1 e2
      replace hno := Lib.hid hno
      replace hf := Lib.hid hf
      replace hf0 := Lib.hid hf0
      go_wp2_with fail
      go_ret
      exact ⟨none, 0, rfl, World.ownsRow_nil _ _ _ _, hT, FrX.refl _ _⟩
end Go.Proofs.Ytbjjhnlifgbpmaa
/- The document's Sticky: what it keeps in memory while it deals. -/
namespace Go.Proofs.Ytbjjhnlifgbpmaa
open Go.RowKit Go.Shelf

theorem leftL_sub : ∀ (fs : List (List Int)) (D : List Int), (leftL D fs).Sublist D
  | [], D => List.Sublist.refl D
  | f :: fs, D => (leftL_sub fs _).trans List.filter_sublist
theorem hads_get : ∀ (fs : List (List Int)) (D : List Int) (i : Nat) (hi : i < fs.length), (hadsL D fs).getD i [] = (leftL D (fs.take i)).filter fun p => fs[i].contains p
  | f :: fs, D, 0, _ => by simp [hadsL, leftL]
  | f :: fs, D, i + 1, hi => by
    have := hads_get fs (D.filter fun p => !f.contains p) i (by simpa using hi)
    simpa [hadsL, leftL] using this
theorem hads_take_succ (fs : List (List Int)) (D : List Int) (i : Nat) (hi : i < fs.length) : hadsL D (fs.take (i + 1)) = hadsL D (fs.take i) ++ [(hadsL D fs).getD i []] ∧ leftL D (fs.take (i + 1)) = (leftL D (fs.take i)).filter fun p => !fs[i].contains p := by
  rw [List.take_succ_eq_append_getElem hi, hadsL_snoc, leftL_snoc, hads_get fs D i hi]
  exact ⟨rfl, rfl⟩

structure DeA (w : World) (D N2 : Nat) (AO : Option Addr) (cO : Nat) (own : List Int) (parts : Nat) (Dl : List Int) (Aa : Option Addr) (ca : Nat) (rows : List Rw3) : Prop where
  o : OwnAt w (D + 1 + 1) D (.slice none 0 0) AO cO own
  t : Blk w (D + 1) (tkL parts Dl)
  a : w.ownsRow N2 37 1 (.slice Aa rows.length ca) rows.length (rows.flatMap rwL)
  r : ∀ x ∈ rows, w.ownsRow N2 3 1 x.v x.l.length (x.l.flatMap encI)
  lt : D + 1 + 1 ≤ N2
  ob : ∀ g, AO.map (·.block) = some g → g < N2
  sz : N2 ≤ w.heap.size
section
variable {w w' : World} {D N2 : Nat} {AO : Option Addr} {cO : Nat} {own : List Int} {parts : Nat} {Dl : List Int} {Aa : Option Addr} {ca : Nat} {rows : List Rw3}
theorem DeA.below (h : DeA w D N2 AO cO own parts Dl Aa ca rows) (hb : Below w.heap.size w w') : DeA w' D N2 AO cO own parts Dl Aa ca rows :=
  ⟨h.o.below hb, h.t.below hb h.t.lt, ownsRow_below h.a hb, fun x hx => ownsRow_below (h.r x hx) hb, h.lt, h.ob, Nat.le_trans h.sz hb.size⟩
theorem DeA.drew (h : DeA w D N2 AO cO own parts Dl Aa ca rows) : DeA w.drew D N2 AO cO own parts Dl Aa ca rows := h.below (bl_drew (Below.refl _ _))
theorem DeA.obge (h : DeA w D N2 AO cO own parts Dl Aa ca rows) {g : Nat} (hg : AO.map (·.block) = some g) : D + 1 + 1 ≤ g :=
  ownsRow_base h.o.row (by cases AO with | none => cases hg | some a => simpa [Value.ownBlock] using hg)
theorem DeA.owns (h : DeA w D N2 AO cO own parts Dl Aa ca rows) {own' : List Int} (ho : OwnAt w' (D + 1 + 1) D (.slice none 0 0) AO cO own') (hf : FrX (fun b => AO.map (·.block) = some b) w w') : DeA w' D N2 AO cO own' parts Dl Aa ca rows :=
  ⟨ho, hf.blk h.t (fun e => by have := h.obge e; omega), hf.own h.a (fun g hg e => by have := h.ob g e; have := ownsRow_base h.a hg; omega), fun x hx => hf.own (h.r x hx) (fun g hg e => by have := h.ob g e; have := ownsRow_base (h.r x hx) hg; omega), h.lt, h.ob, Nat.le_trans h.sz hf.size⟩
/-- A partition is written down. -/
theorem DeA.put (h : DeA w D N2 AO cO own parts Dl Aa ca rows) {g p : Nat} (hA : AO = some ⟨g, 0, none⟩) (v : Int) : DeA (w.setCell ⟨g, p, none⟩ (.int .i64 v)) D N2 AO cO (own.set p v) parts Dl Aa ca rows := by
  subst hA
  have hst := h.o.row.stored p (.int .i64 v)
  have hset : (own.flatMap encI).set p (.int .i64 v) = (own.set p v).flatMap encI := by rw [encI_map, encI_map, List.map_set]
  rw [hset] at hst
  have hb := h.o.box.set_ne (a := ⟨g, p, none⟩) (by have := h.obge (g := g) rfl; simp; omega) (.int .i64 v)
  exact h.owns ⟨by simpa using hb, by simpa using hst.1, h.o.lt, by simpa using h.o.ls⟩ (FrX.of_grown hst.2 fun g' e => by cases e; exact .inl rfl)
/-- What a name had is told, and put down. -/
theorem DeA.had (h : DeA w D N2 AO cO own parts Dl Aa ca rows) {Dl' : List Int} (ht : Blk w' (D + 1) (tkL parts Dl')) (hf : FrX (fun b => b = D + 1) w w') : DeA w' D N2 AO cO own parts Dl' Aa ca rows :=
  ⟨⟨hf.blk h.o.box (by omega), hf.own h.o.row (fun g hg e => by have := ownsRow_base h.o.row hg; omega), h.o.lt, Nat.le_trans h.o.ls hf.size⟩, ht, hf.own h.a (fun g hg e => by have := ownsRow_base h.a hg; have := h.lt; omega),
    fun x hx => hf.own (h.r x hx) (fun g hg e => by have := ownsRow_base (h.r x hx) hg; have := h.lt; omega), h.lt, h.ob, Nat.le_trans h.sz hf.size⟩
/-- A row more. -/
theorem DeA.more (h : DeA w D N2 AO cO own parts Dl Aa ca rows) {o : Obj} {Aa' : Option Addr} {ca' : Nat} {x : Rw3} (hx : w.ownsRow N2 3 1 x.v x.l.length (x.l.flatMap encI)) (hg : (w.alloc o).grownBy w' (Value.slice Aa rows.length ca).ownBlock)
    (ha : w'.ownsRow N2 37 1 (.slice Aa' (rows.length + 1) ca') (rows.length + 1) (rows.flatMap rwL ++ rwL x)) : DeA w' D N2 AO cO own parts Dl Aa' ca' (rows ++ [x]) := by
  have hlow : ∀ b, b < N2 → some b ≠ (Value.slice Aa rows.length ca).ownBlock := fun b hb e => by have := ownsRow_base h.a e.symm; omega
  refine ⟨⟨(h.o.box.alloc o).grown hg (hlow _ (by have := h.lt; omega)), ownsRow_type (h.o.row.alloc o) (h.a.alloc o) (by decide) hg, h.o.lt, Nat.le_trans h.o.ls (Nat.le_trans (by simp) hg.size)⟩, (h.t.alloc o).grown hg (hlow _ (by have := h.lt; omega)), ?_, ?_, h.lt, h.ob, Nat.le_trans h.sz (Nat.le_trans (by simp) hg.size)⟩
  · rw [List.flatMap_append, List.length_append]; simpa using ha
  · intro y hy
    rcases List.mem_append.1 hy with hy | hy
    · exact ownsRow_type ((h.r y hy).alloc o) (h.a.alloc o) (by decide) hg
    · rw [List.mem_singleton] at hy; subst hy; exact ownsRow_type (hx.alloc o) (h.a.alloc o) (by decide) hg
end
end Go.Proofs.Ytbjjhnlifgbpmaa
