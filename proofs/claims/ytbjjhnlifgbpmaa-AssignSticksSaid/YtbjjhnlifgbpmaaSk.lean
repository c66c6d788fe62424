/- assign.Sticky (14). -/
import Derived.Test.YtbjjhnlifgbpmaaBw
import Derived.Test.YtbjjhnlifgbpmaaNm
import Derived.Test.YtbjjhnlifgbpmaaSa
import Derived.Test.YtbjjhnlifgbpmaaMb
import Derived.Test.YtbjjhnlifgbpmaaPh
import Derived.Laws.MakeOwn
namespace Go.Proofs.Ytbjjhnlifgbpmaa
open Go.RowKit Go.Shelf
attribute [local go_sem] Oper.semAt_some

theorem made_flat {α : Type} {enc : α → List Value} {k : Nat} (hk : ∀ x, (enc x).length = k) (hpos : 0 < k) (x : α) (zc : Array Value) (hz : zc.toList = enc x) (n : Nat) : (madeCells zc (n * k)).toList = (List.replicate n x).flatMap enc := by
  have hzs : zc.size = k := by rw [← Array.length_toList, hz, hk]
  apply List.ext_getElem
  · simp [madeCells, flat_length hk]
  · intro j h1 h2
    have hj : j < n * k := by simpa [madeCells] using h1
    have hd : j / k < n := (Nat.div_lt_iff_lt_mul hpos).2 hj
    have he : j / k * k + j % k = j := by rw [Nat.mul_comm]; exact Nat.div_add_mod j k
    have hm : j % k < k := Nat.mod_lt _ hpos
    have hr := flat_get hk (List.replicate n x) (j / k) (by simpa using hd) (j % k) hm
    rw [he, List.getElem?_eq_getElem h2, List.getElem_replicate] at hr
    simp only [madeCells, Array.getElem_toList, Array.getElem_map, Array.getElem_range, hzs]
    have h3 : (enc x)[j % k]? = some zc[j % k]! := by
      rw [← hz, Array.getElem?_toList, getElem!_pos zc (j % k) (by omega), Array.getElem?_eq_getElem (by omega)]
    rw [h3] at hr
    exact (Option.some.inj hr).symm

theorem wpListIn_mapUpdate_sm {α : Type} {F : Fence} {nF : Nat} {P : Program} {w : World} {K e : TypeId} {m : List (ByteArray × α)} {enc : α → Value} {ops : Array Oper} {rest : List Oper} {o : Oper} {a : Act} {Q : Exit → Act → World → Prop} (hg : o.guard = none) (x y v : Operand) (t : TypeId) (hop : o.op = Op.mapUpdate t x y v)
    (hK : P.underlying K = some .string) (ht : P.underlying t = some (.map K e)) (b n : Nat) (hx : a.eval x = .map (some b)) (h : SM P K w b n enc m) (hn : n < maxLen) (k : ByteArray) (hy : a.eval y = .string k) (hk : k.size ≤ maxLen) (u : α) (hv : a.eval v = enc u)
    (hK' : ∀ w', SM P K w' b (n + 1) enc (putS m k u) → w.grownBy w' (some b) → wpListIn F nF P ops Q rest (a.put o.dst undef) w') : wpListIn F nF P ops Q (o :: rest) a w := by
  refine wpListIn_plain hg fun K' hKK => ?_
  obtain ⟨w', hrun, r1, r2⟩ := h.store hK ht hn hk u
  unfold Oper.wpIn
  refine ⟨by simp [Oper.about, hop], ?_⟩
  rw [Oper.semAt_plain F _ _ (by rw [hop]; intro c hc'; cases hc')]
  simp [execOp, hop, hx, hy, hv, hrun, Result.andThen]
  exact hKK _ _ (hK' w' r1 r2.grown)

theorem mem_insS {α : Type} {x y : ByteArray × α} : ∀ {l : List (ByteArray × α)}, y ∈ insS x l → y = x ∨ y ∈ l
  | [], h => by simp [insS] at h; exact .inl h
  | z :: l, h => by
    unfold insS at h
    split at h
    · rcases List.mem_cons.1 h with e | e
      · exact .inl e
      · exact .inr e
    · rcases List.mem_cons.1 h with e | e
      · exact .inr (by rw [e]; exact List.mem_cons_self ..)
      · rcases mem_insS e with e | e
        · exact .inl e
        · exact .inr (List.mem_cons_of_mem _ e)
theorem mem_putS {α : Type} {m : List (ByteArray × α)} {k : ByteArray} {v : α} {y : ByteArray × α} (h : y ∈ putS m k v) : y = (k, v) ∨ y ∈ m := by
  rcases mem_insS h with e | e
  · exact .inl e
  · exact .inr (List.mem_filter.1 e).1
theorem fmL_mem (ds : List Ou) (y : ByteArray × Rw3) : ∀ pre : List Nat, y ∈ pre.reverse.foldr (fun j m => putS m (ds.getD j default).m (ds.getD j default).r) [] → ∃ j ∈ pre, y = ((ds.getD j default).m, (ds.getD j default).r) := by
  intro pre h
  have key : ∀ l : List Nat, y ∈ l.foldr (fun j m => putS m (ds.getD j default).m (ds.getD j default).r) [] → ∃ j ∈ l, y = ((ds.getD j default).m, (ds.getD j default).r) := by
    intro l
    induction l with
    | nil => intro h; simp at h
    | cons a l ih =>
      intro h
      simp only [List.foldr_cons] at h
      rcases mem_putS h with e | e
      · exact ⟨a, List.mem_cons_self .., e⟩
      · obtain ⟨j, hj, e⟩ := ih e; exact ⟨j, List.mem_cons_of_mem _ hj, e⟩
  obtain ⟨j, hj, e⟩ := key _ h
  exact ⟨j, List.mem_reverse.1 hj, e⟩
theorem fmL_in {ds : List Ou} {y : ByteArray × Rw3} (h : y ∈ fmL ds (bk ds.length)) : ∃ o ∈ ds, y = (o.m, o.r) := by
  obtain ⟨j, hj, e⟩ := fmL_mem ds y (bk ds.length) (by rw [List.foldr_reverse]; exact h)
  have hj' : j < ds.length := by simpa [bk] using hj
  rw [getD_get _ _ hj'] at e
  exact ⟨_, List.getElem_mem hj', e⟩

theorem wp_alloc3 {o : Oper} {a : Act} {w : World} {K : Act → World → Prop} {Q : Exit → Act → World → Prop} (ho : o.op = .alloc 3) (dt : Nat) (hd : o.dst = some dt)
    (h : K { a with tmps := a.tmps.setIfInBounds dt (.pointer (some ⟨w.heap.size, 0, none⟩)) } (w.alloc (.cells #[.int .i64 0] 3))) : o.wp Try.prog a w K Q := by
  unfold Oper.wp execOp
  have e : (Instr.alloc 3 true (.tuple #[])).run Try.prog w = .ok (.pointer (some ⟨w.heap.size, 0, none⟩)) (w.alloc (.cells #[.int .i64 0] 3)) := by
    simp only [Instr.alloc, Sem.run_bind, Try.zeroValue3, Result.andThen_ok]
    rfl
  simp only [ho, Sem.run_bind, e, Result.andThen_ok]
  simp only [Oper.upon, Act.put, hd]
  exact h
theorem anyH_two {P : Program} {md : Region.Mode} {ops : Array Oper} {Q : Exit → Act → World → Prop} {S : World → Prop} {i j n : Nat} {dn : Array Bool} {oi oj : Oper} {a : Act} {w : World} (hr : Region.ready md ops dn = [i, j]) (hi : ops[i]? = some oi) (hj : ops[j]? = some oj)
    (wi : Region.wanted oi (yielded ops a.tmps) = true) (wj : Region.wanted oj (yielded ops a.tmps) = true)
    (h1 : oi.wp P a w (fun a' w' => S w' ∧ wpAnyH P md ops Q S n (dn.setIfInBounds i true) a' w') Q) (h2 : oj.wp P a w (fun a' w' => S w' ∧ wpAnyH P md ops Q S n (dn.setIfInBounds j true) a' w') Q) : wpAnyH P md ops Q S (n + 1) dn a w :=
  wpAnyH_all hr (by simp) fun k hk => by
    simp only [List.mem_cons, List.not_mem_nil, or_false] at hk
    rcases hk with rfl | rfl
    · unfold wpOp; simp only [hi]; rw [if_pos wi]; exact .inl h1
    · unfold wpOp; simp only [hj]; rw [if_pos wj]; exact .inl h2

/-- What is held while the old shares are gone through. -/
def FRel (w W0 : World) (mb : Nat) (old : List Ou) (pre : List Nat) (W : World) : Prop :=
  SM Try.prog 9 W mb pre.length Rw3.v (fmL old pre) ∧ KB W0.heap.size mb mb W0 W ∧ Below w.heap.size w W

set_option maxRecDepth 100000 in
set_option maxHeartbeats 8000000 in
theorem sticky_ok (A Am : Option Addr) (c cm : Nat) (old : List Ou) (ml : List ByteArray) (parts : Nat) (w : World) (hold : LAt w A 2 ouL old) (hparts : ∀ o ∈ old, LAt w o.r.A 1 encI o.r.l) (hm : LAt w Am 1 encS ml) (hml : ml.length * 16 ≤ 140737488351232) (hol : old.length ≤ 3518437208783)
    (hok : ∀ o ∈ old, o.m.size ≤ 140737488351232 ∧ o.r.l.length * 8 ≤ 140737488351232) (S : List ByteArray) (hS : sortS ml = S) (hk : ∀ s ∈ S, s.size ≤ 140737488351232) (hN : okN S (parts : Int) = true) (hne : S ≠ []) :
    Calls Try.prog 14 #[.slice A old.length c, .slice Am ml.length cm, .int .i64 (parts : Nat)] w fun e w' => ∃ (O : Nat) (outs : List Ou), e = .returned (.tuple #[.slice (some ⟨O, 0, none⟩) S.length S.length, .int .i64 0]) ∧ Mem w' w.heap.size [(O, outs.flatMap ouL)] (outs.map (·.r)) ∧ outs.map Ou.m = S ∧
      (∀ j, j < S.length → (outs.getD j default).r.l = ofL (own4 parts S.length (fpsOf (fmL old (bk old.length)) S)) j) ∧ Below w.heap.size w w' := by
  have hmm := @run_makeMap Try.prog
  obtain ⟨n, hn⟩ : ∃ n, S.length = n := ⟨_, rfl⟩
  have hn0 : 0 < n := by rw [← hn]; cases S with | nil => exact absurd rfl hne | cons x r => simp
  refine (callsIn_wide (n := 8)).1 ?_
  refine callsIn_of_wp_marks Try.func14 rfl trivial ?_ rfl
  refine wpIn_wide.2 ?_
  simp only [Try.ntmps14, List.size_toArray, List.length_cons, List.length_nil, Nat.reduceAdd, Nat.reduceSub, Array.replicate_succ, Array.replicate_zero, List.push_toArray, List.append_toArray, List.nil_append, List.cons_append]
  go_wp2_with fail
  have hnm := names_any Am cm ml (parts : Int) w hm hml S hS hk
  rw [hN, hn] at hnm
  refine hnm.mono ?_
  rintro e w1 ⟨Al, cl, rfl, hrow, hb1⟩
  clear hnm
  have hz1 : ((n : Int) == 0) = false := by rw [beq_eq_false_iff_ne]; omega
  replace hS := Lib.hid hS
  replace hk := Lib.hid hk
  replace hok := Lib.hid hok
  replace hparts := Lib.hid hparts
  replace hold := Lib.hid hold
  replace hN := Lib.hid hN
  go_wp2_with fail
  refine (backward_any _ A old.length c rfl _).mono ?_
  rintro e w3 ⟨rfl, rfl⟩
  go_wp2_with fail
  obtain ⟨W0, hW0⟩ : ∃ W0, ((((w1.alloc (.cells #[.slice Al n cl] 22)).alloc (.map #[] 0)).alloc (.cells #[.map (some (w1.heap.size + 1))] 50)).alloc (.cells #[.slice A old.length c] 23)) = W0 := ⟨_, rfl⟩
  have hB0 : Below w1.heap.size w1 W0 := by rw [← hW0]; exact bl_alloc (bl_alloc (bl_alloc (bl_alloc (Below.refl _ _) _) _) _) _
  have hz0 : W0.heap.size = w1.heap.size + 4 := by rw [← hW0]; simp
  have hbl0 : Blk W0 w1.heap.size [.slice Al n cl] := by rw [← hW0]; exact (((Blk.new' _ _ rfl).alloc _).alloc _).alloc _
  have hbm0 : Blk W0 (w1.heap.size + 1 + 1) [.map (some (w1.heap.size + 1))] := by rw [← hW0]; exact (Blk.new' _ _ (by simp)).alloc _
  have hBs0 : Blk W0 (w1.heap.size + 1 + 1 + 1) [.slice A old.length c] := by rw [← hW0]; exact Blk.new' _ _ (by simp)
  have hSM0 : SM Try.prog 9 W0 (w1.heap.size + 1) 0 Rw3.v (fmL old []) := by
    rw [← hW0]
    have := SM.made (w1.alloc (.cells #[.slice Al n cl] 22)) Try.prog 9 Rw3.v
    rw [show (w1.alloc (.cells #[.slice Al n cl] 22)).heap.size = w1.heap.size + 1 from by simp] at this
    exact (this.alloc _).alloc _
  have hs1 := hb1.size
  have hbw0 : Below w.heap.size w W0 := hb1.trans (hB0.mono hs1)
  have hold0 := hold.out.below hbw0
  have hbelo := hold.out.bel
  rw [hW0]
  refine (wpIn_wide (n := 8)).1 ?_
  refine wpIn_rangeFunc_ownH rfl (by omega) (gf := 44) (lb := #[.pointer (some ⟨w1.heap.size + 1 + 1 + 1, 0, none⟩)]) rfl trivial (enters_of Try.func44 (by kernel_rfl) rfl)
    (back_stops Fence.wide 7 trivial rfl (by omega) (w1.heap.size + 1 + 1 + 1) w.heap.size W0.heap.size (w1.heap.size + 1) A c old W0 hBs0 hold0 hbelo (by omega) (by omega) (by omega)) KB.tr (fun W l _ o' hl _ _ _ => KB.put W l o' hl) (Below.refl _ _) (fun _ => rfl)
    (FRel w W0 (w1.heap.size + 1) old) (fun _ _ _ => False)
    (fun pre A B row hs hg hr => by
      obtain ⟨h1, h2, h3⟩ := hs
      have hne : ∀ b, b < W0.heap.size → some b ≠ row := fun b hb e => by have := (hr b e.symm).1; omega
      exact ⟨h1.grown hg (hne _ (by omega)), ⟨Nat.le_trans h2.1 hg.size, fun b hb h4 h5 => (hg.block b (Nat.lt_of_lt_of_le hb h2.1) (hne b hb)).trans (h2.2 b hb h4 h5)⟩, h3.grown hg (Nat.le_trans h3.size (Nat.le_refl _) |> fun h => Nat.le_trans (by omega) h) (fun k e => by have := (hr k e).1; omega)⟩)
    (fun _ _ _ _ _ hs _ _ => hs.elim)
    ⟨hSM0, KB.refl _, hbw0⟩
    (fun x a' W => ∃ Bx, W0.heap.size ≤ Bx ∧ Blk W Bx [.string (old.getD x default).m, (old.getD x default).r.v] ∧ a' = { tmps := #[.slice A old.length c, .slice Am ml.length cm, .int .i64 (parts : Nat), undef, undef, undef, .slice none 0 0, .int .i64 0, .pointer (some ⟨w1.heap.size, 0, none⟩), .bool true, .pointer (some ⟨w1.heap.size + 1 + 1, 0, none⟩), undef, .pointer (some ⟨Bx, 0, none⟩), undef, undef, undef, undef, undef, undef, undef, undef, undef, undef, undef, undef, undef, undef, .tuple #[.slice Al n cl, .bool true], .slice Am ml.length cm, .int .i64 (parts : Nat), .tuple #[.slice Al n cl, .bool true], .slice Al n cl, .bool true, .bool false, .bool true, .bool false, .bool false, .slice Al n cl, .int .i64 (n : Nat), .bool false, .map (some (w1.heap.size + 1)), .slice A old.length c, .func (.func 44) #[] #[.pointer (some ⟨w1.heap.size + 1 + 1 + 1, 0, none⟩)], .int .i64 (x : Nat), shV (old.getD x default), undef, undef, undef, undef, undef, undef, undef, undef, undef, undef, undef, undef, undef, undef, undef, undef, undef, undef, undef, undef, undef, undef, undef, undef, undef, undef, undef, undef, undef, undef, undef, undef, undef, undef, undef, undef, undef, undef, undef, undef, undef, undef, undef, undef, undef, undef, undef, undef, undef, undef, undef, undef, undef, undef, undef, undef], defers := [] })
    (fun x a' _ A B row hs hg hr => by obtain ⟨Bx, h1, h2, h3⟩ := hs; exact ⟨Bx, h1, h2.grown hg (by rintro e; obtain ⟨_, o, ho, hc⟩ := hr _ e.symm; exact h2.ne_other ho hc rfl), h3⟩)
    ?assign0 ?body0 ?done0 ?stop0
  case stop0 => rintro D cc pre W hD _ h; exact h.elim
  case assign0 =>
    rintro l1 pre x W K hr hK
    generalize old.getD x default = ou at *
    obtain ⟨om, oA, oc, ol⟩ := ou
    simp only [shV, Rw3.v]
    gi_wp2
    obtain ⟨h1, h2, h3⟩ := hr
    exact hK _ _ ((KeepsOthers.alloc _ _).from _) (KB.alloc _ _ h2.1) ⟨h1.alloc _, h2.tr (KB.alloc _ _ h2.1), bl_alloc h3 _⟩ ⟨W.heap.size, h2.1, Blk.new' _ _ rfl, rfl⟩
  case body0 =>
    rintro l1 pre x a' W hl1 hrec ⟨h1, h2, h3⟩ ⟨Bx, hBx, bX, rfl⟩ hlt
    have hsn := Lib.hid (fmL_snoc old pre x)
    have hxk : (old.getD x default).m.size ≤ maxLen := by
      have hd : ∀ j, (old.getD j default).m.size ≤ 140737488351232 := fun j => by
        by_cases hj : j < old.length
        · rw [getD_get _ _ hj]; exact (hok.out _ (List.getElem_mem _)).1
        · rw [List.getD_eq_getElem?_getD, List.getElem?_eq_none (by omega)]; decide
      have := hd x
      simp only [maxLen]; omega
    generalize old.getD x default = ou at *
    obtain ⟨om, oA, oc, ol⟩ := ou
    simp only [shV, Rw3.v] at bX hsn hxk ⊢
    have hbmW : Blk W (w1.heap.size + 1 + 1) [.map (some (w1.heap.size + 1))] := hbm0.of_heap (h2.2 _ (by omega) (by omega) (by omega))
    have qm := hbmW.cell
    have eX := bX.cell
    have hWs := h2.1
    have hpl : pre.length < maxLen := by simp only [maxLen]; omega
    gi_wp2_with (refine wpListIn_mapUpdate_sm (enc := Rw3.v) rfl _ _ _ 50 rfl Try.underlying9 Try.underlying50 (w1.heap.size + 1) pre.length rfl h1 hpl om rfl hxk ⟨oA, oc, ol⟩ rfl ?nx; case' nx => intro w2 hM2 hg2)
    have hne : ∀ b, b ≠ w1.heap.size + 1 → b < W.heap.size → w2.heap[b]? = W.heap[b]? := fun b hb hlt => hg2.block b hlt (by simpa using hb)
    refine ⟨?_, ⟨hg2.size, fun b hb h4 _ => hne b h4 (by omega)⟩, ?_, ?_, ?_⟩
    · exact KeepsFrom.of_grownBy hg2 (fun j e => by cases e; omega)
    · rw [hsn.out, List.length_append]; exact hM2
    · exact h2.tr ⟨hg2.size, fun b hb h4 _ => hne b h4 (by omega)⟩
    · exact h3.grown hg2 (by have := h3.size; omega) (fun k e => by cases e; omega)
  case done0 =>
    rintro D ys W hDl rfl ⟨h1, h2, h3⟩ hK
    have hblW : Blk W w1.heap.size [.slice Al n cl] := hbl0.of_heap (h2.2 _ (by omega) (by omega) (by omega))
    have hbmW : Blk W (w1.heap.size + 1 + 1) [.map (some (w1.heap.size + 1))] := hbm0.of_heap (h2.2 _ (by omega) (by omega) (by omega))
    have hW0s := h2.1
    have hnamesW : LAt W Al 1 encS S := by
      have := LAt.of_own encS_len (show w1.ownsRow w.heap.size 9 1 (.slice Al S.length cl) S.length (S.flatMap encS) from hn ▸ hrow) rfl
      exact (this.below hB0).keep (n₀ := w1.heap.size) this.bel h2.1 (fun b hb => h2.2 b (by omega) (by omega) (by omega))
    have hnb : LBel W.heap.size Al S := fun hne => by
      obtain ⟨b, o, e, hb⟩ := (LAt.of_own encS_len (show w1.ownsRow w.heap.size 9 1 (.slice Al S.length cl) S.length (S.flatMap encS) from hn ▸ hrow) rfl).bel hne
      exact ⟨b, o, e, by omega⟩
    have q0 := hblW.cell
    have hn' : ¬ n = 0 := by omega
    have l0 := hblW.lt
    clear hB0 hbl0 hbm0 hBs0 hSM0 hbelo hold0 hW0 hmm
    have hq1 : wrap64 ((parts : Int) / (n : Int)) = ((parts / n : Nat) : Int) := by
      have hp32 : parts ≤ 32 := by have := hN.out; simp [okN] at this; omega
      have : parts / n ≤ 32 := Nat.le_trans (Nat.div_le_self _ _) hp32
      rw [← Int.natCast_ediv]; generalize parts / n = q at *; unfold wrap64; omega
    have hq2 : ((parts : Int) % (n : Int)) = ((parts % n : Nat) : Int) := by omega
    replace hq1 := Lib.hid hq1
    replace hq2 := Lib.hid hq2
    obtain ⟨bs, hbs⟩ : ∃ bs, parts / n = bs := ⟨_, rfl⟩
    obtain ⟨rs, hrs⟩ : ∃ rs, parts % n = rs := ⟨_, rfl⟩
    rw [hbs] at hq1
    rw [hrs] at hq2
    replace hbs := Lib.hid hbs
    replace hrs := Lib.hid hrs
    have hqb : IntKind.i64.wrap ((parts : Int) / (n : Int)) = (bs : Int) := by
      exact (IntWalk.i64_left _).trans hq1.out
    have hqr : ((parts : Int).tmod (n : Int)) = (rs : Int) := by rw [Int.tmod_eq_emod_of_nonneg (by omega)]; exact hq2.out
    replace hqb := Lib.hid hqb
    replace hqr := Lib.hid hqr
    go_wp2_with fail
    go_cut [13, 14] from 50 to 57 (fun s13 s14 wx => ∃ a b, s13 = .pointer (some ⟨a, 0, none⟩) ∧ s14 = .pointer (some ⟨b, 0, none⟩) ∧ Blk wx a [.int .i64 (bs : Nat)] ∧ Blk wx b [.int .i64 (rs : Nat)] ∧ a ≠ b ∧ W.heap.size ≤ a ∧ W.heap.size ≤ b ∧ Below W.heap.size W wx)
    case first =>
      refine wpAnyH.region rfl (fun w' => w'.cell? ⟨w1.heap.size, 0, none⟩ = some (.slice Al n cl)) ?_
      obtain ⟨Y, hY⟩ : ∃ Y, W.drew = Y := ⟨_, rfl⟩
      have hS0 : Y.cell? ⟨w1.heap.size, 0, none⟩ = some (.slice Al n cl) := by rw [← hY]; exact q0 0
      have lY : w1.heap.size < Y.heap.size := by rw [← hY]; exact l0
      have bY : Below W.heap.size W Y := by rw [← hY]; exact bl_drw (Below.refl _ _)
      have hzY : Y.heap.size = W.heap.size := by rw [← hY]; rfl
      rw [hY]
      clear hY q0
      try simp only [List.setIfInBounds_toArray, List.set_cons_zero, List.set_cons_succ]
      refine wpAnyH.takeT (i := 0) (t := 50) (v := (.int .i64 (parts : Nat))) rfl rfl (by decide +kernel) (by decide +kernel) (by decide +kernel) (fun _ _ _ h => h.elim) (.inl ⟨rfl, fun w' hS => ?_⟩) hS0 ?_
      · go_simp
      try simp only [List.setIfInBounds_toArray, List.set_cons_zero, List.set_cons_succ]
      refine wpAnyH.takeT (i := 1) (t := 51) (v := (.slice Al n cl)) rfl rfl (by decide +kernel) (by decide +kernel) (by decide +kernel) (fun _ _ _ h => h.elim) (.inl ⟨rfl, fun w' hS => ?_⟩) hS0 ?_
      · have c0 := hS
        go_simp
      try simp only [List.setIfInBounds_toArray, List.set_cons_zero, List.set_cons_succ]
      refine wpAnyH.takeT (i := 2) (t := 52) (v := (.int .i64 (n : Nat))) rfl rfl (by decide +kernel) (by decide +kernel) (by decide +kernel) (fun _ _ _ h => h.elim) (.inl ⟨rfl, fun w' hS => ?_⟩) hS0 ?_
      · go_simp
      try simp only [List.setIfInBounds_toArray, List.set_cons_zero, List.set_cons_succ]
      refine wpAnyH.takeT (i := 3) (t := 53) (v := (.int .i64 (bs : Nat))) rfl rfl (by decide +kernel) (by decide +kernel) (by decide +kernel) (fun _ _ _ h => h.elim) (.inl ⟨rfl, fun w' hS => ?_⟩) hS0 ?_
      · have c0 := hqb.out
        go_simp
      try simp only [List.setIfInBounds_toArray, List.set_cons_zero, List.set_cons_succ]
      refine wpAnyH.takeT (i := 4) (t := 54) (v := (.int .i64 (parts : Nat))) rfl rfl (by decide +kernel) (by decide +kernel) (by decide +kernel) (fun _ _ _ h => h.elim) (.inl ⟨rfl, fun w' hS => ?_⟩) hS0 ?_
      · go_simp
      try simp only [List.setIfInBounds_toArray, List.set_cons_zero, List.set_cons_succ]
      refine wpAnyH.takeT (i := 5) (t := 55) (v := (.slice Al n cl)) rfl rfl (by decide +kernel) (by decide +kernel) (by decide +kernel) (fun _ _ _ h => h.elim) (.inl ⟨rfl, fun w' hS => ?_⟩) hS0 ?_
      · have c0 := hS
        go_simp
      try simp only [List.setIfInBounds_toArray, List.set_cons_zero, List.set_cons_succ]
      refine wpAnyH.takeT (i := 6) (t := 56) (v := (.int .i64 (n : Nat))) rfl rfl (by decide +kernel) (by decide +kernel) (by decide +kernel) (fun _ _ _ h => h.elim) (.inl ⟨rfl, fun w' hS => ?_⟩) hS0 ?_
      · go_simp
      try simp only [List.setIfInBounds_toArray, List.set_cons_zero, List.set_cons_succ]
      refine wpAnyH.takeT (i := 7) (t := 57) (v := (.int .i64 (rs : Nat))) rfl rfl (by decide +kernel) (by decide +kernel) (by decide +kernel) (fun _ _ _ h => h.elim) (.inl ⟨rfl, fun w' hS => ?_⟩) hS0 ?_
      · have c0 := hqr.out
        go_simp
      have hSb : ∀ w', Below Y.heap.size Y w' → w'.cell? ⟨w1.heap.size, 0, none⟩ = some (.slice Al n cl) := fun w' hb => (hb.cell (p := ⟨w1.heap.size, 0, none⟩) lY).trans hS0
      have bl : Below Y.heap.size Y Y := Below.refl _ _
      try simp only [List.setIfInBounds_toArray, List.set_cons_zero, List.set_cons_succ]
      refine anyH_two (i := 8) (j := 9) (by decide +kernel) rfl rfl rfl rfl ?_ ?_
      · refine wp_alloc3 rfl 13 rfl ?_
        have hz' : Y.heap.size = Y.heap.size := by simp
        rw [hz']
        have ba : Blk (Y.alloc (.cells #[.int .i64 0] 3)) (Y.heap.size) [.int .i64 0] := Blk.new' _ _ hz'.symm
        replace bl := bl_alloc bl (.cells #[.int .i64 0] 3)
        clear hz'
        refine ⟨hSb _ bl, ?_⟩
        try simp only [List.setIfInBounds_toArray, List.set_cons_zero, List.set_cons_succ]
        refine wpAnyH.one (i := 9) (by decide +kernel) rfl rfl ?_
        refine wp_alloc3 rfl 14 rfl ?_
        have hz' : (Y.alloc (.cells #[.int .i64 0] 3)).heap.size = Y.heap.size + 1 := by simp
        rw [hz']
        have bb : Blk ((Y.alloc (.cells #[.int .i64 0] 3)).alloc (.cells #[.int .i64 0] 3)) (Y.heap.size + 1) [.int .i64 0] := Blk.new' _ _ hz'.symm
        replace ba := ba.alloc (.cells #[.int .i64 0] 3)
        replace bl := bl_alloc bl (.cells #[.int .i64 0] 3)
        clear hz'
        refine ⟨hSb _ bl, ?_⟩
        try simp only [List.setIfInBounds_toArray, List.set_cons_zero, List.set_cons_succ]
        refine wpAnyH.one (i := 10) (by decide +kernel) rfl rfl ?_
        refine wp_store_one 3 (.tmp 13) (.tmp 53) rfl (b := Y.heap.size) (k := 0) (v := .int .i64 (bs : Nat)) rfl rfl rfl rfl (by kernel_rfl) (by rw [ba.cell]; rfl) (ba.unf _) ?_
        replace bb := bb.set_ne (a := ⟨Y.heap.size, 0, none⟩) (by dsimp only; omega) (.int .i64 (bs : Nat))
        replace ba := ba.set_same 0 (.int .i64 (bs : Nat))
        simp only [List.set_cons_zero] at ba
        replace bl := bl_set bl (p := ⟨Y.heap.size, 0, none⟩) (by dsimp only; omega) (.int .i64 (bs : Nat))
        refine ⟨hSb _ bl, ?_⟩
        try simp only [List.setIfInBounds_toArray, List.set_cons_zero, List.set_cons_succ]
        refine wpAnyH.one (i := 11) (by decide +kernel) rfl rfl ?_
        refine wp_store_one 3 (.tmp 14) (.tmp 57) rfl (b := Y.heap.size + 1) (k := 0) (v := .int .i64 (rs : Nat)) rfl rfl rfl rfl (by kernel_rfl) (by rw [bb.cell]; rfl) (bb.unf _) ?_
        replace ba := ba.set_ne (a := ⟨Y.heap.size + 1, 0, none⟩) (by dsimp only; omega) (.int .i64 (rs : Nat))
        replace bb := bb.set_same 0 (.int .i64 (rs : Nat))
        simp only [List.set_cons_zero] at bb
        replace bl := bl_set bl (p := ⟨Y.heap.size + 1, 0, none⟩) (by dsimp only; omega) (.int .i64 (rs : Nat))
        refine ⟨hSb _ bl, ?_⟩
        try simp only [List.setIfInBounds_toArray, List.set_cons_zero, List.set_cons_succ]
        refine wpAnyH_done (by decide +kernel) ?_ _
        refine NoPanic.normal ?_
        go_wp2_with fail
        go_meet
        exact ⟨Y.heap.size, Y.heap.size + 1, rfl, rfl, ba, bb, by omega, by omega, by omega, bY.trans (bl.mono (by omega))⟩
      · refine wp_alloc3 rfl 14 rfl ?_
        have hz' : Y.heap.size = Y.heap.size := by simp
        rw [hz']
        have bb : Blk (Y.alloc (.cells #[.int .i64 0] 3)) (Y.heap.size) [.int .i64 0] := Blk.new' _ _ hz'.symm
        replace bl := bl_alloc bl (.cells #[.int .i64 0] 3)
        clear hz'
        refine ⟨hSb _ bl, ?_⟩
        try simp only [List.setIfInBounds_toArray, List.set_cons_zero, List.set_cons_succ]
        refine wpAnyH.one (i := 8) (by decide +kernel) rfl rfl ?_
        refine wp_alloc3 rfl 13 rfl ?_
        have hz' : (Y.alloc (.cells #[.int .i64 0] 3)).heap.size = Y.heap.size + 1 := by simp
        rw [hz']
        have ba : Blk ((Y.alloc (.cells #[.int .i64 0] 3)).alloc (.cells #[.int .i64 0] 3)) (Y.heap.size + 1) [.int .i64 0] := Blk.new' _ _ hz'.symm
        replace bb := bb.alloc (.cells #[.int .i64 0] 3)
        replace bl := bl_alloc bl (.cells #[.int .i64 0] 3)
        clear hz'
        refine ⟨hSb _ bl, ?_⟩
        try simp only [List.setIfInBounds_toArray, List.set_cons_zero, List.set_cons_succ]
        refine wpAnyH.one (i := 10) (by decide +kernel) rfl rfl ?_
        refine wp_store_one 3 (.tmp 13) (.tmp 53) rfl (b := Y.heap.size + 1) (k := 0) (v := .int .i64 (bs : Nat)) rfl rfl rfl rfl (by kernel_rfl) (by rw [ba.cell]; rfl) (ba.unf _) ?_
        replace bb := bb.set_ne (a := ⟨Y.heap.size + 1, 0, none⟩) (by dsimp only; omega) (.int .i64 (bs : Nat))
        replace ba := ba.set_same 0 (.int .i64 (bs : Nat))
        simp only [List.set_cons_zero] at ba
        replace bl := bl_set bl (p := ⟨Y.heap.size + 1, 0, none⟩) (by dsimp only; omega) (.int .i64 (bs : Nat))
        refine ⟨hSb _ bl, ?_⟩
        try simp only [List.setIfInBounds_toArray, List.set_cons_zero, List.set_cons_succ]
        refine wpAnyH.one (i := 11) (by decide +kernel) rfl rfl ?_
        refine wp_store_one 3 (.tmp 14) (.tmp 57) rfl (b := Y.heap.size) (k := 0) (v := .int .i64 (rs : Nat)) rfl rfl rfl rfl (by kernel_rfl) (by rw [bb.cell]; rfl) (bb.unf _) ?_
        replace ba := ba.set_ne (a := ⟨Y.heap.size, 0, none⟩) (by dsimp only; omega) (.int .i64 (rs : Nat))
        replace bb := bb.set_same 0 (.int .i64 (rs : Nat))
        simp only [List.set_cons_zero] at bb
        replace bl := bl_set bl (p := ⟨Y.heap.size, 0, none⟩) (by dsimp only; omega) (.int .i64 (rs : Nat))
        refine ⟨hSb _ bl, ?_⟩
        try simp only [List.setIfInBounds_toArray, List.set_cons_zero, List.set_cons_succ]
        refine wpAnyH_done (by decide +kernel) ?_ _
        refine NoPanic.normal ?_
        go_wp2_with fail
        go_meet
        exact ⟨Y.heap.size + 1, Y.heap.size, rfl, rfl, ba, bb, by omega, by omega, by omega, bY.trans (bl.mono (by omega))⟩
    case rest =>
      obtain ⟨ab, ar, rfl, rfl, hXb, hXr, hgne, hga, hgr, hWX⟩ := hcut
      have hp32 : parts ≤ 32 := by have := hN.out; simp [okN] at this; omega
      have hn1000 : n ≤ 1000 := by have := hN.out; simp [okN] at this; omega
      have hM0 := mem_start hWX.size hXb hXr hga hgr hgne
      have hblX := hblW.below hWX hblW.lt
      clear hXb hXr q0 l0 hq1 hq2 hqb hqr
      go_wp2_with fail
      refine (whole_any parts hp32 wc).mono ?_
      rintro e wA ⟨A1, c1, rfl, D1, bA⟩
      have hM1 := hM0.addD bA D1
      clear hM0 D1
      go_wp2_with fail
      refine (whole_any parts hp32 wA).mono ?_
      rintro e wB ⟨A2, c2, rfl, D2, bB⟩
      have hM2 := hM1.addD bB D2
      have hblB := (hblX.below bA hblX.lt).below bB (Nat.lt_of_lt_of_le hblX.lt bA.size)
      have hWB : Below W.heap.size W wB := (hWX.trans (bA.mono hWX.size)).trans (bB.mono (Nat.le_trans hWX.size bA.size))
      have qB := hblB.cell
      have lB := hblB.lt
      have hmk1 : ∀ w : World, (Instr.makeSlice 56 (.int .i64 (n : Int)) (.int .i64 (n : Int))).run Try.prog w = .ok (.slice (some ⟨w.heap.size, 0, none⟩) n n) (w.alloc (.cells (madeCells #[.slice none 0 0] (n * 1)) 37)) := fun w => by
        obtain ⟨i0, hi0, hz0, hz1, hz2⟩ := info_parts (show (Try.prog.info? 37).map (fun i => (i.zero, i.size, i.bytes)) = some (some (.slice none 0 0), 1, 24) from by kernel_rfl)
        have h := run_make (P := Try.prog) w 56 37 i0 _ Try.underlying56 hi0 hz0 .i64 .i64 n n (by omega) (Int.le_refl _) (by rw [hz2]; omega) (by omega)
        rw [hz1] at h
        simpa only [Int.toNat_natCast, Value.cells] using h
      have hmk2 : ∀ w : World, (Instr.makeSlice 23 (.int .i64 (n : Int)) (.int .i64 (n : Int))).run Try.prog w = .ok (.slice (some ⟨w.heap.size, 0, none⟩) n n) (w.alloc (.cells (madeCells #[.string ⟨#[]⟩, .slice none 0 0] (n * 2)) 39)) := fun w => by
        obtain ⟨i0, hi0, hz0, hz1, hz2⟩ := info_parts (show (Try.prog.info? 39).map (fun i => (i.zero, i.size, i.bytes)) = some (some (.agg #[.string ⟨#[]⟩, .slice none 0 0]), 2, 40) from by kernel_rfl)
        have h := run_make (P := Try.prog) w 23 39 i0 _ Try.underlying23 hi0 hz0 .i64 .i64 n n (by omega) (Int.le_refl _) (by rw [hz2]; omega) (by omega)
        rw [hz1] at h
        simpa only [Int.toNat_natCast, Value.cells] using h
      clear hM1 D2
      rw [Nat.mul_one] at hmk1
      go_upto_region 12 with fail
      have hM5 := (hM2.addF #[.pointer (some ⟨wc.heap.size, 0, none⟩)] 54).addF #[.pointer (some ⟨wA.heap.size, 0, none⟩)] 54
      have hbl5 := (hblB.alloc (.cells #[.pointer (some ⟨wc.heap.size, 0, none⟩)] 54)).alloc (.cells #[.pointer (some ⟨wA.heap.size, 0, none⟩)] 54)
      have hW5 := bl_alloc (bl_alloc hWB (.cells #[.pointer (some ⟨wc.heap.size, 0, none⟩)] 54)) (.cells #[.pointer (some ⟨wA.heap.size, 0, none⟩)] 54)
      rw [show (wB.alloc (.cells #[.pointer (some ⟨wc.heap.size, 0, none⟩)] 54)).heap.size = wB.heap.size + 1 from by simp] at hM5
      clear hM2 hWB qB lB
      generalize ((wB.alloc (.cells #[.pointer (some ⟨wc.heap.size, 0, none⟩)] 54)).alloc (.cells #[.pointer (some ⟨wA.heap.size, 0, none⟩)] 54)) = w5 at *
      have q5 := hbl5.cell
      have l5 := hbl5.lt
      go_upto_region 13 with fail
      have hM7 := (hM5.addF (madeCells #[.slice none 0 0] n) 37).addF #[.slice (some ⟨w5.heap.size, 0, none⟩) n n] 56
      have hbl7 := (hbl5.alloc (.cells (madeCells #[.slice none 0 0] n) 37)).alloc (.cells #[.slice (some ⟨w5.heap.size, 0, none⟩) n n] 56)
      have hW7 := bl_alloc (bl_alloc hW5 (.cells (madeCells #[.slice none 0 0] n) 37)) (.cells #[.slice (some ⟨w5.heap.size, 0, none⟩) n n] 56)
      rw [show (w5.alloc (.cells (madeCells #[.slice none 0 0] n) 37)).heap.size = w5.heap.size + 1 from by simp] at hM7
      clear hM5 hW5 q5 l5
      generalize ((w5.alloc (.cells (madeCells #[.slice none 0 0] n) 37)).alloc (.cells #[.slice (some ⟨w5.heap.size, 0, none⟩) n n] 56)) = w7 at *
      have q7 := hbl7.cell
      have l7 := hbl7.lt
      go_upto_region 14 with fail
      have hM9 := (hM7.addF (madeCells #[.string ⟨#[]⟩, .slice none 0 0] (n * 2)) 39).addF #[.slice (some ⟨w7.heap.size, 0, none⟩) n n] 23
      have hbl9 := (hbl7.alloc (.cells (madeCells #[.string ⟨#[]⟩, .slice none 0 0] (n * 2)) 39)).alloc (.cells #[.slice (some ⟨w7.heap.size, 0, none⟩) n n] 23)
      have hW9 := bl_alloc (bl_alloc hW7 (.cells (madeCells #[.string ⟨#[]⟩, .slice none 0 0] (n * 2)) 39)) (.cells #[.slice (some ⟨w7.heap.size, 0, none⟩) n n] 23)
      rw [show (w7.alloc (.cells (madeCells #[.string ⟨#[]⟩, .slice none 0 0] (n * 2)) 39)).heap.size = w7.heap.size + 1 from by simp] at hM9
      clear hM7 hW7 q7 l7
      generalize ((w7.alloc (.cells (madeCells #[.string ⟨#[]⟩, .slice none 0 0] (n * 2)) 39)).alloc (.cells #[.slice (some ⟨w7.heap.size, 0, none⟩) n n] 23)) = w9 at *
      go_upto_region 16 with fail
      have hM11 := (hM9.addF #[.func (.func 25) #[] #[ptr (w5.heap.size + 1), ptr wB.heap.size, ptr (w7.heap.size + 1)]] 58).addF #[.func (.func 27) #[] #[ptr wB.heap.size, ptr (w7.heap.size + 1)]] 57
      have hbl11 := (hbl9.alloc (.cells #[.func (.func 25) #[] #[ptr (w5.heap.size + 1), ptr wB.heap.size, ptr (w7.heap.size + 1)]] 58)).alloc (.cells #[.func (.func 27) #[] #[ptr wB.heap.size, ptr (w7.heap.size + 1)]] 57)
      have hW11 := bl_alloc (bl_alloc hW9 (.cells #[.func (.func 25) #[] #[ptr (w5.heap.size + 1), ptr wB.heap.size, ptr (w7.heap.size + 1)]] 58)) (.cells #[.func (.func 27) #[] #[ptr wB.heap.size, ptr (w7.heap.size + 1)]] 57)
      rw [show (w9.alloc (.cells #[.func (.func 25) #[] #[ptr (w5.heap.size + 1), ptr wB.heap.size, ptr (w7.heap.size + 1)]] 58)).heap.size = w9.heap.size + 1 from by simp] at hM11
      clear hM9 hW9
      generalize ((w9.alloc (.cells #[.func (.func 25) #[] #[ptr (w5.heap.size + 1), ptr wB.heap.size, ptr (w7.heap.size + 1)]] 58)).alloc (.cells #[.func (.func 27) #[] #[ptr wB.heap.size, ptr (w7.heap.size + 1)]] 57)) = w11 at *
      obtain ⟨E, hE⟩ : ∃ E : Env, E = { bl := w1.heap.size, bm := w1.heap.size + 1 + 1, bb := ab, br := ar, bf := wB.heap.size, bd := wB.heap.size + 1, bh := w5.heap.size + 1, bo := w7.heap.size + 1, bk := w9.heap.size, bg := w9.heap.size + 1, Df := wc.heap.size, Dd := wA.heap.size, H := w5.heap.size, O := w7.heap.size, mb := w1.heap.size + 1, Al := Al, cl := cl, n := n } := ⟨_, rfl⟩
      have e1 : (madeCells #[.slice none 0 0] n).toList = (List.replicate n noRow).flatMap rwL := by
        have := made_flat rwL_len (by omega) noRow #[.slice none 0 0] rfl n
        rwa [Nat.mul_one] at this
      have e2 : (madeCells #[.string ⟨#[]⟩, .slice none 0 0] (n * 2)).toList = (List.replicate n (⟨⟨#[]⟩, noRow⟩ : Ou)).flatMap ouL := made_flat ouL_len (by omega) ⟨⟨#[]⟩, noRow⟩ #[.string ⟨#[]⟩, .slice none 0 0] rfl n
      rw [e1, e2] at hM11
      have hM12 := ((hM11.re [0, 1, 4, 5, 7, 9, 10, 11, 2, 3, 6, 8] (by decide) (by intro j hj; simp at hj ⊢; omega)).addN n).addN n
      have hStS : StP w11 W.heap.size E bs rs (wholeL parts) (wholeL parts) ((List.replicate n noRow).map Rw3.l) ((List.replicate n (⟨⟨#[]⟩, noRow⟩ : Ou)).map Ou.m) ((List.replicate n (⟨⟨#[]⟩, noRow⟩ : Ou)).map (·.r.l)) := by
        refine ⟨⟨A1, c1, wholeL parts⟩, ⟨A2, c2, wholeL parts⟩, List.replicate n noRow, List.replicate n ⟨⟨#[]⟩, noRow⟩, ⟨?_, by rw [hE]; simp, by rw [hE]; simp, by rw [hE]; exact hn1000⟩, rfl, rfl, rfl, rfl, rfl⟩
        subst hE
        have e3 : rsOf ⟨A1, c1, wholeL parts⟩ ⟨A2, c2, wholeL parts⟩ (List.replicate n noRow) (List.replicate n ⟨⟨#[]⟩, noRow⟩) = [] ++ [⟨A1, c1, wholeL parts⟩] ++ [⟨A2, c2, wholeL parts⟩] ++ List.replicate n noRw ++ List.replicate n noRw := by
          simp [rsOf, noRow, noRw]
        rw [e3]
        exact hM12
      have hLow : LowS w11 W.heap.size E S (bk old.length).length (fmL old (bk old.length)) := by
        subst hE
        refine ⟨by rw [hn]; exact hbl11, hbmW.below hW11 hbmW.lt, hnamesW.low hW11 hnb, h1.below hW11 h1.lt, fun x hx => ?_, by dsimp only; omega, by dsimp only; omega, hnb, by dsimp only; omega, fun x hx => ?_, fun t ht => by have := hk.out t ht; simp only [maxLen]; omega⟩
        · obtain ⟨o, ho, rfl⟩ := fmL_in hx
          exact ((hparts.out o ho).below (h3.trans (hW11.mono h3.size)))
        · obtain ⟨o, ho, rfl⟩ := fmL_in hx
          intro hne
          obtain ⟨b, o', e, hb⟩ := (hparts.out o ho).bel hne
          exact ⟨b, o', e, by have := h3.size; omega⟩
      have hBw : Below w.heap.size w w11 := h3.trans (hW11.mono h3.size)
      have hK11 : w11.heap[D]? = some (.deferred (some [])) := by
        have hDW : D < W.heap.size := (Array.getElem?_eq_some_iff.1 hK).1
        exact (hW11.block D hDW).trans hK
      have hDw : w.heap.size ≤ D := by omega
      have hWs : w.heap.size ≤ W.heap.size := h3.size
      obtain ⟨B, hB⟩ : ∃ B, W.heap.size = B := ⟨_, rfl⟩
      rw [hB] at hStS hLow hWs
      have hDB : D < B := by rw [← hB]; exact (Array.getElem?_eq_some_iff.1 hK).1
      obtain ⟨fm, hfm⟩ : ∃ fm, fmL old (bk old.length) = fm := ⟨_, rfl⟩
      obtain ⟨nnm, hnnm⟩ : ∃ nnm, (bk old.length).length = nnm := ⟨_, rfl⟩
      rw [hfm, hnnm] at hLow
      replace hfm := Lib.hid hfm
      have hEn : E.n = n := by rw [hE]
      have vl : E.bl = w1.heap.size ∧ E.bm = w1.heap.size + 1 + 1 ∧ E.bb = ab ∧ E.br = ar ∧ E.bf = wB.heap.size ∧ E.bd = wB.heap.size + 1 ∧ E.bh = w5.heap.size + 1 ∧ E.bo = w7.heap.size + 1 ∧ E.bk = w9.heap.size ∧ E.bg = w9.heap.size + 1 ∧ E.Al = Al ∧ E.cl = cl := by rw [hE]; exact ⟨rfl, rfl, rfl, rfl, rfl, rfl, rfl, rfl, rfl, rfl, rfl, rfl⟩
      obtain ⟨v1, v2, v3, v4, v5, v6, v7, v8, v9, v10, v11, v12⟩ := vl
      rw [← v2, ← v1, ← v3, ← v4, ← v6, ← v5, ← v7, ← v8, ← v10, ← v9]
      clear v1 v2 v3 v4 v5 v6 v7 v8 v9 v10 v11 v12 hE hM11 hM12 hbl11 hblB hbl5 hbl7 hbl9 hblX hblW hbmW hnamesW hnb h1 h2 h3 hK hW11 hW0s hz0 hs1 hbw0 hga hgr hgne hWX e1 e2 hmk1 hmk2 bA bB hrow hb1 hDl hnnm hB
      have hPh0 : Ph B E parts S fm 0 0 w11 := by
        refine ph_start ?_
        rw [hn, hbs.out, hrs.out]
        simpa [noRow] using hStS
      have hBz : B ≤ w11.heap.size := by
        obtain ⟨_, _, _, _, hS', _⟩ := hStS
        exact hS'.mem.bs
      clear hStS
      go_upto_region 17 with fail
      obtain ⟨F5, hF5⟩ : ∃ F5 : List Value, F5 = [.func (.func 29) #[] #[ptr E.bl, ptr E.bo, ptr E.bm, ptr E.bd, ptr E.bh], .func (.func 32) #[] #[ptr E.bb, ptr E.bh, ptr E.bk], .func (.func 33) #[] #[ptr E.bh, ptr E.bb, ptr E.br, ptr E.bk], .func (.func 34) #[] #[ptr E.bo, ptr E.bb, ptr E.bg], .func (.func 35) #[] #[ptr E.bo, ptr E.bb, ptr E.bg]] := ⟨_, rfl⟩
      have hst := Blk.new w11 #[.func (.func 29) #[] #[ptr E.bl, ptr E.bo, ptr E.bm, ptr E.bd, ptr E.bh], .func (.func 32) #[] #[ptr E.bb, ptr E.bh, ptr E.bk], .func (.func 33) #[] #[ptr E.bh, ptr E.bb, ptr E.br, ptr E.bk], .func (.func 34) #[] #[ptr E.bo, ptr E.bb, ptr E.bg], .func (.func 35) #[] #[ptr E.bo, ptr E.bb, ptr E.bg]] 66
      have hb13 := bl_alloc (Below.refl w11.heap.size w11) (.cells #[.func (.func 29) #[] #[ptr E.bl, ptr E.bo, ptr E.bm, ptr E.bd, ptr E.bh], .func (.func 32) #[] #[ptr E.bb, ptr E.bh, ptr E.bk], .func (.func 33) #[] #[ptr E.bh, ptr E.bb, ptr E.br, ptr E.bk], .func (.func 34) #[] #[ptr E.bo, ptr E.bb, ptr E.bg], .func (.func 35) #[] #[ptr E.bo, ptr E.bb, ptr E.bg]] 66)
      have hPh := ph_below hPh0 hb13
      have hLow3 := hLow.below (hb13.mono hBz)
      have hBw3 : Below w.heap.size w _ := hBw.trans (hb13.mono hBw.size)
      have hK3 := (hb13.block D (Array.getElem?_eq_some_iff.1 hK11).1).trans hK11
      have hst1 := hst.cell
      clear hPh0 hLow hBw hK11 hb13 hst
      generalize (w11.alloc (.cells #[.func (.func 29) #[] #[ptr E.bl, ptr E.bo, ptr E.bm, ptr E.bd, ptr E.bh], .func (.func 32) #[] #[ptr E.bb, ptr E.bh, ptr E.bk], .func (.func 33) #[] #[ptr E.bh, ptr E.bb, ptr E.br, ptr E.bk], .func (.func 34) #[] #[ptr E.bo, ptr E.bb, ptr E.bg], .func (.func 35) #[] #[ptr E.bo, ptr E.bb, ptr E.bg]] 66)) = w13 at *
      clear hF5 F5
      replace hK3 := Lib.hid hK3
      replace hEn := Lib.hid hEn
      go_wp2_with fail
      have hES : E.n = S.length := hEn.out.trans hn.symm
      have hfl : Hid (∀ t ∈ S, (hadOf fm t).l.length * 8 ≤ 140737488351232) := Lib.hid (fun t _ => by
        unfold hadOf
        cases e : lookS fm t with
        | none => simp [noRow]
        | some v =>
          obtain ⟨x, hx, rfl⟩ := lookS_mem e
          rw [← hfm.out] at hx
          obtain ⟨o, ho, rfl⟩ := fmL_in hx
          exact (hok.out o ho).2)
      have x0 : ∀ W : World, (Instr.index 66 (.agg #[.func (.func 29) #[] #[ptr E.bl, ptr E.bo, ptr E.bm, ptr E.bd, ptr E.bh], .func (.func 32) #[] #[ptr E.bb, ptr E.bh, ptr E.bk], .func (.func 33) #[] #[ptr E.bh, ptr E.bb, ptr E.br, ptr E.bk], .func (.func 34) #[] #[ptr E.bo, ptr E.bb, ptr E.bg], .func (.func 35) #[] #[ptr E.bo, ptr E.bb, ptr E.bg]]) (.int .i64 0)).run Try.prog W = .ok (.func (.func 29) #[] #[ptr E.bl, ptr E.bo, ptr E.bm, ptr E.bd, ptr E.bh]) W := fun _ => by rfl
      have x1 : ∀ W : World, (Instr.index 66 (.agg #[.func (.func 29) #[] #[ptr E.bl, ptr E.bo, ptr E.bm, ptr E.bd, ptr E.bh], .func (.func 32) #[] #[ptr E.bb, ptr E.bh, ptr E.bk], .func (.func 33) #[] #[ptr E.bh, ptr E.bb, ptr E.br, ptr E.bk], .func (.func 34) #[] #[ptr E.bo, ptr E.bb, ptr E.bg], .func (.func 35) #[] #[ptr E.bo, ptr E.bb, ptr E.bg]]) (.int .i64 1)).run Try.prog W = .ok (.func (.func 32) #[] #[ptr E.bb, ptr E.bh, ptr E.bk]) W := fun _ => by rfl
      have x2 : ∀ W : World, (Instr.index 66 (.agg #[.func (.func 29) #[] #[ptr E.bl, ptr E.bo, ptr E.bm, ptr E.bd, ptr E.bh], .func (.func 32) #[] #[ptr E.bb, ptr E.bh, ptr E.bk], .func (.func 33) #[] #[ptr E.bh, ptr E.bb, ptr E.br, ptr E.bk], .func (.func 34) #[] #[ptr E.bo, ptr E.bb, ptr E.bg], .func (.func 35) #[] #[ptr E.bo, ptr E.bb, ptr E.bg]]) (.int .i64 2)).run Try.prog W = .ok (.func (.func 33) #[] #[ptr E.bh, ptr E.bb, ptr E.br, ptr E.bk]) W := fun _ => by rfl
      have x3 : ∀ W : World, (Instr.index 66 (.agg #[.func (.func 29) #[] #[ptr E.bl, ptr E.bo, ptr E.bm, ptr E.bd, ptr E.bh], .func (.func 32) #[] #[ptr E.bb, ptr E.bh, ptr E.bk], .func (.func 33) #[] #[ptr E.bh, ptr E.bb, ptr E.br, ptr E.bk], .func (.func 34) #[] #[ptr E.bo, ptr E.bb, ptr E.bg], .func (.func 35) #[] #[ptr E.bo, ptr E.bb, ptr E.bg]]) (.int .i64 3)).run Try.prog W = .ok (.func (.func 34) #[] #[ptr E.bo, ptr E.bb, ptr E.bg]) W := fun _ => by rfl
      have x4 : ∀ W : World, (Instr.index 66 (.agg #[.func (.func 29) #[] #[ptr E.bl, ptr E.bo, ptr E.bm, ptr E.bd, ptr E.bh], .func (.func 32) #[] #[ptr E.bb, ptr E.bh, ptr E.bk], .func (.func 33) #[] #[ptr E.bh, ptr E.bb, ptr E.br, ptr E.bk], .func (.func 34) #[] #[ptr E.bo, ptr E.bb, ptr E.bg], .func (.func 35) #[] #[ptr E.bo, ptr E.bb, ptr E.bg]]) (.int .i64 4)).run Try.prog W = .ok (.func (.func 35) #[] #[ptr E.bo, ptr E.bb, ptr E.bg]) W := fun _ => by rfl
      go_loopw [77] (fun u wr => ∃ j : Nat, j ≤ 5 ∧ u = .int .i64 j ∧ (j < 5 → Ph B E parts S fm j 0 wr) ∧ (j = 5 → Ph B E parts S fm 4 S.length wr) ∧ LowS wr B E S nnm fm ∧ Below w.heap.size w wr ∧ wr.heap[D]? = some (.deferred (some []))) (fun u _ => 5 - (intOf u).toNat)
      case atStart => exact ⟨0, by omega, rfl, fun _ => hPh, fun h => by omega, hLow3, hBw3, hK3.out⟩
      case round =>
        obtain ⟨j, hj5, rfl, hPj, hPe, hLj, hBj, hKj⟩ := hrel
        clear hPh hLow3 hBw3 hK3 hst1
        have qbl := hLj.bl.cell
        replace hKj := Lib.hid hKj
        replace hPj := Lib.hid hPj
        replace hPe := Lib.hid hPe
        match j, hj5, hPj, hPe with
        | 0, _, hPj, hPe =>
          have hP0 := hPj.out (by omega)
          go_wp2_with fail
          go_loopw [82] (fun u wi => ∃ i : Nat, i ≤ S.length ∧ u = .int .i64 i ∧ Ph B E parts S fm 0 i wi ∧ LowS wi B E S nnm fm ∧ Below w.heap.size w wi ∧ wi.heap[D]? = some (.deferred (some []))) (fun u _ => S.length - (intOf u).toNat)
          case atStart => exact ⟨0, Nat.zero_le _, rfl, hP0, hLj, hBj, hKj.out⟩
          case round =>
            obtain ⟨i, hi, rfl, hPi, hLi, hBi, hKi⟩ := hrel
            clear hP0 hLj hBj hKj qbl hPj hPe
            replace hKi := Lib.hid hKi
            by_cases hiS : i < S.length
            · have hstp := Lib.hid (ph_step0 hES hp32 hLi hfl.out hiS hPi)
              have hi1000 : i < 1000 := by have := hn; omega
              go_wp2_with (go_at_call 29; refine hstp.out.mono ?_; rintro e w' ⟨rfl, hP', hb'⟩)
              go_roundw
              case rel =>
                (repeat apply Exists.intro)
                refine ⟨?_, rfl⟩
                exact ⟨i + 1, by omega, by go_num, hP', hLi.below hb', hBi.trans (hb'.mono hWs), (hb'.block D hDB).trans hKi.out⟩
              case measure => simp [intOf]; omega
            · obtain rfl : i = S.length := by omega
              go_wp2_with fail
              go_roundw
              case rel => exact ⟨1, by omega, by go_num, fun h => ph_next hES (by omega) hPi, fun h => by omega, hLi, hBi, hKi.out⟩
              case measure => simp [intOf]
        | 1, _, hPj, hPe =>
          have hP0 := hPj.out (by omega)
          go_wp2_with fail
          go_loopw [82] (fun u wi => ∃ i : Nat, i ≤ S.length ∧ u = .int .i64 i ∧ Ph B E parts S fm 1 i wi ∧ LowS wi B E S nnm fm ∧ Below w.heap.size w wi ∧ wi.heap[D]? = some (.deferred (some []))) (fun u _ => S.length - (intOf u).toNat)
          case atStart => exact ⟨0, Nat.zero_le _, rfl, hP0, hLj, hBj, hKj.out⟩
          case round =>
            obtain ⟨i, hi, rfl, hPi, hLi, hBi, hKi⟩ := hrel
            clear hP0 hLj hBj hKj qbl hPj hPe
            replace hKi := Lib.hid hKi
            by_cases hiS : i < S.length
            · have hstp := Lib.hid (ph_step1 hES hp32 hiS hPi)
              have hi1000 : i < 1000 := by have := hn; omega
              go_wp2_with (go_at_call 32; refine hstp.out.mono ?_; rintro e w' ⟨rfl, hP', hb'⟩)
              go_roundw
              case rel =>
                (repeat apply Exists.intro)
                refine ⟨?_, rfl⟩
                exact ⟨i + 1, by omega, by go_num, hP', hLi.below hb', hBi.trans (hb'.mono hWs), (hb'.block D hDB).trans hKi.out⟩
              case measure => simp [intOf]; omega
            · obtain rfl : i = S.length := by omega
              go_wp2_with fail
              go_roundw
              case rel => exact ⟨2, by omega, by go_num, fun h => ph_next hES (by omega) hPi, fun h => by omega, hLi, hBi, hKi.out⟩
              case measure => simp [intOf]
        | 2, _, hPj, hPe =>
          have hP0 := hPj.out (by omega)
          go_wp2_with fail
          go_loopw [82] (fun u wi => ∃ i : Nat, i ≤ S.length ∧ u = .int .i64 i ∧ Ph B E parts S fm 2 i wi ∧ LowS wi B E S nnm fm ∧ Below w.heap.size w wi ∧ wi.heap[D]? = some (.deferred (some []))) (fun u _ => S.length - (intOf u).toNat)
          case atStart => exact ⟨0, Nat.zero_le _, rfl, hP0, hLj, hBj, hKj.out⟩
          case round =>
            obtain ⟨i, hi, rfl, hPi, hLi, hBi, hKi⟩ := hrel
            clear hP0 hLj hBj hKj qbl hPj hPe
            replace hKi := Lib.hid hKi
            by_cases hiS : i < S.length
            · have hstp := Lib.hid (ph_step2 hES hp32 hiS hPi)
              have hi1000 : i < 1000 := by have := hn; omega
              go_wp2_with (go_at_call 33; refine hstp.out.mono ?_; rintro e w' ⟨rfl, hP', hb'⟩)
              go_roundw
              case rel =>
                (repeat apply Exists.intro)
                refine ⟨?_, rfl⟩
                exact ⟨i + 1, by omega, by go_num, hP', hLi.below hb', hBi.trans (hb'.mono hWs), (hb'.block D hDB).trans hKi.out⟩
              case measure => simp [intOf]; omega
            · obtain rfl : i = S.length := by omega
              go_wp2_with fail
              go_roundw
              case rel => exact ⟨3, by omega, by go_num, fun h => ph_next hES (by omega) hPi, fun h => by omega, hLi, hBi, hKi.out⟩
              case measure => simp [intOf]
        | 3, _, hPj, hPe =>
          have hP0 := hPj.out (by omega)
          go_wp2_with fail
          go_loopw [82] (fun u wi => ∃ i : Nat, i ≤ S.length ∧ u = .int .i64 i ∧ Ph B E parts S fm 3 i wi ∧ LowS wi B E S nnm fm ∧ Below w.heap.size w wi ∧ wi.heap[D]? = some (.deferred (some []))) (fun u _ => S.length - (intOf u).toNat)
          case atStart => exact ⟨0, Nat.zero_le _, rfl, hP0, hLj, hBj, hKj.out⟩
          case round =>
            obtain ⟨i, hi, rfl, hPi, hLi, hBi, hKi⟩ := hrel
            clear hP0 hLj hBj hKj qbl hPj hPe
            replace hKi := Lib.hid hKi
            by_cases hiS : i < S.length
            · have hstp := Lib.hid (ph_step3 hES hp32 hiS hPi)
              have hi1000 : i < 1000 := by have := hn; omega
              go_wp2_with (go_at_call 34; refine hstp.out.mono ?_; rintro e w' ⟨rfl, hP', hb'⟩)
              go_roundw
              case rel =>
                (repeat apply Exists.intro)
                refine ⟨?_, rfl⟩
                exact ⟨i + 1, by omega, by go_num, hP', hLi.below hb', hBi.trans (hb'.mono hWs), (hb'.block D hDB).trans hKi.out⟩
              case measure => simp [intOf]; omega
            · obtain rfl : i = S.length := by omega
              go_wp2_with fail
              go_roundw
              case rel => exact ⟨4, by omega, by go_num, fun h => ph_next hES (by omega) hPi, fun h => by omega, hLi, hBi, hKi.out⟩
              case measure => simp [intOf]
        | 4, _, hPj, hPe =>
          have hP0 := hPj.out (by omega)
          go_wp2_with fail
          go_loopw [82] (fun u wi => ∃ i : Nat, i ≤ S.length ∧ u = .int .i64 i ∧ Ph B E parts S fm 4 i wi ∧ LowS wi B E S nnm fm ∧ Below w.heap.size w wi ∧ wi.heap[D]? = some (.deferred (some []))) (fun u _ => S.length - (intOf u).toNat)
          case atStart => exact ⟨0, Nat.zero_le _, rfl, hP0, hLj, hBj, hKj.out⟩
          case round =>
            obtain ⟨i, hi, rfl, hPi, hLi, hBi, hKi⟩ := hrel
            clear hP0 hLj hBj hKj qbl hPj hPe
            replace hKi := Lib.hid hKi
            by_cases hiS : i < S.length
            · have hstp := Lib.hid (ph_step4 hES hp32 hiS hPi)
              have hi1000 : i < 1000 := by have := hn; omega
              go_wp2_with (go_at_call 35; refine hstp.out.mono ?_; rintro e w' ⟨rfl, hP', hb'⟩)
              go_roundw
              case rel =>
                (repeat apply Exists.intro)
                refine ⟨?_, rfl⟩
                exact ⟨i + 1, by omega, by go_num, hP', hLi.below hb', hBi.trans (hb'.mono hWs), (hb'.block D hDB).trans hKi.out⟩
              case measure => simp [intOf]; omega
            · obtain rfl : i = S.length := by omega
              go_wp2_with fail
              go_roundw
              case rel => exact ⟨5, by omega, by go_num, fun h => by omega, fun h => hPi, hLi, hBi, hKi.out⟩
              case measure => simp [intOf]
        | 5, _, hPj, hPe =>
          obtain ⟨free, dealt, hads, outs, rest, fv, hM, hhl, hms, hso⟩ := ph_end (hPe.out rfl)
          have qo := (hM.blk 5 _ _ rfl).cell
          have hOl : outs.length = S.length := by rw [← hms]; simp
          have hEn1 := hEn.out
          obtain ⟨own, hown⟩ : ∃ own, own4 parts S.length (fpsOf fm S) = own := ⟨_, rfl⟩
          rw [hown] at hso
          replace hown := Lib.hid hown
          clear hPj hPe hLj qbl x0 x1 x2 x3 x4
          rw [hEn1] at qo
          go_wp2_with fail
          go_loopw [92] (fun u wi => ∃ (i : Nat) (os : List Ou), i ≤ S.length ∧ u = .int .i64 i ∧ Mem wi B (E.fx ((parts / S.length : Nat) : Int) rest fv (Rw3.v dealt) hads os) (rsOf free dealt hads os) ∧ os.length = S.length ∧ os.map Ou.m = S ∧
            (∀ k, k < i → (os.getD k default).r.l = ofL own k) ∧ (∀ k, i ≤ k → k < S.length → (os.getD k default).r.l.Perm (ofL own k)) ∧ Below w.heap.size w wi ∧ wi.heap[D]? = some (.deferred (some []))) (fun u _ => S.length - (intOf u).toNat)
          case atStart => exact ⟨0, outs, Nat.zero_le _, rfl, hM, hOl, hms, fun k hk => by omega, fun k _ hk => hso k hk, hBj, hKj.out⟩
          case round =>
            obtain ⟨i, os, hi, rfl, hMi, hol, hmi, hdone, htodo, hBi, hKi⟩ := hrel
            clear hM hso hms hOl hBj hKj qo
            replace hKi := Lib.hid hKi
            replace hmi := Lib.hid hmi
            by_cases hiS : i < S.length
            · have hio : i < os.length := by omega
              have qo := (hMi.blk 5 _ _ rfl).cell
              rw [hEn1] at qo
              have qO0 := (hMi.blk 11 _ _ rfl).get (flat_get ouL_len os i hio 0 (by omega))
              have qO1 := (hMi.blk 11 _ _ rfl).get (flat_get ouL_len os i hio 1 (by omega))
              simp only [Nat.add_zero] at qO0
              have hro := Lib.hid (rs_out (free := free) (dealt := dealt) (hads := hads) hio)
              have htoi := htodo i (Nat.le_refl _) hiS
              rw [getD_get _ _ hio] at htoi
              generalize hou : os[i] = ou at *
              obtain ⟨m0, Ao, co, lo⟩ := ou
              replace hou := Lib.hid hou
              simp only [ouL, Rw3.v, List.getElem?_cons_zero, List.getElem?_cons_succ] at qO0 qO1
              have hll : lo.length ≤ 32 := by
                rw [htoi.length_eq, ofL_len]
                refine Nat.le_trans (List.countP_le_length ..) ?_
                rw [← hown.out]
                simp only [own4, own3, own2, own1, own0, topTo_len, fillTo_len, moreTo_len, keepTo_len, List.length_replicate]
                exact hp32
              have hi0 : (0 : Int) ≤ (i : Int) := by omega
              have hfinL := Lib.hid (sortZ_of_perm (ofL_rising own i) htoi)
              replace htoi := Lib.hid htoi
              replace hdone := Lib.hid hdone
              replace htodo := Lib.hid htodo
              replace hol := Lib.hid hol
              have hrow := (hMi.alloc (.cells #[.string m0, .slice Ao lo.length co] 39)).row _ _ hro.out
              have hMa := hMi.alloc (.cells #[.string m0, .slice Ao lo.length co] 39)
              have hba := bl_alloc hBi (.cells #[.string m0, .slice Ao lo.length co] 39)
              have hKa : (wr.alloc (.cells #[.string m0, .slice Ao lo.length co] 39)).heap[D]? = some (.deferred (some [])) := (Below.heap_alloc wr _ D (Array.getElem?_eq_some_iff.1 hKi.out).1).trans hKi.out
              go_wp2_with fail
              refine (sortI_any Ao co B lo _ hrow (by omega)).mono ?_
              rintro e w6 ⟨rfl, hrow6, hg6⟩
              have hg6' := hg6
              rw [show (Value.slice Ao lo.length co).ownBlock = (⟨Ao, co, lo⟩ : Rw3).b from v_own ⟨Ao, co, lo⟩] at hg6'
              have hM6 := hMa.upd (r' := ⟨Ao, co, sortZ lo⟩) hro.out hg6' (by simpa [Rw3.v, sortZ_len] using hrow6) (.inl rfl)
              have hge6 : ∀ g, (⟨Ao, co, lo⟩ : Rw3).b = some g → B ≤ g := fun g hg => (own_b hrow hg).1
              have hb6 : Below w.heap.size w w6 := hba.grown hg6' hba.size (fun g hg => Nat.le_trans hWs (hge6 g hg))
              have hK6 : w6.heap[D]? = some (.deferred (some [])) := (hg6'.block D (Array.getElem?_eq_some_iff.1 hKa).1 (fun e => by have := hge6 D e.symm; omega)).trans hKa
              have hsame : (os.set i ⟨m0, ⟨Ao, co, sortZ lo⟩⟩).flatMap ouL = os.flatMap ouL := flat_same _ os i hio (by rw [hou.out]; simp [ouL, Rw3.v, sortZ_len])
              have hms6 : (os.set i ⟨m0, ⟨Ao, co, sortZ lo⟩⟩).map Ou.m = S := by
                rw [List.map_set, ← hmi.out]
                have := getD_self (os.map Ou.m) i default (by simpa using hio)
                rw [map_getD Ou.m os i hio, getD_get _ _ hio, hou.out] at this
                exact this
              rw [rs_set_out ⟨m0, ⟨Ao, co, sortZ lo⟩⟩] at hM6
              have hM7 : Mem w6 B (E.fx ((parts / S.length : Nat) : Int) rest fv (Rw3.v dealt) hads (os.set i ⟨m0, ⟨Ao, co, sortZ lo⟩⟩)) (rsOf free dealt hads (os.set i ⟨m0, ⟨Ao, co, sortZ lo⟩⟩)) := by
                simp only [Env.fx] at hM6 ⊢
                rw [hsame]
                exact hM6
              have hd6 : ∀ k, k < i + 1 → ((os.set i ⟨m0, ⟨Ao, co, sortZ lo⟩⟩).getD k default).r.l = ofL own k := fun k hk => by
                by_cases e : k = i
                · subst e
                  rw [getD_get _ _ (by simpa using hio), List.getElem_set_self]
                  exact hfinL.out
                · rw [getD_get _ _ (by simp; omega), List.getElem_set_ne (by omega), ← getD_get _ default (by omega)]
                  exact hdone.out k (by omega)
              have ht6 : ∀ k, i + 1 ≤ k → k < S.length → ((os.set i ⟨m0, ⟨Ao, co, sortZ lo⟩⟩).getD k default).r.l.Perm (ofL own k) := fun k hk hkS => by
                have hol' := hol.out
                rw [getD_get _ _ (by simp; omega), List.getElem_set_ne (by omega), ← getD_get _ default (by omega)]
                exact htodo.out k (by omega) hkS
              have hol6 : (os.set i ⟨m0, ⟨Ao, co, sortZ lo⟩⟩).length = S.length := by simpa using hol.out
              clear hM6 hMa hMi hrow hrow6 hg6 hg6' hsame qO0 qO1 qo hba hKa hge6
              go_wp2_with fail
              go_roundw
              case rel =>
                (repeat apply Exists.intro)
                refine ⟨?_, rfl⟩
                exact ⟨i + 1, _, by omega, by go_num, hM7, hol6, hms6, hd6, ht6, hb6, hK6⟩
              case measure => simp [intOf]; omega
            · obtain rfl : i = S.length := by omega
              have qo := (hMi.blk 5 _ _ rfl).cell
              rw [hEn1] at qo
              have hMf := hMi.re [11] (by decide) (by intro j hj; simp [Env.fx] at hj ⊢; omega)
              have hMg : Mem wr B [(E.O, os.flatMap ouL)] (os.map (·.r)) := by
                have e9 : rsOf free dealt hads os = (free :: dealt :: hads) ++ os.map (·.r) := rfl
                rw [e9] at hMf
                exact hMf.dropL
              clear hMf hMi
              go_wp2_with fail
              refine finM _ _ _ D (.tuple #[.slice (some ⟨E.O, 0, none⟩) n n, .int .i64 0]) _ (fun W => by first | rfl | simp [results, Try.f14, go_sem]) hKi.out ?_
              intro W' hg
              have hfr := hMg.frame (w' := W') (S := fun b => b = D) (FrX.of_grown hg fun g hg => by cases hg; exact .inl rfl) (fun k b vs hk e => by have := hMg.ge k b vs hk; omega) (fun k r g hk hg e => by have := (own_b (hMg.row k r hk) hg).1; omega)
              refine ⟨E.O, os, by rw [hn], hfr.lower hWs, hmi.out, ?_, bl_gr hBi hg hDw⟩
              intro j hj; rw [hfm.out, hown.out]; exact hdone j hj
        | j + 6, h6, _, _ => omega
end Go.Proofs.Ytbjjhnlifgbpmaa
