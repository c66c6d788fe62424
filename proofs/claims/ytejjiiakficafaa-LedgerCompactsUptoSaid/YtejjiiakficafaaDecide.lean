/- producer.Table.Decide: what becomes of a batch. -/
import Derived.Test.YtejjiiakficafaaBatch
import Derived.Test.YtejjiiakficafaaProd
import Derived.Test.YtejjiiakficafaaIM
namespace Go.Proofs.Ytejjiiakficafaa
open Go.RowKit Go.Shelf
attribute [local go_sem] Oper.semAt_some

/-- The numbers' part: with the state st. -/
def ringF (st : St) (s : Int) (n : Nat) : Int × Bool × Int :=
  if s = st.next then (0, false, 0) else match (lasts st.ds).find? (fun d => d.seq == s && d.len == (n : Int)) with
  | some d => (d.off, true, 0)
  | none => if s < st.next then (0, false, 52) else (0, false, 51)
def decideF (sk : Option St) (k p ep s : Int) (t : Bool) (rs : List Rec) : Int × Bool × Int :=
  if checkE k p ep s t rs ≠ 0 ∨ p < 0 then (0, false, checkE k p ep s t rs) else
  if (sk.isSome && decide (ep < (sk.getD st0).epoch)) = true then (0, false, 50) else
  if k ≠ 1 then (0, false, 0) else
  ringF (if (!sk.isSome || decide ((sk.getD st0).epoch < ep)) = true then st0 else sk.getD st0) s rs.length

def batchV (k p ep s : Int) (t : Bool) (r : Value) : Value := .agg #[.int .i64 k, .int .i64 p, .int .i64 ep, .int .i64 s, .bool t, r]

theorem zero76 (w : World) : (zeroValue 95).run Try.prog w = .ok (stV st0) w := by
  kernel_rfl

theorem size76 : (Try.prog.info? 95).map (·.size) = some 18 := by kernel_rfl

theorem none_tab (b mb : Nat) (w : World) (h : Blk w b [.map (some mb)]) :
    Calls Try.prog 44 #[.pointer (some ⟨b, 0, none⟩)] w fun e w' => e = .returned (.bool false) ∧ w = w' :=
  none_any b (some mb) w (h.get rfl)

theorem checkE_p {k p ep s : Int} {t : Bool} {rs : List Rec} (h : checkE k p ep s t rs = 0) : p ≤ 9223372036854775807 := by
  unfold checkE at h
  repeat' split at h
  all_goals first | (exfalso; omega) | skip
  all_goals (simp [q3] at *; omega)

theorem run_res3 (w : World) (tmps : Array Value) (B1 B2 B3 : Nat) (r1 : Int) (r2 : Bool) (r3 : Int) (h4 : tmps.getD 4 undef = .pointer (some ⟨B1, 0, none⟩)) (h5 : tmps.getD 5 undef = .pointer (some ⟨B2, 0, none⟩)) (h6 : tmps.getD 6 undef = .pointer (some ⟨B3, 0, none⟩))
    (hb1 : Blk w B1 [.int .i64 r1]) (hb2 : Blk w B2 [.bool r2]) (hb3 : Blk w B3 [.int .i64 r3]) : (results Try.f27 tmps).run Try.prog w = .ok (.tuple #[.int .i64 r1, .bool r2, .int .i64 r3]) w := by
  have q1 := hb1.cell
  have q2 := hb2.cell
  have q3 := hb3.cell
  simp only [Array.getD_eq_getD_getElem?] at h4 h5 h6
  simp [results, Try.results27, go_sem, h4, h5, h6, q1, q2, q3]

theorem Blk.ne_other {w : World} {b D : Nat} {v : Value} {vs : List Value} {o : Obj} (h : Blk w b (v :: vs)) (hD : w.heap[D]? = some o) (ho : o.isCells = false) : b ≠ D := by
  rintro rfl
  have h0 := h.get (j := 0) rfl
  cases o <;> simp_all [World.cell?, Obj.isCells]

theorem fin12 (w : World) (tmps : Array Value) (R : Ending → World → Prop) (D B1 B2 B3 : Nat) (r1 : Int) (r2 : Bool) (r3 : Int) (h4 : tmps.getD 4 undef = .pointer (some ⟨B1, 0, none⟩)) (h5 : tmps.getD 5 undef = .pointer (some ⟨B2, 0, none⟩)) (h6 : tmps.getD 6 undef = .pointer (some ⟨B3, 0, none⟩))
    (hb1 : Blk w B1 [.int .i64 r1]) (hb2 : Blk w B2 [.bool r2]) (hb3 : Blk w B3 [.int .i64 r3]) (hK : w.heap[D]? = some (.deferred (some [])))
    (hR : ∀ W', w.grownBy W' (some D) → R (.returned (.tuple #[.int .i64 r1, .bool r2, .int .i64 r3])) W') :
    LeavesInM Fence.wide 8 Try.prog Try.f27 tmps R [{ target := .collected D, args := #[] }] .returning w := by
  have hg := grownBy_putObj' w D (.deferred none)
  refine ⟨by simp, .inl ⟨_, _, rfl, run_takeDeferred hK, ?_⟩⟩
  have n1 := hb1.ne_other hK rfl
  have n2 := hb2.ne_other hK rfl
  have n3 := hb3.ne_other hK rfl
  exact ⟨_, run_res3 _ tmps B1 B2 B3 r1 r2 r3 h4 h5 h6 (hb1.grown hg (by simpa using n1)) (hb2.grown hg (by simpa using n2)) (hb3.grown hg (by simpa using n3)), hR _ hg⟩

/-- What the rounds keep. -/
def DRel (w : World) (N b0 b1 b2 b3 b8 : Nat) (v0 v8 : List Value) (r1 : Int) (r2 : Bool) (W : World) : Prop :=
  Blk W b0 v0 ∧ Blk W b1 [.int .i64 r1] ∧ Blk W b2 [.bool r2] ∧ Blk W b3 [.int .i64 0] ∧ Blk W b8 v8 ∧ Below w.heap.size w W ∧ N ≤ W.heap.size
theorem DRel.step {w W W' : World} {N b0 b1 b2 b3 b8 : Nat} {v0 v8 : List Value} {r1 : Int} {r2 : Bool} {B : Nat} {row : Option Nat} (h : DRel w N b0 b1 b2 b3 b8 v0 v8 r1 r2 W)
    (h0 : b0 < B) (h1 : b1 < B) (h2 : b2 < B) (h3 : b3 < B) (h8 : b8 < B) (hw : w.heap.size ≤ B) (hg : W.grownBy W' row) (hr : ∀ r, row = some r → B ≤ r ∧ ∃ o : Obj, W.heap[r]? = some o ∧ o.isCells = false) : DRel w N b0 b1 b2 b3 b8 v0 v8 r1 r2 W' := by
  have hne : ∀ b, b < B → some b ≠ row := fun b hb e => by have := (hr b e.symm).1; omega
  obtain ⟨a0, a1, a2, a3, a8, a4, a5⟩ := h
  exact ⟨a0.grown hg (hne _ h0), a1.grown hg (hne _ h1), a2.grown hg (hne _ h2), a3.grown hg (hne _ h3), a8.grown hg (hne _ h8), a4.grown hg a4.size (fun k e => Nat.le_trans hw (hr k e).1), Nat.le_trans a5 hg.size⟩
theorem DRel.alloc {w W : World} {N b0 b1 b2 b3 b8 : Nat} {v0 v8 : List Value} {r1 : Int} {r2 : Bool} (h : DRel w N b0 b1 b2 b3 b8 v0 v8 r1 r2 W) (o : Obj) : DRel w N b0 b1 b2 b3 b8 v0 v8 r1 r2 (W.alloc o) := by
  obtain ⟨a0, a1, a2, a3, a8, a4, a5⟩ := h
  exact ⟨a0.alloc _, a1.alloc _, a2.alloc _, a3.alloc _, a8.alloc _, bl_alloc a4 _, by simp; omega⟩

def hit (s : Int) (n : Nat) (d : Dn) : Bool := d.seq == s && d.len == (n : Int)

set_option maxRecDepth 100000 in
set_option maxHeartbeats 2000000 in
theorem decide_any (tb mb nn : Nat) (m : List (Int × St)) (k p ep s : Int) (t : Bool) (A : Option Addr) (c : Nat) (rs : List Rec) (w : World)
    (hT : Blk w tb [.map (some mb)]) (hM : IM Try.prog 3 w mb nn stV m) (hR : RecsAt w A rs) (hs : -9223372036854775808 ≤ s ∧ s ≤ 9223372036854775807)
    (hds : ∀ st, lookI m p = some st → st.ds.length ≤ 4611686018427387904) :
    Calls Try.prog 27 #[.pointer (some ⟨tb, 0, none⟩), .agg #[.int .i64 k, .int .i64 p, .int .i64 ep, .int .i64 s, .bool t, .slice A rs.length c]] w fun e w' =>
      e = .returned (.tuple #[.int .i64 (decideF (lookI m p) k p ep s t rs).1, .bool (decideF (lookI m p) k p ep s t rs).2.1, .int .i64 (decideF (lookI m p) k p ep s t rs).2.2]) ∧ Below w.heap.size w w' := by
  refine (callsIn_wide (n := 8)).1 ?_
  refine callsIn_of_wp_marks Try.func27 rfl trivial ?_ rfl
  refine wpIn_wide.2 ?_
  simp only [Try.ntmps27, List.size_toArray, List.length_cons, List.length_nil, Nat.reduceAdd, Nat.reduceSub, Array.replicate_succ, Array.replicate_zero, List.push_toArray, List.append_toArray, List.nil_append, List.cons_append]
  go_wp2_with (go_at_call 44; refine (none_tab tb mb _ ?_).mono ?_; (repeat' (first | assumption | (refine Blk.new' _ _ ?_; (simp; done)) | apply Blk.alloc | apply Blk.drew)); rintro e w' ⟨rfl, rfl⟩)
  refine (check_any k p ep s t rs A c _ (hR.below ?_) hs).mono ?_
  · (repeat' (first | exact Below.refl _ _ | apply bl_alloc))
  rintro e w1 ⟨rfl, hb1⟩
  have hB0 : Blk w1 w.heap.size [.int .i64 k, .int .i64 p, .int .i64 ep, .int .i64 s, .bool t, .slice A rs.length c] := Blk.below (by (repeat' (first | assumption | (refine Blk.new' _ _ ?_; (simp; done)) | apply Blk.alloc | apply Blk.drew))) hb1 (by first | (simp; done) | (simp; omega))
  have hB1 : Blk w1 (w.heap.size + 1) [.int .i64 0] := Blk.below (by (repeat' (first | assumption | (refine Blk.new' _ _ ?_; (simp; done)) | apply Blk.alloc | apply Blk.drew))) hb1 (by first | (simp; done) | (simp; omega))
  have hB2 : Blk w1 (w.heap.size + 1 + 1) [.bool false] := Blk.below (by (repeat' (first | assumption | (refine Blk.new' _ _ ?_; (simp; done)) | apply Blk.alloc | apply Blk.drew))) hb1 (by first | (simp; done) | (simp; omega))
  have hB3 : Blk w1 (w.heap.size + 1 + 1 + 1) [.int .i64 0] := Blk.below (by (repeat' (first | assumption | (refine Blk.new' _ _ ?_; (simp; done)) | apply Blk.alloc | apply Blk.drew))) hb1 (by first | (simp; done) | (simp; omega))
  have hT1 : Blk w1 tb [.map (some mb)] := Blk.below (by (repeat' (first | assumption | (refine Blk.new' _ _ ?_; (simp; done)) | apply Blk.alloc | apply Blk.drew))) hb1 (by have := hT.lt; simp; omega)
  have hM1 : IM Try.prog 3 w1 mb nn stV m := IM.below ((((hM.alloc _).alloc _).alloc _).alloc _) hb1 (by have := hM.lt; simp; omega)
  have hbB : Below w.heap.size w w1 := by refine bl_tr ?_ hb1; (repeat' (first | exact Below.refl _ _ | apply bl_alloc))
  clear hb1
  have q0 := hB0.cell
  have q1 := hB1.cell
  have q2 := hB2.cell
  have q3 := hB3.cell
  have qT := hT1.cell
  have f1 := hB1.unf
  have f2 := hB2.unf
  have f3 := hB3.unf
  have l0 := hB0.lt
  have l1 := hB1.lt
  have l2 := hB2.lt
  have l3 := hB3.lt
  have lT := hT1.lt
  have lM := hM1.lt
  go_wp2_with fail
  · refine ⟨.tuple #[.int .i64 (decideF (lookI m p) k p ep s t rs).1, .bool (decideF (lookI m p) k p ep s t rs).2.1, .int .i64 (decideF (lookI m p) k p ep s t rs).2.2], ?_, rfl, ?_⟩
    · simp [results, Try.results27, go_sem, decideF, *]
    · exact bl_set (bl_set (bl_set hbB (by dsimp only; omega) _) (by dsimp only; omega) _) (by dsimp only; omega) _
  · have hp : -9223372036854775808 ≤ p ∧ p ≤ 9223372036854775807 := ⟨by omega, checkE_p ‹_›⟩
    have hlk : ∀ W : World, IM Try.prog 3 W mb nn stV m → (Instr.lookup 86 (.map (some mb)) (.int .i64 p) true).run Try.prog W = .ok (.tuple #[stV ((lookI m p).getD st0), .bool (lookI m p).isSome]) W :=
      fun W hW => hW.look_ok Try.underlying3 Try.underlying86 zero76 hp
    obtain ⟨sp, hsp⟩ : ∃ sp, (lookI m p).getD st0 = sp := ⟨_, rfl⟩
    obtain ⟨kn, hkn⟩ : ∃ kn, (lookI m p).isSome = kn := ⟨_, rfl⟩
    rw [hsp, hkn] at hlk
    obtain ⟨cs, hcs⟩ : ∃ cs, (stCells sp).toArray = cs := ⟨_, rfl⟩
    have hv1 : cs.size = 18 := by rw [← hcs]; rfl
    have hv2 : cs.all (·.oneCell') = true := by rw [← hcs]; simp [stCells, Value.oneCell']
    simp only [stV, hcs] at hlk
    have HCS := Lib.hid hcs
    clear hcs
    have HD := Lib.hid (show decideF (lookI m p) k p ep s t rs = if (kn && decide (ep < sp.epoch)) = true then (0, false, 50) else
      if k ≠ 1 then (0, false, 0) else
      ringF (if (!kn || decide (sp.epoch < ep)) = true then st0 else sp) s rs.length from by
        unfold decideF
        rw [if_neg (by simp [*]), hkn, hsp])
    have HL := Lib.hid (show sp.ds.length ≤ 4611686018427387904 from by
      cases h : lookI m p with
      | none => rw [h] at hsp; rw [← hsp]; simp [st0]
      | some z => rw [h] at hsp; rw [← hsp]; exact hds z h)
    clear hsp hkn hds
    go_upto_region 6 with (fail)
    go_cut [8, 9] from 11 to 32 (fun s8 s9 wx => s8 = .pointer (some ⟨w1.heap.size, 0, none⟩) ∧ s9 = .bool kn ∧ Blk wx w1.heap.size (stCells sp) ∧ Below w1.heap.size w1 wx)
    case first =>
      have t0 := hT1.get (j := 0) rfl
      have t1 := hB0.get (j := 1) rfl
      have hst : Sem.run Try.prog (storeCells ⟨w1.heap.size, 0, none⟩ cs.toList 0) (w1.alloc (.cells #[.int .i64 0, .int .i64 0, .int .i64 0, .int .i64 0, .int .i64 0, .int .i64 0, .int .i64 0, .int .i64 0, .int .i64 0, .int .i64 0, .int .i64 0, .int .i64 0, .int .i64 0, .int .i64 0, .int .i64 0, .int .i64 0, .int .i64 0, .int .i64 0] 95)).drew = .ok () (w1.alloc (.cells cs 95)).drew :=
        run_storeCells_new (P := Try.prog) w1.drew 95 #[.int .i64 0, .int .i64 0, .int .i64 0, .int .i64 0, .int .i64 0, .int .i64 0, .int .i64 0, .int .i64 0, .int .i64 0, .int .i64 0, .int .i64 0, .int .i64 0, .int .i64 0, .int .i64 0, .int .i64 0, .int .i64 0, .int .i64 0, .int .i64 0] cs (by rw [hv1]; exact size76) (by rw [hv1]; rfl) hv2
      clear hv2
      clear q0 q1 q2 q3 qT f1 f2 f3 hB0 hB1 hB2 hB3 hT1 hbB hT hM hR hs l1 l2 l3 HD HL
      go_region_held3 (fun w' => w'.cell? ⟨tb, 0, none⟩ = some (.map (some mb)) ∧ w'.cell? ⟨w.heap.size, 1, none⟩ = some (.int .i64 p) ∧ IM Try.prog 3 w' mb nn stV m)
        ((go_split_ands; refine ⟨?_, ?_, ?_⟩ <;> first | ((repeat' (first | assumption | with_reducible apply IM.alloc | with_reducible apply IM.drew | with_reducible apply IM.setCell)); done) | (go_keep; done))) (fail)
      all_goals
        go_wp2_with fail
        go_meet
        exact ⟨rfl, rfl, (blk_eq (Blk.new w1 cs 95) (by rw [← HCS.out])).drew, bl_drew (bl_alloc (Below.refl _ _) _)⟩
    case rest =>
      obtain ⟨rfl, rfl, hS, hb2⟩ := hcut
      clear q0 q1 q2 q3 qT f1 f2 f3 l0 l1 l2 l3 lT lM hlk
      have hl3 := hB3.lt
      replace hB0 := hB0.below hb2 hB0.lt
      replace hB1 := hB1.below hb2 hB1.lt
      replace hB2 := hB2.below hb2 hB2.lt
      replace hB3 := hB3.below hb2 hB3.lt
      replace hbB := bl_tr hbB hb2
      clear hb2 hM1 hT1 hM hT hR
      have b1 := hB0.get (j := 1) rfl
      have q0 := hB0.cell
      have q1 := hB1.cell
      have q2 := hB2.cell
      have q3 := hB3.cell
      have f1 := hB1.unf
      have f2 := hB2.unf
      have f3 := hB3.unf
      have s0 : wc.cell? ⟨w1.heap.size, 0, none⟩ = some (.int .i64 sp.epoch) := hS.get rfl
      have s1 : wc.cell? ⟨w1.heap.size, 1, none⟩ = some (.int .i64 sp.next) := hS.get rfl
      cases kn
      · by_cases hk : k = 1
        · subst hk
          have HD2 := Lib.hid (show decideF (lookI m p) 1 p ep s t rs = ringF st0 s rs.length from by rw [HD.out]; simp [*])
          by_cases hn : s = st0.next
          · have hn1 : (s == st0.next) = true := by simpa using hn
            have HN := Lib.hid hn
            clear hn
            go_wp2_with (first | (refine wpList_load_blk rfl 95 _ rfl w1.heap.size (stCells st0) rfl hS2 _ Try.underlying95 rfl size76 ?_) | (refine wpList_store_blk rfl 95 _ _ rfl w1.heap.size (stCells sp) (stCells st0) rfl rfl hS rfl size76 (by simp [stCells, Value.oneCell']) ?_; intro w2 hS2 hg2 hz2; replace hB0 := hB0.grown hg2 (by simp; omega); replace hB1 := hB1.grown hg2 (by simp; omega); replace hB2 := hB2.grown hg2 (by simp; omega); replace hB3 := hB3.grown hg2 (by simp; omega); replace hbB := bl_gr hbB hg2 (by omega); clear hS hg2 hz2 s0 s1 q0 q1 q2 q3 f1 f2 f3; have q0 := hB0.cell; have q1 := hB1.cell; have q2 := hB2.cell; have q3 := hB3.cell; have f1 := hB1.unf; have f2 := hB2.unf; have f3 := hB3.unf; have s0 : w2.cell? ⟨w1.heap.size, 0, none⟩ = some (.int .i64 st0.epoch) := hS2.get rfl; have s1 : w2.cell? ⟨w1.heap.size, 1, none⟩ = some (.int .i64 st0.next) := hS2.get rfl))
            refine ⟨.tuple #[.int .i64 (decideF (lookI m p) 1 p ep s t rs).1, .bool (decideF (lookI m p) 1 p ep s t rs).2.1, .int .i64 (decideF (lookI m p) 1 p ep s t rs).2.2], ?_, rfl, ?_⟩
            · rw [HD2.out]; simp [results, Try.results27, go_sem, ringF, HN.out, *]
            · exact bl_set (bl_set (bl_set hbB (by dsimp only; omega) _) (by dsimp only; omega) _) (by dsimp only; omega) _
          · have hn1 : (s == st0.next) = false := by simpa using hn
            have HN := Lib.hid hn
            clear hn
            go_wp2_with (first | (refine wpList_load_blk rfl 95 _ rfl w1.heap.size (stCells st0) rfl hS2 _ Try.underlying95 rfl size76 ?_) | (refine wpList_store_blk rfl 95 _ _ rfl w1.heap.size (stCells sp) (stCells st0) rfl rfl hS rfl size76 (by simp [stCells, Value.oneCell']) ?_; intro w2 hS2 hg2 hz2; replace hB0 := hB0.grown hg2 (by simp; omega); replace hB1 := hB1.grown hg2 (by simp; omega); replace hB2 := hB2.grown hg2 (by simp; omega); replace hB3 := hB3.grown hg2 (by simp; omega); replace hbB := bl_gr hbB hg2 (by omega); clear hS hg2 hz2 s0 s1 q0 q1 q2 q3 f1 f2 f3; have q0 := hB0.cell; have q1 := hB1.cell; have q2 := hB2.cell; have q3 := hB3.cell; have f1 := hB1.unf; have f2 := hB2.unf; have f3 := hB3.unf; have s0 : w2.cell? ⟨w1.heap.size, 0, none⟩ = some (.int .i64 st0.epoch) := hS2.get rfl; have s1 : w2.cell? ⟨w1.heap.size, 1, none⟩ = some (.int .i64 st0.next) := hS2.get rfl))
            refine (lasts_any st0 _).mono ?_
            rintro e w3 ⟨rfl, rfl⟩
            go_wp2_with fail
            have hbox : Blk (w2.alloc (.cells (stCells st0).toArray 95)) w2.heap.size (stCells st0) := Blk.new' _ _ rfl
            have hz1 : w1.heap.size < w2.heap.size := hS2.lt
            have hrel0 : DRel w (w2.heap.size + 1) w.heap.size (w.heap.size + 1) (w.heap.size + 1 + 1) (w.heap.size + 1 + 1 + 1) w1.heap.size [.int .i64 1, .int .i64 p, .int .i64 ep, .int .i64 s, .bool t, .slice A rs.length c] (stCells st0) 0 false (w2.alloc (.cells (stCells st0).toArray 95)) := ⟨hB0.alloc _, hB1.alloc _, hB2.alloc _, hB3.alloc _, (hS2).alloc _, bl_alloc hbB _, by simp⟩
            refine (wpIn_wide (n := 8)).1 ?_
            refine wpIn_rangeFunc_ownH rfl (by omega) (gf := 63) (lb := #[.pointer (some ⟨w2.heap.size, 0, none⟩)]) rfl trivial (enters_of Try.func63 (by kernel_rfl) rfl)
              (lasts_stops Fence.wide 7 trivial rfl (by omega) w2.heap.size (w2.heap.size + 1) st0 _ hbox (by omega) (by decide)) belowK_t (belowK_b (by simp)) (Below.refl _ _) (fun _ => rfl)
              (fun pre W => (∀ d ∈ pre, hit s rs.length d = false) ∧ DRel w (w2.heap.size + 1) w.heap.size (w.heap.size + 1) (w.heap.size + 1 + 1) (w.heap.size + 1 + 1 + 1) w1.heap.size [.int .i64 1, .int .i64 p, .int .i64 ep, .int .i64 s, .bool t, .slice A rs.length c] (stCells st0) 0 false W)
              (fun cc pre W => cc = Code.ret ∧ ∃ d, pre.find? (hit s rs.length) = some d ∧ DRel w (w2.heap.size + 1) w.heap.size (w.heap.size + 1) (w.heap.size + 1 + 1) (w.heap.size + 1 + 1 + 1) w1.heap.size [.int .i64 1, .int .i64 p, .int .i64 ep, .int .i64 s, .bool t, .slice A rs.length c] (stCells st0) d.off true W)
              (fun pre A B row hs hg hr => ⟨hs.1, hs.2.step (by first | (simp; done) | (simp; omega)) (by first | (simp; done) | (simp; omega)) (by first | (simp; done) | (simp; omega)) (by first | (simp; done) | (simp; omega)) (by first | (simp; done) | (simp; omega)) (by first | (simp; done) | (simp; omega)) hg hr⟩)
              (fun cc pre A B row hs hg hr => by obtain ⟨e, d, h1, h2⟩ := hs; exact ⟨e, d, h1, h2.step (by first | (simp; done) | (simp; omega)) (by first | (simp; done) | (simp; omega)) (by first | (simp; done) | (simp; omega)) (by first | (simp; done) | (simp; omega)) (by first | (simp; done) | (simp; omega)) (by first | (simp; done) | (simp; omega)) hg hr⟩)
              ⟨by simp, hrel0⟩
              (fun x a' W => ∃ Bx, w2.heap.size < Bx ∧ Blk W Bx [.int .i64 x.seq, .int .i64 x.len, .int .i64 x.off] ∧ a' = { tmps := #[Value.pointer (some ⟨tb, 0, none⟩), Value.agg #[Value.int IntKind.i64 1, Value.int IntKind.i64 p, Value.int IntKind.i64 ep, Value.int IntKind.i64 s, Value.bool t, Value.slice A rs.length c], undef, Value.pointer (some ⟨w.heap.size, 0, none⟩), Value.pointer (some ⟨w.heap.size + 1, 0, none⟩), Value.pointer (some ⟨w.heap.size + 1 + 1, 0, none⟩), Value.pointer (some ⟨w.heap.size + 1 + 1 + 1, 0, none⟩), Value.int IntKind.i64 0, Value.pointer (some ⟨w1.heap.size, 0, none⟩), Value.bool false, Value.pointer (some ⟨Bx, 0, none⟩), u11, u12, u13, u14, u15, u16, u17, u18, u19, u20, u21, u22, u23, u24, u25, u26, u27, u28, u29, u30, u31, u32, Value.bool false, Value.bool false, Value.bool false, undef, undef, undef, undef, undef, Value.bool false, Value.bool false, Value.pointer (some ⟨w.heap.size, 0, none⟩), Value.int IntKind.i64 1, Value.bool false, Value.bool true, Value.bool false, Value.bool true, Value.bool true, undef, undef, undef, undef, undef, Value.bool true, Value.agg #[Value.int IntKind.i64 0, Value.int IntKind.i64 0, Value.int IntKind.i64 0, Value.int IntKind.i64 0, Value.int IntKind.i64 0, Value.int IntKind.i64 0, Value.int IntKind.i64 0, Value.int IntKind.i64 0, Value.int IntKind.i64 0, Value.int IntKind.i64 0, Value.int IntKind.i64 0, Value.int IntKind.i64 0, Value.int IntKind.i64 0, Value.int IntKind.i64 0, Value.int IntKind.i64 0, Value.int IntKind.i64 0, Value.int IntKind.i64 0, Value.int IntKind.i64 0], Value.pointer (some ⟨w.heap.size, 3, none⟩), Value.int IntKind.i64 s, Value.pointer (some ⟨w1.heap.size, 1, none⟩), Value.int IntKind.i64 st0.next, Value.bool false, Value.agg (stCells st0).toArray, Value.func (Fn.func 63) #[] #[Value.pointer (some ⟨w2.heap.size, 0, none⟩)], Value.agg #[.int .i64 x.seq, .int .i64 x.len, .int .i64 x.off], undef, undef, undef, undef, undef, undef, undef, undef, undef, undef, undef, undef, undef, undef, undef, undef, undef, undef, undef, undef], defers := [] })
              (fun x a' _ A B row hs hg hr => by obtain ⟨Bx, h1, h2, h3⟩ := hs; exact ⟨Bx, h1, h2.grown hg (by rintro e; obtain ⟨_, o, ho, hc⟩ := hr _ e.symm; exact h2.ne_other ho hc rfl), h3⟩)
              ?assign0 ?body0 ?done0 ?stop0
            case assign0 =>
              rintro l pre x W K ⟨hnh, hr⟩ hK
              simp only [dnV]
              gi_wp2
              have hsz := hr.2.2.2.2.2.2
              exact hK _ _ ((KeepsOthers.alloc _ _).from _) ((Below.refl _ W).alloc hsz _) ⟨hnh, hr.alloc _⟩ ⟨W.heap.size, by omega, Blk.new' _ _ rfl, rfl⟩
            case body0 =>
              rintro l pre x a' W hl hrec ⟨hnh, hr⟩ ⟨Bx, hBx, bX, rfl⟩ hlt
              obtain ⟨r0, r1, r2, r3, r8, r4, r5⟩ := hr
              have e0 := r0.cell
              have e1 := r1.cell
              have e2 := r2.cell
              have e3 := r3.cell
              have g1 := r1.unf
              have g2 := r2.unf
              have g3 := r3.unf
              have eX := bX.cell
              by_cases hs1 : x.seq = s
              · by_cases hs2 : x.len = (rs.length : Int)
                · have t1 : (x.seq == s) = true := by simpa using hs1
                  have t2 : (x.len == (rs.length : Int)) = true := by simpa using hs2
                  have HH := Lib.hid (show hit s rs.length x = true from by simp [hit, hs1, hs2])
                  clear hs1 hs2
                  gi_wp2
                  refine ⟨(((KeepsOthers.setCell _ _ _).trans (KeepsOthers.setCell _ _ _)).trans (KeepsOthers.setCell _ _ _)).from _, rfl, x, ?_, ?_⟩
                  · rw [List.find?_append, List.find?_eq_none.2 (by intro d hd; simp [hnh d hd])]; simp [HH.out]
                  · exact ⟨((r0.set_ne (by simp) _).set_ne (by first | (simp; done) | (simp; omega)) _).set_ne (by first | (simp; done) | (simp; omega)) _, ((r1.set_same 0 _).set_ne (by simp) _).set_ne (by first | (simp; done) | (simp; omega)) _, ((r2.set_ne (by simp) _).set_same 0 _).set_ne (by simp) _, ((r3.set_ne (by first | (simp; done) | (simp; omega)) _).set_ne (by simp) _).set_same 0 _, ((r8.set_ne (by first | (simp; done) | (simp; omega)) _).set_ne (by first | (simp; done) | (simp; omega)) _).set_ne (by first | (simp; done) | (simp; omega)) _, bl_set (bl_set (bl_set r4 (by dsimp only; omega) _) (by dsimp only; omega) _) (by dsimp only; omega) _, by simpa [World.setCell] using r5⟩
                · have t1 : (x.seq == s) = true := by simpa using hs1
                  have t2 : (x.len == (rs.length : Int)) = false := by simpa using hs2
                  have HH := Lib.hid (show hit s rs.length x = false from by simp [hit, hs2])
                  clear hs1 hs2
                  gi_wp2
                  exact ⟨KeepsFrom.refl _ _, Below.refl _ _, fun d hd => (List.mem_append.1 hd).elim (hnh d) (fun h => by rw [List.mem_singleton.1 h]; exact HH.out), r0, r1, r2, r3, r8, r4, r5⟩
              · have t1 : (x.seq == s) = false := by simpa using hs1
                have HH := Lib.hid (show hit s rs.length x = false from by simp [hit, hs1])
                clear hs1
                gi_wp2
                exact ⟨KeepsFrom.refl _ _, Below.refl _ _, fun d hd => (List.mem_append.1 hd).elim (hnh d) (fun h => by rw [List.mem_singleton.1 h]; exact HH.out), r0, r1, r2, r3, r8, r4, r5⟩
            case done0 =>
              rintro D ys W hD rfl ⟨hnh, r0, r1, r2, r3, r8, r4, r5⟩ hK
              have e0 := r0.cell
              have e1 := r1.cell
              have e2 := r2.cell
              have e3 := r3.cell
              have g1 := r1.unf
              have g2 := r2.unf
              have g3 := r3.unf
              have e8 : W.cell? ⟨w1.heap.size, 1, none⟩ = some (.int .i64 st0.next) := r8.get rfl
              have hf := List.find?_eq_none.2 (fun d hd => by simp [hnh d hd] : ∀ d ∈ lasts st0.ds, ¬ hit s rs.length d = true)
              have HF := Lib.hid hf
              clear hf hnh
              by_cases hlt : s < st0.next
              · go_wp2_with fail
                refine fin12 _ _ _ D (w.heap.size + 1) (w.heap.size + 1 + 1) (w.heap.size + 1 + 1 + 1) 0 false 52 rfl rfl rfl (((r1.set_same 0 _).set_ne (by simp) _).set_ne (by first | (simp; done) | (simp; omega)) _) (((r2.set_ne (by simp) _).set_same 0 _).set_ne (by simp) _) (((r3.set_ne (by first | (simp; done) | (simp; omega)) _).set_ne (by simp) _).set_same 0 _) ?_ ?_
                · exact (((KeepsOthers.setCell _ _ _).trans (KeepsOthers.setCell _ _ _)).trans (KeepsOthers.setCell _ _ _)).same D _ hK rfl
                · intro W' hg
                  refine ⟨?_, ?_⟩
                  · rw [HD2.out, ringF, if_neg HN.out]
                    have := HF.out
                    unfold hit at this
                    rw [this]
                    simp [hlt]
                  · exact bl_gr (bl_set (bl_set (bl_set r4 (by dsimp only; omega) _) (by dsimp only; omega) _) (by dsimp only; omega) _) hg (by simp at hD; omega)
              · go_wp2_with fail
                refine fin12 _ _ _ D (w.heap.size + 1) (w.heap.size + 1 + 1) (w.heap.size + 1 + 1 + 1) 0 false 51 rfl rfl rfl (((r1.set_same 0 _).set_ne (by simp) _).set_ne (by first | (simp; done) | (simp; omega)) _) (((r2.set_ne (by simp) _).set_same 0 _).set_ne (by simp) _) (((r3.set_ne (by first | (simp; done) | (simp; omega)) _).set_ne (by simp) _).set_same 0 _) ?_ ?_
                · exact (((KeepsOthers.setCell _ _ _).trans (KeepsOthers.setCell _ _ _)).trans (KeepsOthers.setCell _ _ _)).same D _ hK rfl
                · intro W' hg
                  refine ⟨?_, ?_⟩
                  · rw [HD2.out, ringF, if_neg HN.out]
                    have := HF.out
                    unfold hit at this
                    rw [this]
                    have hnl : ¬ s < st0.next := by omega
                    simp [hnl]
                  · exact bl_gr (bl_set (bl_set (bl_set r4 (by dsimp only; omega) _) (by dsimp only; omega) _) (by dsimp only; omega) _) hg (by simp at hD; omega)
            case stop0 =>
              rintro D cc pre W hD hpre ⟨rfl, d, hf, r0, r1, r2, r3, r8, r4, r5⟩ hK
              have HF := Lib.hid hf
              clear hf
              gi_wp2
              refine fin12 _ _ _ D (w.heap.size + 1) (w.heap.size + 1 + 1) (w.heap.size + 1 + 1 + 1) d.off true 0 rfl rfl rfl r1 r2 r3 hK ?_
              intro W' hg
              refine ⟨?_, bl_gr r4 hg (by simp at hD; omega)⟩
              rw [HD2.out, ringF, if_neg HN.out]
              obtain ⟨suf, hsuf⟩ := hpre
              have := HF.out
              unfold hit at this
              rw [← hsuf, List.find?_append, this]
              rfl
        · go_wp2_with fail
          refine ⟨.tuple #[.int .i64 (decideF (lookI m p) k p ep s t rs).1, .bool (decideF (lookI m p) k p ep s t rs).2.1, .int .i64 (decideF (lookI m p) k p ep s t rs).2.2], ?_, rfl, ?_⟩
          · rw [HD.out]; first | (simp [results, Try.results27, go_sem, *]; done) | (simp [results, Try.results27, go_sem, *]; rw [if_neg (by omega)]; simp)
          · exact bl_set (bl_set (bl_set hbB (by dsimp only; omega) _) (by dsimp only; omega) _) (by dsimp only; omega) _
      · by_cases h1 : ep < sp.epoch
        · go_wp2_with fail
          refine ⟨.tuple #[.int .i64 (decideF (lookI m p) k p ep s t rs).1, .bool (decideF (lookI m p) k p ep s t rs).2.1, .int .i64 (decideF (lookI m p) k p ep s t rs).2.2], ?_, rfl, ?_⟩
          · rw [HD.out]; first | (simp [results, Try.results27, go_sem, *]; done) | (simp [results, Try.results27, go_sem, *]; rw [if_neg (by omega)]; simp)
          · exact bl_set (bl_set (bl_set hbB (by dsimp only; omega) _) (by dsimp only; omega) _) (by dsimp only; omega) _
        · by_cases hk : k = 1
          · subst hk
            by_cases h2 : sp.epoch < ep
            · have HD2 := Lib.hid (show decideF (lookI m p) 1 p ep s t rs = ringF st0 s rs.length from by rw [HD.out]; simp [*])
              by_cases hn : s = st0.next
              · have hn1 : (s == st0.next) = true := by simpa using hn
                have HN := Lib.hid hn
                clear hn
                go_wp2_with (first | (refine wpList_load_blk rfl 95 _ rfl w1.heap.size (stCells st0) rfl hS2 _ Try.underlying95 rfl size76 ?_) | (refine wpList_store_blk rfl 95 _ _ rfl w1.heap.size (stCells sp) (stCells st0) rfl rfl hS rfl size76 (by simp [stCells, Value.oneCell']) ?_; intro w2 hS2 hg2 hz2; replace hB0 := hB0.grown hg2 (by simp; omega); replace hB1 := hB1.grown hg2 (by simp; omega); replace hB2 := hB2.grown hg2 (by simp; omega); replace hB3 := hB3.grown hg2 (by simp; omega); replace hbB := bl_gr hbB hg2 (by omega); clear hS hg2 hz2 s0 s1 q0 q1 q2 q3 f1 f2 f3; have q0 := hB0.cell; have q1 := hB1.cell; have q2 := hB2.cell; have q3 := hB3.cell; have f1 := hB1.unf; have f2 := hB2.unf; have f3 := hB3.unf; have s0 : w2.cell? ⟨w1.heap.size, 0, none⟩ = some (.int .i64 st0.epoch) := hS2.get rfl; have s1 : w2.cell? ⟨w1.heap.size, 1, none⟩ = some (.int .i64 st0.next) := hS2.get rfl))
                refine ⟨.tuple #[.int .i64 (decideF (lookI m p) 1 p ep s t rs).1, .bool (decideF (lookI m p) 1 p ep s t rs).2.1, .int .i64 (decideF (lookI m p) 1 p ep s t rs).2.2], ?_, rfl, ?_⟩
                · rw [HD2.out]; simp [results, Try.results27, go_sem, ringF, HN.out, *]
                · exact bl_set (bl_set (bl_set hbB (by dsimp only; omega) _) (by dsimp only; omega) _) (by dsimp only; omega) _
              · have hn1 : (s == st0.next) = false := by simpa using hn
                have HN := Lib.hid hn
                clear hn
                go_wp2_with (first | (refine wpList_load_blk rfl 95 _ rfl w1.heap.size (stCells st0) rfl hS2 _ Try.underlying95 rfl size76 ?_) | (refine wpList_store_blk rfl 95 _ _ rfl w1.heap.size (stCells sp) (stCells st0) rfl rfl hS rfl size76 (by simp [stCells, Value.oneCell']) ?_; intro w2 hS2 hg2 hz2; replace hB0 := hB0.grown hg2 (by simp; omega); replace hB1 := hB1.grown hg2 (by simp; omega); replace hB2 := hB2.grown hg2 (by simp; omega); replace hB3 := hB3.grown hg2 (by simp; omega); replace hbB := bl_gr hbB hg2 (by omega); clear hS hg2 hz2 s0 s1 q0 q1 q2 q3 f1 f2 f3; have q0 := hB0.cell; have q1 := hB1.cell; have q2 := hB2.cell; have q3 := hB3.cell; have f1 := hB1.unf; have f2 := hB2.unf; have f3 := hB3.unf; have s0 : w2.cell? ⟨w1.heap.size, 0, none⟩ = some (.int .i64 st0.epoch) := hS2.get rfl; have s1 : w2.cell? ⟨w1.heap.size, 1, none⟩ = some (.int .i64 st0.next) := hS2.get rfl))
                refine (lasts_any st0 _).mono ?_
                rintro e w3 ⟨rfl, rfl⟩
                go_wp2_with fail
                have hbox : Blk (w2.alloc (.cells (stCells st0).toArray 95)) w2.heap.size (stCells st0) := Blk.new' _ _ rfl
                have hz1 : w1.heap.size < w2.heap.size := hS2.lt
                have hrel0 : DRel w (w2.heap.size + 1) w.heap.size (w.heap.size + 1) (w.heap.size + 1 + 1) (w.heap.size + 1 + 1 + 1) w1.heap.size [.int .i64 1, .int .i64 p, .int .i64 ep, .int .i64 s, .bool t, .slice A rs.length c] (stCells st0) 0 false (w2.alloc (.cells (stCells st0).toArray 95)) := ⟨hB0.alloc _, hB1.alloc _, hB2.alloc _, hB3.alloc _, (hS2).alloc _, bl_alloc hbB _, by simp⟩
                refine (wpIn_wide (n := 8)).1 ?_
                refine wpIn_rangeFunc_ownH rfl (by omega) (gf := 63) (lb := #[.pointer (some ⟨w2.heap.size, 0, none⟩)]) rfl trivial (enters_of Try.func63 (by kernel_rfl) rfl)
                  (lasts_stops Fence.wide 7 trivial rfl (by omega) w2.heap.size (w2.heap.size + 1) st0 _ hbox (by omega) (by decide)) belowK_t (belowK_b (by simp)) (Below.refl _ _) (fun _ => rfl)
                  (fun pre W => (∀ d ∈ pre, hit s rs.length d = false) ∧ DRel w (w2.heap.size + 1) w.heap.size (w.heap.size + 1) (w.heap.size + 1 + 1) (w.heap.size + 1 + 1 + 1) w1.heap.size [.int .i64 1, .int .i64 p, .int .i64 ep, .int .i64 s, .bool t, .slice A rs.length c] (stCells st0) 0 false W)
                  (fun cc pre W => cc = Code.ret ∧ ∃ d, pre.find? (hit s rs.length) = some d ∧ DRel w (w2.heap.size + 1) w.heap.size (w.heap.size + 1) (w.heap.size + 1 + 1) (w.heap.size + 1 + 1 + 1) w1.heap.size [.int .i64 1, .int .i64 p, .int .i64 ep, .int .i64 s, .bool t, .slice A rs.length c] (stCells st0) d.off true W)
                  (fun pre A B row hs hg hr => ⟨hs.1, hs.2.step (by first | (simp; done) | (simp; omega)) (by first | (simp; done) | (simp; omega)) (by first | (simp; done) | (simp; omega)) (by first | (simp; done) | (simp; omega)) (by first | (simp; done) | (simp; omega)) (by first | (simp; done) | (simp; omega)) hg hr⟩)
                  (fun cc pre A B row hs hg hr => by obtain ⟨e, d, h1, h2⟩ := hs; exact ⟨e, d, h1, h2.step (by first | (simp; done) | (simp; omega)) (by first | (simp; done) | (simp; omega)) (by first | (simp; done) | (simp; omega)) (by first | (simp; done) | (simp; omega)) (by first | (simp; done) | (simp; omega)) (by first | (simp; done) | (simp; omega)) hg hr⟩)
                  ⟨by simp, hrel0⟩
                  (fun x a' W => ∃ Bx, w2.heap.size < Bx ∧ Blk W Bx [.int .i64 x.seq, .int .i64 x.len, .int .i64 x.off] ∧ a' = { tmps := #[Value.pointer (some ⟨tb, 0, none⟩), Value.agg #[Value.int IntKind.i64 1, Value.int IntKind.i64 p, Value.int IntKind.i64 ep, Value.int IntKind.i64 s, Value.bool t, Value.slice A rs.length c], undef, Value.pointer (some ⟨w.heap.size, 0, none⟩), Value.pointer (some ⟨w.heap.size + 1, 0, none⟩), Value.pointer (some ⟨w.heap.size + 1 + 1, 0, none⟩), Value.pointer (some ⟨w.heap.size + 1 + 1 + 1, 0, none⟩), Value.int IntKind.i64 0, Value.pointer (some ⟨w1.heap.size, 0, none⟩), Value.bool true, Value.pointer (some ⟨Bx, 0, none⟩), u11, u12, u13, u14, u15, u16, u17, u18, u19, u20, u21, u22, u23, u24, u25, u26, u27, u28, u29, u30, u31, u32, Value.bool false, Value.bool true, Value.bool true, Value.pointer (some ⟨w1.heap.size, 0, none⟩), Value.int IntKind.i64 sp.epoch, Value.pointer (some ⟨w.heap.size, 2, none⟩), Value.int IntKind.i64 ep, Value.bool false, Value.bool false, Value.bool false, Value.pointer (some ⟨w.heap.size, 0, none⟩), Value.int IntKind.i64 1, Value.bool false, Value.bool true, Value.bool true, Value.bool false, Value.bool false, Value.pointer (some ⟨w1.heap.size, 0, none⟩), Value.int IntKind.i64 sp.epoch, Value.pointer (some ⟨w.heap.size, 2, none⟩), Value.int IntKind.i64 ep, Value.bool true, Value.bool true, Value.agg #[Value.int IntKind.i64 0, Value.int IntKind.i64 0, Value.int IntKind.i64 0, Value.int IntKind.i64 0, Value.int IntKind.i64 0, Value.int IntKind.i64 0, Value.int IntKind.i64 0, Value.int IntKind.i64 0, Value.int IntKind.i64 0, Value.int IntKind.i64 0, Value.int IntKind.i64 0, Value.int IntKind.i64 0, Value.int IntKind.i64 0, Value.int IntKind.i64 0, Value.int IntKind.i64 0, Value.int IntKind.i64 0, Value.int IntKind.i64 0, Value.int IntKind.i64 0], Value.pointer (some ⟨w.heap.size, 3, none⟩), Value.int IntKind.i64 s, Value.pointer (some ⟨w1.heap.size, 1, none⟩), Value.int IntKind.i64 st0.next, Value.bool false, Value.agg (stCells st0).toArray, Value.func (Fn.func 63) #[] #[Value.pointer (some ⟨w2.heap.size, 0, none⟩)], Value.agg #[.int .i64 x.seq, .int .i64 x.len, .int .i64 x.off], undef, undef, undef, undef, undef, undef, undef, undef, undef, undef, undef, undef, undef, undef, undef, undef, undef, undef, undef, undef], defers := [] })
                  (fun x a' _ A B row hs hg hr => by obtain ⟨Bx, h1, h2, h3⟩ := hs; exact ⟨Bx, h1, h2.grown hg (by rintro e; obtain ⟨_, o, ho, hc⟩ := hr _ e.symm; exact h2.ne_other ho hc rfl), h3⟩)
                  ?assign1 ?body1 ?done1 ?stop1
                case assign1 =>
                  rintro l pre x W K ⟨hnh, hr⟩ hK
                  simp only [dnV]
                  gi_wp2
                  have hsz := hr.2.2.2.2.2.2
                  exact hK _ _ ((KeepsOthers.alloc _ _).from _) ((Below.refl _ W).alloc hsz _) ⟨hnh, hr.alloc _⟩ ⟨W.heap.size, by omega, Blk.new' _ _ rfl, rfl⟩
                case body1 =>
                  rintro l pre x a' W hl hrec ⟨hnh, hr⟩ ⟨Bx, hBx, bX, rfl⟩ hlt
                  obtain ⟨r0, r1, r2, r3, r8, r4, r5⟩ := hr
                  have e0 := r0.cell
                  have e1 := r1.cell
                  have e2 := r2.cell
                  have e3 := r3.cell
                  have g1 := r1.unf
                  have g2 := r2.unf
                  have g3 := r3.unf
                  have eX := bX.cell
                  by_cases hs1 : x.seq = s
                  · by_cases hs2 : x.len = (rs.length : Int)
                    · have t1 : (x.seq == s) = true := by simpa using hs1
                      have t2 : (x.len == (rs.length : Int)) = true := by simpa using hs2
                      have HH := Lib.hid (show hit s rs.length x = true from by simp [hit, hs1, hs2])
                      clear hs1 hs2
                      gi_wp2
                      refine ⟨(((KeepsOthers.setCell _ _ _).trans (KeepsOthers.setCell _ _ _)).trans (KeepsOthers.setCell _ _ _)).from _, rfl, x, ?_, ?_⟩
                      · rw [List.find?_append, List.find?_eq_none.2 (by intro d hd; simp [hnh d hd])]; simp [HH.out]
                      · exact ⟨((r0.set_ne (by simp) _).set_ne (by first | (simp; done) | (simp; omega)) _).set_ne (by first | (simp; done) | (simp; omega)) _, ((r1.set_same 0 _).set_ne (by simp) _).set_ne (by first | (simp; done) | (simp; omega)) _, ((r2.set_ne (by simp) _).set_same 0 _).set_ne (by simp) _, ((r3.set_ne (by first | (simp; done) | (simp; omega)) _).set_ne (by simp) _).set_same 0 _, ((r8.set_ne (by first | (simp; done) | (simp; omega)) _).set_ne (by first | (simp; done) | (simp; omega)) _).set_ne (by first | (simp; done) | (simp; omega)) _, bl_set (bl_set (bl_set r4 (by dsimp only; omega) _) (by dsimp only; omega) _) (by dsimp only; omega) _, by simpa [World.setCell] using r5⟩
                    · have t1 : (x.seq == s) = true := by simpa using hs1
                      have t2 : (x.len == (rs.length : Int)) = false := by simpa using hs2
                      have HH := Lib.hid (show hit s rs.length x = false from by simp [hit, hs2])
                      clear hs1 hs2
                      gi_wp2
                      exact ⟨KeepsFrom.refl _ _, Below.refl _ _, fun d hd => (List.mem_append.1 hd).elim (hnh d) (fun h => by rw [List.mem_singleton.1 h]; exact HH.out), r0, r1, r2, r3, r8, r4, r5⟩
                  · have t1 : (x.seq == s) = false := by simpa using hs1
                    have HH := Lib.hid (show hit s rs.length x = false from by simp [hit, hs1])
                    clear hs1
                    gi_wp2
                    exact ⟨KeepsFrom.refl _ _, Below.refl _ _, fun d hd => (List.mem_append.1 hd).elim (hnh d) (fun h => by rw [List.mem_singleton.1 h]; exact HH.out), r0, r1, r2, r3, r8, r4, r5⟩
                case done1 =>
                  rintro D ys W hD rfl ⟨hnh, r0, r1, r2, r3, r8, r4, r5⟩ hK
                  have e0 := r0.cell
                  have e1 := r1.cell
                  have e2 := r2.cell
                  have e3 := r3.cell
                  have g1 := r1.unf
                  have g2 := r2.unf
                  have g3 := r3.unf
                  have e8 : W.cell? ⟨w1.heap.size, 1, none⟩ = some (.int .i64 st0.next) := r8.get rfl
                  have hf := List.find?_eq_none.2 (fun d hd => by simp [hnh d hd] : ∀ d ∈ lasts st0.ds, ¬ hit s rs.length d = true)
                  have HF := Lib.hid hf
                  clear hf hnh
                  by_cases hlt : s < st0.next
                  · go_wp2_with fail
                    refine fin12 _ _ _ D (w.heap.size + 1) (w.heap.size + 1 + 1) (w.heap.size + 1 + 1 + 1) 0 false 52 rfl rfl rfl (((r1.set_same 0 _).set_ne (by simp) _).set_ne (by first | (simp; done) | (simp; omega)) _) (((r2.set_ne (by simp) _).set_same 0 _).set_ne (by simp) _) (((r3.set_ne (by first | (simp; done) | (simp; omega)) _).set_ne (by simp) _).set_same 0 _) ?_ ?_
                    · exact (((KeepsOthers.setCell _ _ _).trans (KeepsOthers.setCell _ _ _)).trans (KeepsOthers.setCell _ _ _)).same D _ hK rfl
                    · intro W' hg
                      refine ⟨?_, ?_⟩
                      · rw [HD2.out, ringF, if_neg HN.out]
                        have := HF.out
                        unfold hit at this
                        rw [this]
                        simp [hlt]
                      · exact bl_gr (bl_set (bl_set (bl_set r4 (by dsimp only; omega) _) (by dsimp only; omega) _) (by dsimp only; omega) _) hg (by simp at hD; omega)
                  · go_wp2_with fail
                    refine fin12 _ _ _ D (w.heap.size + 1) (w.heap.size + 1 + 1) (w.heap.size + 1 + 1 + 1) 0 false 51 rfl rfl rfl (((r1.set_same 0 _).set_ne (by simp) _).set_ne (by first | (simp; done) | (simp; omega)) _) (((r2.set_ne (by simp) _).set_same 0 _).set_ne (by simp) _) (((r3.set_ne (by first | (simp; done) | (simp; omega)) _).set_ne (by simp) _).set_same 0 _) ?_ ?_
                    · exact (((KeepsOthers.setCell _ _ _).trans (KeepsOthers.setCell _ _ _)).trans (KeepsOthers.setCell _ _ _)).same D _ hK rfl
                    · intro W' hg
                      refine ⟨?_, ?_⟩
                      · rw [HD2.out, ringF, if_neg HN.out]
                        have := HF.out
                        unfold hit at this
                        rw [this]
                        have hnl : ¬ s < st0.next := by omega
                        simp [hnl]
                      · exact bl_gr (bl_set (bl_set (bl_set r4 (by dsimp only; omega) _) (by dsimp only; omega) _) (by dsimp only; omega) _) hg (by simp at hD; omega)
                case stop1 =>
                  rintro D cc pre W hD hpre ⟨rfl, d, hf, r0, r1, r2, r3, r8, r4, r5⟩ hK
                  have HF := Lib.hid hf
                  clear hf
                  gi_wp2
                  refine fin12 _ _ _ D (w.heap.size + 1) (w.heap.size + 1 + 1) (w.heap.size + 1 + 1 + 1) d.off true 0 rfl rfl rfl r1 r2 r3 hK ?_
                  intro W' hg
                  refine ⟨?_, bl_gr r4 hg (by simp at hD; omega)⟩
                  rw [HD2.out, ringF, if_neg HN.out]
                  obtain ⟨suf, hsuf⟩ := hpre
                  have := HF.out
                  unfold hit at this
                  rw [← hsuf, List.find?_append, this]
                  rfl
            · have HD2 := Lib.hid (show decideF (lookI m p) 1 p ep s t rs = ringF sp s rs.length from by rw [HD.out]; simp [*])
              by_cases hn : s = sp.next
              · have hn1 : (s == sp.next) = true := by simpa using hn
                have HN := Lib.hid hn
                clear hn
                go_wp2_with (first | (refine wpList_load_blk rfl 95 _ rfl w1.heap.size (stCells sp) rfl hS _ Try.underlying95 rfl size76 ?_) | fail)
                refine ⟨.tuple #[.int .i64 (decideF (lookI m p) 1 p ep s t rs).1, .bool (decideF (lookI m p) 1 p ep s t rs).2.1, .int .i64 (decideF (lookI m p) 1 p ep s t rs).2.2], ?_, rfl, ?_⟩
                · rw [HD2.out]; simp [results, Try.results27, go_sem, ringF, HN.out, *]
                · exact bl_set (bl_set (bl_set hbB (by dsimp only; omega) _) (by dsimp only; omega) _) (by dsimp only; omega) _
              · have hn1 : (s == sp.next) = false := by simpa using hn
                have HN := Lib.hid hn
                clear hn
                go_wp2_with (first | (refine wpList_load_blk rfl 95 _ rfl w1.heap.size (stCells sp) rfl hS _ Try.underlying95 rfl size76 ?_) | fail)
                refine (lasts_any sp _).mono ?_
                rintro e w3 ⟨rfl, rfl⟩
                go_wp2_with fail
                have hbox : Blk (wc.alloc (.cells (stCells sp).toArray 95)) wc.heap.size (stCells sp) := Blk.new' _ _ rfl
                have hz1 : w1.heap.size < wc.heap.size := hS.lt
                have hrel0 : DRel w (wc.heap.size + 1) w.heap.size (w.heap.size + 1) (w.heap.size + 1 + 1) (w.heap.size + 1 + 1 + 1) w1.heap.size [.int .i64 1, .int .i64 p, .int .i64 ep, .int .i64 s, .bool t, .slice A rs.length c] (stCells sp) 0 false (wc.alloc (.cells (stCells sp).toArray 95)) := ⟨hB0.alloc _, hB1.alloc _, hB2.alloc _, hB3.alloc _, (hS).alloc _, bl_alloc hbB _, by simp⟩
                refine (wpIn_wide (n := 8)).1 ?_
                refine wpIn_rangeFunc_ownH rfl (by omega) (gf := 63) (lb := #[.pointer (some ⟨wc.heap.size, 0, none⟩)]) rfl trivial (enters_of Try.func63 (by kernel_rfl) rfl)
                  (lasts_stops Fence.wide 7 trivial rfl (by omega) wc.heap.size (wc.heap.size + 1) sp _ hbox (by omega) HL.out) belowK_t (belowK_b (by simp)) (Below.refl _ _) (fun _ => rfl)
                  (fun pre W => (∀ d ∈ pre, hit s rs.length d = false) ∧ DRel w (wc.heap.size + 1) w.heap.size (w.heap.size + 1) (w.heap.size + 1 + 1) (w.heap.size + 1 + 1 + 1) w1.heap.size [.int .i64 1, .int .i64 p, .int .i64 ep, .int .i64 s, .bool t, .slice A rs.length c] (stCells sp) 0 false W)
                  (fun cc pre W => cc = Code.ret ∧ ∃ d, pre.find? (hit s rs.length) = some d ∧ DRel w (wc.heap.size + 1) w.heap.size (w.heap.size + 1) (w.heap.size + 1 + 1) (w.heap.size + 1 + 1 + 1) w1.heap.size [.int .i64 1, .int .i64 p, .int .i64 ep, .int .i64 s, .bool t, .slice A rs.length c] (stCells sp) d.off true W)
                  (fun pre A B row hs hg hr => ⟨hs.1, hs.2.step (by first | (simp; done) | (simp; omega)) (by first | (simp; done) | (simp; omega)) (by first | (simp; done) | (simp; omega)) (by first | (simp; done) | (simp; omega)) (by first | (simp; done) | (simp; omega)) (by first | (simp; done) | (simp; omega)) hg hr⟩)
                  (fun cc pre A B row hs hg hr => by obtain ⟨e, d, h1, h2⟩ := hs; exact ⟨e, d, h1, h2.step (by first | (simp; done) | (simp; omega)) (by first | (simp; done) | (simp; omega)) (by first | (simp; done) | (simp; omega)) (by first | (simp; done) | (simp; omega)) (by first | (simp; done) | (simp; omega)) (by first | (simp; done) | (simp; omega)) hg hr⟩)
                  ⟨by simp, hrel0⟩
                  (fun x a' W => ∃ Bx, wc.heap.size < Bx ∧ Blk W Bx [.int .i64 x.seq, .int .i64 x.len, .int .i64 x.off] ∧ a' = { tmps := #[Value.pointer (some ⟨tb, 0, none⟩), Value.agg #[Value.int IntKind.i64 1, Value.int IntKind.i64 p, Value.int IntKind.i64 ep, Value.int IntKind.i64 s, Value.bool t, Value.slice A rs.length c], undef, Value.pointer (some ⟨w.heap.size, 0, none⟩), Value.pointer (some ⟨w.heap.size + 1, 0, none⟩), Value.pointer (some ⟨w.heap.size + 1 + 1, 0, none⟩), Value.pointer (some ⟨w.heap.size + 1 + 1 + 1, 0, none⟩), Value.int IntKind.i64 0, Value.pointer (some ⟨w1.heap.size, 0, none⟩), Value.bool true, Value.pointer (some ⟨Bx, 0, none⟩), u11, u12, u13, u14, u15, u16, u17, u18, u19, u20, u21, u22, u23, u24, u25, u26, u27, u28, u29, u30, u31, u32, Value.bool false, Value.bool true, Value.bool true, Value.pointer (some ⟨w1.heap.size, 0, none⟩), Value.int IntKind.i64 sp.epoch, Value.pointer (some ⟨w.heap.size, 2, none⟩), Value.int IntKind.i64 ep, Value.bool false, Value.bool false, Value.bool false, Value.pointer (some ⟨w.heap.size, 0, none⟩), Value.int IntKind.i64 1, Value.bool false, Value.bool false, Value.bool true, Value.bool false, Value.bool false, Value.pointer (some ⟨w1.heap.size, 0, none⟩), Value.int IntKind.i64 sp.epoch, Value.pointer (some ⟨w.heap.size, 2, none⟩), Value.int IntKind.i64 ep, Value.bool false, Value.bool false, undef, Value.pointer (some ⟨w.heap.size, 3, none⟩), Value.int IntKind.i64 s, Value.pointer (some ⟨w1.heap.size, 1, none⟩), Value.int IntKind.i64 sp.next, Value.bool false, Value.agg (stCells sp).toArray, Value.func (Fn.func 63) #[] #[Value.pointer (some ⟨wc.heap.size, 0, none⟩)], Value.agg #[.int .i64 x.seq, .int .i64 x.len, .int .i64 x.off], undef, undef, undef, undef, undef, undef, undef, undef, undef, undef, undef, undef, undef, undef, undef, undef, undef, undef, undef, undef], defers := [] })
                  (fun x a' _ A B row hs hg hr => by obtain ⟨Bx, h1, h2, h3⟩ := hs; exact ⟨Bx, h1, h2.grown hg (by rintro e; obtain ⟨_, o, ho, hc⟩ := hr _ e.symm; exact h2.ne_other ho hc rfl), h3⟩)
                  ?assign2 ?body2 ?done2 ?stop2
                case assign2 =>
                  rintro l pre x W K ⟨hnh, hr⟩ hK
                  simp only [dnV]
                  gi_wp2
                  have hsz := hr.2.2.2.2.2.2
                  exact hK _ _ ((KeepsOthers.alloc _ _).from _) ((Below.refl _ W).alloc hsz _) ⟨hnh, hr.alloc _⟩ ⟨W.heap.size, by omega, Blk.new' _ _ rfl, rfl⟩
                case body2 =>
                  rintro l pre x a' W hl hrec ⟨hnh, hr⟩ ⟨Bx, hBx, bX, rfl⟩ hlt
                  obtain ⟨r0, r1, r2, r3, r8, r4, r5⟩ := hr
                  have e0 := r0.cell
                  have e1 := r1.cell
                  have e2 := r2.cell
                  have e3 := r3.cell
                  have g1 := r1.unf
                  have g2 := r2.unf
                  have g3 := r3.unf
                  have eX := bX.cell
                  by_cases hs1 : x.seq = s
                  · by_cases hs2 : x.len = (rs.length : Int)
                    · have t1 : (x.seq == s) = true := by simpa using hs1
                      have t2 : (x.len == (rs.length : Int)) = true := by simpa using hs2
                      have HH := Lib.hid (show hit s rs.length x = true from by simp [hit, hs1, hs2])
                      clear hs1 hs2
                      gi_wp2
                      refine ⟨(((KeepsOthers.setCell _ _ _).trans (KeepsOthers.setCell _ _ _)).trans (KeepsOthers.setCell _ _ _)).from _, rfl, x, ?_, ?_⟩
                      · rw [List.find?_append, List.find?_eq_none.2 (by intro d hd; simp [hnh d hd])]; simp [HH.out]
                      · exact ⟨((r0.set_ne (by simp) _).set_ne (by first | (simp; done) | (simp; omega)) _).set_ne (by first | (simp; done) | (simp; omega)) _, ((r1.set_same 0 _).set_ne (by simp) _).set_ne (by first | (simp; done) | (simp; omega)) _, ((r2.set_ne (by simp) _).set_same 0 _).set_ne (by simp) _, ((r3.set_ne (by first | (simp; done) | (simp; omega)) _).set_ne (by simp) _).set_same 0 _, ((r8.set_ne (by first | (simp; done) | (simp; omega)) _).set_ne (by first | (simp; done) | (simp; omega)) _).set_ne (by first | (simp; done) | (simp; omega)) _, bl_set (bl_set (bl_set r4 (by dsimp only; omega) _) (by dsimp only; omega) _) (by dsimp only; omega) _, by simpa [World.setCell] using r5⟩
                    · have t1 : (x.seq == s) = true := by simpa using hs1
                      have t2 : (x.len == (rs.length : Int)) = false := by simpa using hs2
                      have HH := Lib.hid (show hit s rs.length x = false from by simp [hit, hs2])
                      clear hs1 hs2
                      gi_wp2
                      exact ⟨KeepsFrom.refl _ _, Below.refl _ _, fun d hd => (List.mem_append.1 hd).elim (hnh d) (fun h => by rw [List.mem_singleton.1 h]; exact HH.out), r0, r1, r2, r3, r8, r4, r5⟩
                  · have t1 : (x.seq == s) = false := by simpa using hs1
                    have HH := Lib.hid (show hit s rs.length x = false from by simp [hit, hs1])
                    clear hs1
                    gi_wp2
                    exact ⟨KeepsFrom.refl _ _, Below.refl _ _, fun d hd => (List.mem_append.1 hd).elim (hnh d) (fun h => by rw [List.mem_singleton.1 h]; exact HH.out), r0, r1, r2, r3, r8, r4, r5⟩
                case done2 =>
                  rintro D ys W hD rfl ⟨hnh, r0, r1, r2, r3, r8, r4, r5⟩ hK
                  have e0 := r0.cell
                  have e1 := r1.cell
                  have e2 := r2.cell
                  have e3 := r3.cell
                  have g1 := r1.unf
                  have g2 := r2.unf
                  have g3 := r3.unf
                  have e8 : W.cell? ⟨w1.heap.size, 1, none⟩ = some (.int .i64 sp.next) := r8.get rfl
                  have hf := List.find?_eq_none.2 (fun d hd => by simp [hnh d hd] : ∀ d ∈ lasts sp.ds, ¬ hit s rs.length d = true)
                  have HF := Lib.hid hf
                  clear hf hnh
                  by_cases hlt : s < sp.next
                  · go_wp2_with fail
                    refine fin12 _ _ _ D (w.heap.size + 1) (w.heap.size + 1 + 1) (w.heap.size + 1 + 1 + 1) 0 false 52 rfl rfl rfl (((r1.set_same 0 _).set_ne (by simp) _).set_ne (by first | (simp; done) | (simp; omega)) _) (((r2.set_ne (by simp) _).set_same 0 _).set_ne (by simp) _) (((r3.set_ne (by first | (simp; done) | (simp; omega)) _).set_ne (by simp) _).set_same 0 _) ?_ ?_
                    · exact (((KeepsOthers.setCell _ _ _).trans (KeepsOthers.setCell _ _ _)).trans (KeepsOthers.setCell _ _ _)).same D _ hK rfl
                    · intro W' hg
                      refine ⟨?_, ?_⟩
                      · rw [HD2.out, ringF, if_neg HN.out]
                        have := HF.out
                        unfold hit at this
                        rw [this]
                        simp [hlt]
                      · exact bl_gr (bl_set (bl_set (bl_set r4 (by dsimp only; omega) _) (by dsimp only; omega) _) (by dsimp only; omega) _) hg (by simp at hD; omega)
                  · go_wp2_with fail
                    refine fin12 _ _ _ D (w.heap.size + 1) (w.heap.size + 1 + 1) (w.heap.size + 1 + 1 + 1) 0 false 51 rfl rfl rfl (((r1.set_same 0 _).set_ne (by simp) _).set_ne (by first | (simp; done) | (simp; omega)) _) (((r2.set_ne (by simp) _).set_same 0 _).set_ne (by simp) _) (((r3.set_ne (by first | (simp; done) | (simp; omega)) _).set_ne (by simp) _).set_same 0 _) ?_ ?_
                    · exact (((KeepsOthers.setCell _ _ _).trans (KeepsOthers.setCell _ _ _)).trans (KeepsOthers.setCell _ _ _)).same D _ hK rfl
                    · intro W' hg
                      refine ⟨?_, ?_⟩
                      · rw [HD2.out, ringF, if_neg HN.out]
                        have := HF.out
                        unfold hit at this
                        rw [this]
                        have hnl : ¬ s < sp.next := by omega
                        simp [hnl]
                      · exact bl_gr (bl_set (bl_set (bl_set r4 (by dsimp only; omega) _) (by dsimp only; omega) _) (by dsimp only; omega) _) hg (by simp at hD; omega)
                case stop2 =>
                  rintro D cc pre W hD hpre ⟨rfl, d, hf, r0, r1, r2, r3, r8, r4, r5⟩ hK
                  have HF := Lib.hid hf
                  clear hf
                  gi_wp2
                  refine fin12 _ _ _ D (w.heap.size + 1) (w.heap.size + 1 + 1) (w.heap.size + 1 + 1 + 1) d.off true 0 rfl rfl rfl r1 r2 r3 hK ?_
                  intro W' hg
                  refine ⟨?_, bl_gr r4 hg (by simp at hD; omega)⟩
                  rw [HD2.out, ringF, if_neg HN.out]
                  obtain ⟨suf, hsuf⟩ := hpre
                  have := HF.out
                  unfold hit at this
                  rw [← hsuf, List.find?_append, this]
                  rfl
          · go_wp2_with fail
            refine ⟨.tuple #[.int .i64 (decideF (lookI m p) k p ep s t rs).1, .bool (decideF (lookI m p) k p ep s t rs).2.1, .int .i64 (decideF (lookI m p) k p ep s t rs).2.2], ?_, rfl, ?_⟩
            · rw [HD.out]; first | (simp [results, Try.results27, go_sem, *]; done) | (simp [results, Try.results27, go_sem, *]; rw [if_neg (by omega)]; simp)
            · exact bl_set (bl_set (bl_set hbB (by dsimp only; omega) _) (by dsimp only; omega) _) (by dsimp only; omega) _
  · refine ⟨.tuple #[.int .i64 (decideF (lookI m p) k p ep s t rs).1, .bool (decideF (lookI m p) k p ep s t rs).2.1, .int .i64 (decideF (lookI m p) k p ep s t rs).2.2], ?_, rfl, ?_⟩
    · simp [results, Try.results27, go_sem, decideF, *]
    · exact bl_set (bl_set (bl_set hbB (by dsimp only; omega) _) (by dsimp only; omega) _) (by dsimp only; omega) _
end Go.Proofs.Ytejjiiakficafaa
