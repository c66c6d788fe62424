/- ProducerOnce: whatever the operations, the law returns true, and they read behind the call as before. No condition. -/
import Derived.Test.YtjpmdjjihdicdaaOpen
import Derived.OpenShut
import Derived.Test.YtjpmdjjihdicdaaOnce
namespace Go.Proofs.Ytjpmdjjihdicdaa
open Go.ChangeShapes Go.WideShapes Go.ChangeAt Go.RowKit Go.Deep

theorem Try.own : ownKnob Try.prog.godebug = none := by kernel_rfl
theorem c3 : Try.prog.cellsOf 3 = 1 := by kernel_rfl
theorem c4 : Try.prog.cellsOf 4 = 1 := by kernel_rfl
theorem c9 : Try.prog.cellsOf 9 = 1 := by kernel_rfl
theorem c28 : Try.prog.cellsOf 28 = 1 := by kernel_rfl
theorem c30 : Try.prog.cellsOf 30 = 6 := by kernel_rfl
theorem c33 : Try.prog.cellsOf 33 = 8 := by kernel_rfl
theorem c84 : Try.prog.cellsOf 84 = 3 := by kernel_rfl
theorem b33 : Try.prog.bytesOf 33 = 80 := by kernel_rfl
theorem b84 : Try.prog.bytesOf 84 = 40 := by kernel_rfl

section
variable {H : Type} {enc : TypeId × Value → H} {w : World} {base : Nat} {spare : Nat → Bool} {held : Bool} {fuel : Nat} {cs : List Value} {x : DataW H × List MemPlace}

def isRec (_ : World) (cs : List Value) (r : Rec) : Prop := cs = recV r ∧ r.key.size ≤ 140737488351232 ∧ r.val.size ≤ 140737488351232
theorem open_rec (h : DataW.trod enc Try.prog w base spare held fuel 84 cs = some x) (hs : Sized Try.prog 84 x.1) : ∃ r : Rec, isRec w cs r := by
  obtain ⟨n, hl, hf⟩ := open_struct Try.underlying84 h hs
  obtain ⟨y0, h0, s0⟩ := hf 0 9 0 1 rfl c9
  obtain ⟨y1, h1, s1⟩ := hf 1 9 1 1 rfl c9
  obtain ⟨y2, h2, _⟩ := hf 2 4 2 1 rfl c4
  obtain ⟨a0, e0, z0⟩ := open_str Try.underlying9 h0 s0
  obtain ⟨a1, e1, z1⟩ := open_str Try.underlying9 h1 s1
  obtain ⟨a2, e2⟩ := open_bl Try.underlying4 h2
  rw [c84] at hl
  replace e0 := cut_eq e0
  replace e1 := cut_eq e1
  replace e2 := cut_eq e2
  simp only [Nat.reduceAdd, List.drop_zero, cut_end hl] at e0 e1 e2
  exact ⟨⟨a0, a1, a2⟩, by rw [e0, e1, e2]; rfl, z0, z1⟩

theorem recsAt_of {w : World} {A : Option Addr} {rs : List Rec} (h : SlAt w A 3 isRec rs) (hn : rs.length * 40 ≤ 140737488351232) : RecsAt w A rs := by
  refine ⟨by omega, fun i hi => ?_⟩
  obtain ⟨b, o, cs, hA, hlt, hl, hc, hx, z0, z1⟩ := h i hi
  subst hx
  exact ⟨b, o, hA, hlt, hc 0 (by omega), hc 1 (by omega), hc 2 (by omega), z0, z1⟩

def isOp (w : World) (cs : List Value) (o : OpD) : Prop := o.fits ∧ ∃ A c, RecsAt w A o.rs ∧ cs = [.bool o.note, .int .i64 o.k, .int .i64 o.p, .int .i64 o.ep, .int .i64 o.s, .bool o.t, .slice A o.rs.length c, .int .i64 o.off]
theorem open_op (h : DataW.trod enc Try.prog w base spare held fuel 33 cs = some x) (hs : Sized Try.prog 33 x.1) : ∃ o : OpD, isOp w cs o := by
  obtain ⟨n, hl, hf⟩ := open_struct Try.underlying33 h hs
  obtain ⟨y0, h0, s0⟩ := hf 0 4 0 1 rfl c4
  obtain ⟨y1, h1, s1⟩ := hf 1 30 1 6 rfl c30
  obtain ⟨y2, h2, s2⟩ := hf 2 3 7 1 rfl c3
  obtain ⟨a0, e0⟩ := open_bl Try.underlying4 h0
  obtain ⟨a2, e2, f2⟩ := open_i64 Try.underlying3 h2
  obtain ⟨m, hl1, hf1⟩ := open_struct Try.underlying30 h1 s1
  obtain ⟨u0, g0, t0⟩ := hf1 0 3 0 1 rfl c3
  obtain ⟨u1, g1, t1⟩ := hf1 1 3 1 1 rfl c3
  obtain ⟨u2, g2, t2⟩ := hf1 2 3 2 1 rfl c3
  obtain ⟨u3, g3, t3⟩ := hf1 3 3 3 1 rfl c3
  obtain ⟨u4, g4, t4⟩ := hf1 4 4 4 1 rfl c4
  obtain ⟨u5, g5, t5⟩ := hf1 5 28 5 1 rfl c28
  obtain ⟨k0, d0, o0⟩ := open_i64 Try.underlying3 g0
  obtain ⟨k1, d1, o1⟩ := open_i64 Try.underlying3 g1
  obtain ⟨k2, d2, o2⟩ := open_i64 Try.underlying3 g2
  obtain ⟨k3, d3, o3⟩ := open_i64 Try.underlying3 g3
  obtain ⟨k4, d4⟩ := open_bl Try.underlying4 g4
  obtain ⟨A, c, rs, d5, _, hrs, hrn⟩ := open_list isRec 3 Try.underlying28 c84 (by omega) (fun _ _ _ => open_rec) g5 t5
  rw [b84] at hrn
  rw [c33] at hl
  rw [c30] at hl1
  replace e0 := cut_eq e0
  replace e2 := cut_eq e2
  have e1 := cut_eq (cs := cs) (a := 1) (b := 6) rfl
  replace d0 := cut_eq d0
  replace d1 := cut_eq d1
  replace d2 := cut_eq d2
  replace d3 := cut_eq d3
  replace d4 := cut_eq d4
  replace d5 := cut_eq d5
  simp only [Nat.reduceAdd, List.drop_zero, cut_end hl, cut_end hl1] at e0 e1 e2 d0 d1 d2 d3 d4 d5
  refine ⟨⟨a0, k0, k1, k2, k3, k4, rs, a2⟩, ⟨o0, o1, o2, o3, f2⟩, A, c, recsAt_of hrs hrn, ?_⟩
  rw [e0, e1, e2, d0, d1, d2, d3, d4, d5]
  rfl
end

theorem opsAt_of {w : World} {A : Option Addr} {l : List OpD} (h : SlAt w A 8 isOp l) (hn : l.length * 80 ≤ 140737488351232) : OpsAt w A l := by
  refine ⟨by omega, fun i hi => ?_⟩
  obtain ⟨b, o, cs, hA, hlt, hl, hc, hf, A', c', hr, rfl⟩ := h i hi
  exact ⟨b, o, A', c', hA, hlt, hr, hf, hc 0 (by omega), hc 1 (by omega), hc 2 (by omega), hc 3 (by omega), hc 4 (by omega), hc 5 (by omega), hc 6 (by omega), hc 7 (by omega)⟩

set_option maxRecDepth 100000 in
theorem once_lifted (os : Os) (started : os.Started) (H : Type) (enc : TypeId × Value → H) :
    ReturnsInHanded {} Try.checked os 3 .any (Rows.producerOnceSpec.pre6 enc Try.prog Try.f3 Rows.producerOnceRow.domain false) (Rows.producerOnceSpec.post enc Try.prog Try.f3 false true false false) := by
  refine returnsInHanded_of_change_sized (C := Try.checked) Try.own started (by kernel_rfl) Try.func3
    (ChangeSpec.witness6 (enc := enc) (C := Try.checked) false ⟨#[], #[.slice none 0 0], []⟩ 8 (by kernel_rfl) (by kernel_rfl) (by kernel_rfl) (by kernel_rfl)) ?_
  intro W base args ds gs before hval0 hW _ hsz0 _
  have hsz : (DataW.weightsEach Try.prog (Try.f3.params.toList ++ Rows.producerOnceSpec.plain.varTypes Try.prog) (ds ++ gs)).all (· ≤ reachBytes) = true := hsz0
  have hW' := hW
  obtain ⟨p, q, hA0, hV, rfl, hfz, hnd⟩ := hW
  have hA : DataW.TrodAll enc Try.prog W 0 (fun _ => true) true Try.f3.params.toList args.toList ds p := hA0
  rw [Try.params3] at hA hsz
  obtain ⟨v0, vs0, d0, ds0, p0, q0, hargs, rfl, rfl, h0, r0⟩ := trodAll_cons hA
  obtain ⟨rfl, rfl, rfl⟩ := trodAll_nil r0
  obtain rfl : args = #[v0] := by cases args; simp_all
  obtain ⟨rfl, rfl⟩ := trodVars_none hV
  have h0k := h0
  obtain ⟨n0, t0⟩ := h0
  have z0 : Sized Try.prog 22 d0 := Sized.arg hsz (j := 0) rfl rfl
  obtain ⟨A0, c0, l0, e0, _, x0, b0⟩ := open_list isOp 8 Try.underlying22 c33 (by omega) (fun _ _ _ => open_op) t0 z0
  rw [b33] at b0
  obtain ⟨a0, n0, k0, rfl⟩ := okWide_slice (P := Try.prog) Try.underlying22 (hval0 0 22 v0 (by rw [Try.params3]; rfl) rfl)
  simp only [Value.cells, List.cons.injEq, Value.slice.injEq, and_true] at e0
  obtain ⟨rfl, rfl, rfl⟩ := e0
  have hlt : ∀ x ∈ p0, x.block < W.heap.size := fun x hx => hW'.lt x (by simpa using hx)
  refine (once_any a0 k0 l0 W (opsAt_of x0 b0)).mono fun e W' ⟨he, hb⟩ => ?_
  subst he
  exact ⟨_, rfl, _, _, _, [], p0 ++ [], [], hW', trodAll_mk1 (shut_bool Try.underlying4 _),
    trodAll_cons_mk (Below.trod Try.laidOut (by kernel_rfl) (of_decide_eq_true (by kernel_rfl)) h0k hb hlt) trodAll_mk0, rfl, hb.frame _, fun h => by cases h⟩

theorem once_holds : Rows.ProducerOnceSaid :=
  OpenClaim.holds_of_wide 3 Try.f3 rfl rfl rfl rfl rfl rfl rfl ⟨rfl, rfl, rfl, rfl, rfl⟩ rfl rfl rfl rfl rfl (by kernel_rfl) Try.func3 (by kernel_rfl)
    (of_decide_eq_true (by kernel_rfl)) (by unfold Func.isWrapper; first | (rw [if_pos (by decide +kernel)]; kernel_rfl) | (rw [if_neg (by decide +kernel)]; exact ⟨rfl, rfl⟩))
    (fun os started H enc _ => once_lifted os started H enc)
#print axioms once_holds
end Go.Proofs.Ytjpmdjjihdicdaa
