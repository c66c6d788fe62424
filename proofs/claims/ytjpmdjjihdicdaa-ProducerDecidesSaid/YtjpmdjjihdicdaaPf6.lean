/- ProducerDecides: whatever the entries, the batch and the offset, the law returns true, and they read behind the call as before. No condition. -/
import Derived.Test.YtjpmdjjihdicdaaOpu
import Derived.Test.YtjpmdjjihdicdaaDe
namespace Go.Proofs.Ytjpmdjjihdicdaa
open Go.ChangeShapes Go.WideShapes Go.ChangeAt Go.RowKit Go.Deep

set_option maxRecDepth 100000 in
theorem decides_lifted (os : Os) (started : os.Started) (H : Type) (enc : TypeId × Value → H) :
    ReturnsInHanded {} Try.checked os 8 .any (Rows.producerDecidesSpec.pre6 enc Try.prog Try.f8 Rows.producerDecidesRow.domain false) (Rows.producerDecidesSpec.post enc Try.prog Try.f8 false true false false) := by
  refine returnsInHanded_of_change_sized (C := Try.checked) Try.own started (by kernel_rfl) Try.func8
    (ChangeSpec.witness6 (enc := enc) (C := Try.checked) false ⟨#[], #[.slice none 0 0, .agg #[.int .i64 0, .int .i64 0, .int .i64 0, .int .i64 0, .bool false, .slice none 0 0], .int .i64 0], []⟩ 8 (by kernel_rfl) (by kernel_rfl) (by kernel_rfl) (by kernel_rfl)) ?_
  intro W base args ds gs before hval0 hW _ hsz0 _
  have hsz : (DataW.weightsEach Try.prog (Try.f8.params.toList ++ Rows.producerDecidesSpec.plain.varTypes Try.prog) (ds ++ gs)).all (· ≤ reachBytes) = true := hsz0
  have hW' := hW
  obtain ⟨p, q, hA0, hV, rfl, hfz, hnd⟩ := hW
  have hA : DataW.TrodAll enc Try.prog W 0 (fun _ => true) true Try.f8.params.toList args.toList ds p := hA0
  rw [Try.params8] at hA hsz
  obtain ⟨v0, vs0, d0, ds0, p0, q0, hargs, rfl, rfl, h0, r0⟩ := trodAll_cons hA
  obtain ⟨v1, vs1, d1, ds1, p1, q1, rfl, rfl, rfl, h1, r1⟩ := trodAll_cons r0
  obtain ⟨v2, vs2, d2, ds2, p2, q2, rfl, rfl, rfl, h2, r2⟩ := trodAll_cons r1
  obtain ⟨rfl, rfl, rfl⟩ := trodAll_nil r2
  obtain rfl : args = #[v0, v1, v2] := by cases args; simp_all
  obtain ⟨rfl, rfl⟩ := trodVars_none hV
  have h0k := h0
  have h1k := h1
  have h2k := h2
  obtain ⟨n0, t0⟩ := h0
  obtain ⟨n1, t1⟩ := h1
  obtain ⟨n2, t2⟩ := h2
  have z0 : Sized Try.prog 42 d0 := Sized.arg hsz (j := 0) rfl rfl
  obtain ⟨A0, c0, l0, e0, _, x0, b0⟩ := open_list isEnt 4 Try.underlying42 c92 (by omega) (fun _ _ _ => open_ent) t0 z0
  rw [b92] at b0
  obtain ⟨a0, m0, k0, rfl⟩ := okWide_slice (P := Try.prog) Try.underlying42 (hval0 0 42 v0 (by rw [Try.params8]; rfl) rfl)
  simp only [Value.cells, List.cons.injEq, Value.slice.injEq, and_true] at e0
  obtain ⟨rfl, rfl, rfl⟩ := e0
  simp only [reachBytes] at b0
  obtain ⟨g0, f0⟩ := entsAt_of x0
  have z1 : Sized Try.prog 30 d1 := Sized.arg hsz (j := 1) rfl rfl
  obtain ⟨bk1, bp1, be1, bs1, bt1, rs1, A1, c1, e1, g1, f1⟩ := open_bat t1 z1
  obtain ⟨y1, rfl, _⟩ := okWide_struct (P := Try.prog) Try.underlying30 (hval0 1 30 v1 (by rw [Try.params8]; rfl) rfl)
  simp only [Value.cells] at e1
  obtain rfl : y1 = #[.int .i64 bk1, .int .i64 bp1, .int .i64 be1, .int .i64 bs1, .bool bt1, .slice A1 rs1.length c1] := by rw [← Array.toArray_toList (xs := y1), e1]
  obtain ⟨z2, e2, f2⟩ := open_i64 Try.underlying3 t2
  obtain ⟨y2, rfl⟩ := okWide_int (P := Try.prog) Try.underlying3 (hval0 2 3 v2 (by rw [Try.params8]; rfl) rfl)
  simp only [Value.cells, List.cons.injEq, Value.int.injEq, and_true, true_and] at e2
  subst e2
  have hlt0 : ∀ x ∈ p0, x.block < W.heap.size := fun x hx => hW'.lt x (by simp [hx])
  have hlt1 : ∀ x ∈ p1, x.block < W.heap.size := fun x hx => hW'.lt x (by simp [hx])
  have hlt2 : ∀ x ∈ p2, x.block < W.heap.size := fun x hx => hW'.lt x (by simp [hx])
  refine (decides_any a0 A1 k0 c1 l0 bk1 bp1 be1 bs1 y2 bt1 rs1 W g0 (fun x hx => ent_ok (f0 x hx)) (fun x hx => (f0 x hx).2.2.2.1) (by omega) g1 ⟨f1.1, f1.2.1, f1.2.2.1, f1.2.2.2, f2⟩).mono fun e W' ⟨he, hb⟩ => ?_
  subst he
  exact ⟨_, rfl, _, _, _, [], p0 ++ (p1 ++ (p2 ++ [])), [], hW', trodAll_mk1 (shut_bool Try.underlying4 _),
    (trodAll_cons_mk (Below.trod Try.laidOut (by kernel_rfl) (of_decide_eq_true (by kernel_rfl)) h0k hb hlt0) (trodAll_cons_mk (Below.trod Try.laidOut (by kernel_rfl) (of_decide_eq_true (by kernel_rfl)) h1k hb hlt1) (trodAll_cons_mk (Below.trod Try.laidOut (by kernel_rfl) (of_decide_eq_true (by kernel_rfl)) h2k hb hlt2) trodAll_mk0))), rfl, hb.frame _, fun h => by cases h⟩

theorem decides_holds : Rows.ProducerDecidesSaid :=
  OpenClaim.holds_of_wide 8 Try.f8 rfl rfl rfl rfl rfl rfl rfl ⟨rfl, rfl, rfl, rfl, rfl⟩ rfl rfl rfl rfl rfl (by kernel_rfl) Try.func8 (by kernel_rfl)
    (of_decide_eq_true (by kernel_rfl)) (by unfold Func.isWrapper; first | (rw [if_pos (by decide +kernel)]; kernel_rfl) | (rw [if_neg (by decide +kernel)]; exact ⟨rfl, rfl⟩))
    (fun os started H enc _ => decides_lifted os started H enc)
#print axioms decides_holds
end Go.Proofs.Ytjpmdjjihdicdaa
