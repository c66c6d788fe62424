/- DiskPlays, up to the bound on the arguments' bulk: whatever the numbers and the operations, the law returns true, and what was handed over reads behind the call as before. Condition: the arguments' bulk is at most the bound of the Rows text. -/
import Derived.Test.YteaenhmiomoocaaOpu
import Derived.Test.YteaenhmiomoocaaOf
import Derived.Test.YteaenhmiomoocaaRz
namespace Go.Proofs.Yteaenhmiomoocaa
open Go.ChangeShapes Go.WideShapes Go.ChangeAt Go.RowKit Go.Deep

theorem ops_small {w : World} {A : Option Addr} {l : List OpD} (h : SlAt w A 6 isOp l) : ∀ o ∈ l, o.b.length ≤ 140737488351232 ∧ o.l.length ≤ 17592186043904 := fun o ho => by
  obtain ⟨i, hi, rfl⟩ := List.getElem_of_mem ho
  obtain ⟨b, x, cs, hA, hlt, _, hc, k1, k2, k3, A1, c1, A2, c2, s1, n1, s2, n2, rfl⟩ := h i hi
  exact ⟨n1, by omega⟩

set_option maxRecDepth 100000 in
theorem plays_lifted (os : Os) (started : os.Started) (H : Type) (enc : TypeId × Value → H) (F : Stop.Interp) :
    ReturnsInHanded {} Try.checked os 7 .any ((Rows.OpenSpec.upto Rows.diskPlaysSpec).pre6 enc Try.prog Try.f7 Rows.diskPlaysUptoRow.domain false) (((Rows.OpenSpec.upto Rows.diskPlaysSpec).at F).post enc Try.prog Try.f7 false true false false) := by
  refine returnsInHanded_of_cond_sized (C := Try.checked) (s := Rows.OpenSpec.upto Rows.diskPlaysSpec) (k := Rows.uptoSmall) rfl Try.own started (by kernel_rfl) Try.func7
    (OpenSpec.witness (enc := enc) (C := Try.checked) (s := Rows.OpenSpec.upto Rows.diskPlaysSpec) (k := Rows.uptoSmall) rfl false ⟨#[], #[.int .i64 0, .int .i64 0, .slice none 0 0, .slice none 0 0], []⟩ 8 (by kernel_rfl) (by kernel_rfl) (by kernel_rfl)
      (x := ([.lit (.int .i64 0), .lit (.int .i64 0), .nil, .nil], [], [])) (by kernel_rfl) rfl (by kernel_rfl)) ?_
  intro W base args ds gs before hval0 hW _ hk0 hsz0 _
  have hsz : (DataW.weightsEach Try.prog (Try.f7.params.toList ++ Rows.diskPlaysSpec.plain.varTypes Try.prog) (ds ++ gs)).all (· ≤ reachBytes) = true := hsz0
  have hW' := hW
  obtain ⟨p, q, hA0, hV, rfl, hfz, hnd⟩ := hW
  have hA : DataW.TrodAll enc Try.prog W 0 (fun _ => true) true Try.f7.params.toList args.toList ds p := hA0
  rw [Try.params7] at hA hsz
  obtain ⟨v0, vs0, d0, ds0, p0, q0, hargs, rfl, rfl, h0, r0⟩ := trodAll_cons hA
  obtain ⟨v1, vs1, d1, ds1, p1, q1, rfl, rfl, rfl, h1, r1⟩ := trodAll_cons r0
  obtain ⟨v2, vs2, d2, ds2, p2, q2, rfl, rfl, rfl, h2, r2⟩ := trodAll_cons r1
  obtain ⟨v3, vs3, d3, ds3, p3, q3, rfl, rfl, rfl, h3, r3⟩ := trodAll_cons r2
  obtain ⟨rfl, rfl, rfl⟩ := trodAll_nil r3
  obtain rfl : args = #[v0, v1, v2, v3] := by cases args; simp_all
  obtain ⟨rfl, rfl⟩ := trodVars_none hV
  have h0k := h0
  have h1k := h1
  have h2k := h2
  have h3k := h3
  obtain ⟨n0, t0⟩ := h0
  obtain ⟨n1, t1⟩ := h1
  obtain ⟨n2, t2⟩ := h2
  obtain ⟨n3, t3⟩ := h3
  obtain ⟨y0, e0, f0⟩ := open_i64 Try.underlying3 t0
  obtain ⟨z0, rfl⟩ := okWide_int (P := Try.prog) Try.underlying3 (hval0 0 3 v0 (by rw [Try.params7]; rfl) rfl)
  simp only [Value.cells, List.cons.injEq, Value.int.injEq, and_true, true_and] at e0
  subst e0
  obtain ⟨y1, e1, f1⟩ := open_i64 Try.underlying3 t1
  obtain ⟨z1, rfl⟩ := okWide_int (P := Try.prog) Try.underlying3 (hval0 1 3 v1 (by rw [Try.params7]; rfl) rfl)
  simp only [Value.cells, List.cons.injEq, Value.int.injEq, and_true, true_and] at e1
  subst e1
  have z2 : Sized Try.prog 22 d2 := Sized.arg hsz (j := 2) rfl rfl
  obtain ⟨A2, c2, l2, e2, _, x2, b2, u2⟩ := open_listN isOp 6 Try.underlying22 c32 (by omega) (fun _ _ _ => open_op) t2 z2
  have hl2 := bulk_len u2 hk0 (by simp)
  obtain ⟨a2, m2, k2, rfl⟩ := okWide_slice (P := Try.prog) Try.underlying22 (hval0 2 22 v2 (by rw [Try.params7]; rfl) rfl)
  simp only [Value.cells, List.cons.injEq, Value.slice.injEq, and_true] at e2
  obtain ⟨rfl, rfl, rfl⟩ := e2
  have z3 : Sized Try.prog 22 d3 := Sized.arg hsz (j := 3) rfl rfl
  obtain ⟨A3, c3, l3, e3, _, x3, b3, u3⟩ := open_listN isOp 6 Try.underlying22 c32 (by omega) (fun _ _ _ => open_op) t3 z3
  have hl3 := bulk_len u3 hk0 (by simp)
  obtain ⟨a3, m3, k3, rfl⟩ := okWide_slice (P := Try.prog) Try.underlying22 (hval0 3 22 v3 (by rw [Try.params7]; rfl) rfl)
  simp only [Value.cells, List.cons.injEq, Value.slice.injEq, and_true] at e3
  obtain ⟨rfl, rfl, rfl⟩ := e3
  have hlt0 : ∀ x ∈ p0, x.block < W.heap.size := fun x hx => hW'.lt x (by simp [hx])
  have hlt1 : ∀ x ∈ p1, x.block < W.heap.size := fun x hx => hW'.lt x (by simp [hx])
  have hlt2 : ∀ x ∈ p2, x.block < W.heap.size := fun x hx => hW'.lt x (by simp [hx])
  have hlt3 : ∀ x ∈ p3, x.block < W.heap.size := fun x hx => hW'.lt x (by simp [hx])
  refine (plays_any W z0 z1 f0 f1 a2 a3 k2 k3 l2 l3 (opsF_of x2) (opsF_of x3) (by omega) (by omega) (ops_small x2) (ops_small x3)).mono fun e W' ⟨he, hb⟩ => ?_
  subst he
  exact ⟨_, rfl, _, _, _, [], p0 ++ (p1 ++ (p2 ++ (p3 ++ []))), [], hW', trodAll_mk1 (shut_bool Try.underlying4 _),
    (trodAll_cons_mk (Below.trod Try.laidOut (by kernel_rfl) (of_decide_eq_true (by kernel_rfl)) h0k hb hlt0) (trodAll_cons_mk (Below.trod Try.laidOut (by kernel_rfl) (of_decide_eq_true (by kernel_rfl)) h1k hb hlt1) (trodAll_cons_mk (Below.trod Try.laidOut (by kernel_rfl) (of_decide_eq_true (by kernel_rfl)) h2k hb hlt2) (trodAll_cons_mk (Below.trod Try.laidOut (by kernel_rfl) (of_decide_eq_true (by kernel_rfl)) h3k hb hlt3) trodAll_mk0)))), rfl, hb.frame _, fun h => by cases h⟩

theorem plays_holds : Rows.DiskPlaysUptoSaid :=
  OpenClaim.holds_of_cond 7 Try.f7 rfl rfl rfl rfl rfl rfl rfl ⟨rfl, rfl, rfl, rfl, rfl⟩ rfl rfl rfl rfl rfl (by kernel_rfl) Try.func7 (by kernel_rfl)
    (of_decide_eq_true (by kernel_rfl)) (by unfold Func.isWrapper; first | (rw [if_pos (by decide +kernel)]; kernel_rfl) | (rw [if_neg (by decide +kernel)]; exact ⟨rfl, rfl⟩))
    (fun os started H enc _ F => plays_lifted os started H enc F)
#print axioms plays_holds
end Go.Proofs.Yteaenhmiomoocaa
