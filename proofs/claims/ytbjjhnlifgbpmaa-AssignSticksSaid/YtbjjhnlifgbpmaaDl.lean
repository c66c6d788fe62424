/- assign's deck: whole, top. -/
import Derived.Test.YtbjjhnlifgbpmaaDk
import Derived.Maps.AppendAt
namespace Go.Proofs.Ytbjjhnlifgbpmaa
open Go.RowKit Go.Shelf Go.Sort
attribute [local go_sem] Oper.semAt_some

/-- One number more at the end of a row of the call's own. -/
theorem run_appI {w : World} (base : Nat) (ty : TypeId) (A : Option Addr) (n c : Nat) (l : List Int) (p : Int) (B : Nat) (hown : w.ownsRow base 3 1 (.slice A n c) n (l.flatMap encI)) (hx : w.cell? ⟨B, 0, none⟩ = some (.int .i64 p))
    (hn : n ≤ 1000000000000) (hbase : base ≤ w.heap.size) :
    ∃ A' c' w', (Builtin.append_ #[37, 37] ty #[.slice A n c, .slice (some ⟨B, 0, none⟩) 1 1]).run Try.prog w = .ok (.slice A' (n + 1) c') w' ∧ w'.ownsRow base 3 1 (.slice A' (n + 1) c') (n + 1) ((l ++ [p]).flatMap encI) ∧
      w.grownBy w' (A.map (·.block)) ∧ (A'.map (·.block) = A.map (·.block) ∨ A' = some ⟨w.heap.size, 0, none⟩) := by
  obtain ⟨i0, hi0, hz0, hz1, hz2⟩ := info_parts infoI
  obtain ⟨v', w', hr, h2, h3, h4, h5⟩ := run_append_own_at (P := Try.prog) w base 37 ty 3 i0 _ 1 8 Try.underlying37 hi0 hz0 hz1 hz2 rfl (by decide) (.slice A n c) n _ hown ⟨B, 0, none⟩ 1 1 [.int .i64 p] rfl
    (fun j u hu => by rw [Addr.add_mid, Nat.zero_add]; cases j with | zero => simp at hu; subst hu; exact hx | succ j => simp at hu) (by simp [Value.oneCell']) (by simp only [maxLen]; omega) (by omega) hbase
  obtain ⟨A', c', rfl, hh⟩ := ownsRow_tells h2
  have hA : (Value.slice A n c).ownBlock = A.map (·.block) := by cases A <;> rfl
  have hA' : (Value.slice A' (n + 1) c').ownBlock = A'.map (·.block) := by cases A' <;> rfl
  rw [hA, hA'] at h5
  rw [hA] at h3
  refine ⟨A', c', w', hr, by simpa [encI] using h2, h3, ?_⟩
  rcases h5 with h5 | h5
  · exact .inl h5
  · obtain ⟨g, e, _⟩ := hh (by omega)
    subst e
    simp at h5
    exact .inr (by rw [h5])
theorem wpList_appI {ops : Array Oper} {rest : List Oper} {o : Oper} {a : Act} {w : World} {Q : Exit → Act → World → Prop} (hgd : o.guard = none) (s x : Operand)
    (ho : o.op = .call { callee := .builtin .append, args := #[s, x], argTypes := #[37, 37] }) (base : Nat) (A : Option Addr) (n c : Nat) (l : List Int) (p : Int) (B : Nat) (hs : a.eval s = .slice A n c)
    (hown : w.ownsRow base 3 1 (.slice A n c) n (l.flatMap encI)) (hxe : a.eval x = .slice (some ⟨B, 0, none⟩) 1 1) (hx : w.cell? ⟨B, 0, none⟩ = some (.int .i64 p)) (hn : n ≤ 1000000000000) (hbase : base ≤ w.heap.size)
    (h : ∀ A' c' w', w'.ownsRow base 3 1 (.slice A' (n + 1) c') (n + 1) ((l ++ [p]).flatMap encI) → w.grownBy w' (A.map (·.block)) → (A'.map (·.block) = A.map (·.block) ∨ A' = some ⟨w.heap.size, 0, none⟩) →
      wpList Try.prog ops Q rest (a.put o.dst (.slice A' (n + 1) c')) w') : wpList Try.prog ops Q (o :: rest) a w := by
  refine wpList_plain hgd fun K hK => ?_
  obtain ⟨A', c', w', hr, h2, h3, h4⟩ := run_appI (w := w) base o.type A n c l p B hown hx hn hbase
  unfold Oper.wp execOp
  simp only [ho, resolve, invoke, builtin, Sem.run_bind, Sem.run_pure, Result.andThen_ok, List.map_toArray, List.map_cons, List.map_nil, hs, hxe, hr]
  exact hK _ _ (h A' c' w' h2 h3 h4)

theorem wholeL_succ (n : Nat) : wholeL (n + 1) = wholeL n ++ [(n : Int)] := by simp [wholeL, List.range_succ]
theorem wholeL_len (n : Nat) : (wholeL n).length = n := by simp [wholeL]

set_option maxRecDepth 100000 in
set_option maxHeartbeats 2000000 in
theorem whole_any (n : Nat) (hn : n ≤ 32) (w : World) :
    Calls Try.prog 24 #[.int .i64 (n : Nat)] w fun e w' => ∃ A c, e = .returned (.pointer (some ⟨w.heap.size, 0, none⟩)) ∧ DeckAt w' (w.heap.size + 1) w.heap.size A c (wholeL n) ∧ Below w.heap.size w w' := by
  go_enter Try.func24, Try.ntmps24
  go_wp2_with fail
  go_loopw [8] (fun u wr => ∃ (k : Nat) (A : Option Addr) (c : Nat), k ≤ n ∧ u = .int .i64 k ∧ DeckAt wr (w.heap.size + 1) w.heap.size A c (wholeL k) ∧ Below w.heap.size w wr) (fun u _ => n - (intOf u).toNat)
  case atStart => exact ⟨0, none, 0, Nat.zero_le _, rfl, ⟨Blk.new' _ _ rfl, World.ownsRow_nil _ _ _ _, fun g o e => by cases e⟩, bl_alloc (Below.refl _ _) _⟩
  case round =>
    obtain ⟨k, A, c, hk, rfl, ⟨hB, hR, hne⟩, hb⟩ := hrel
    by_cases hkn : k < n
    · have q := hB.cell
      have u := hB.unf
      have hl := hB.lt
      rw [wholeL_len] at q hR hB
      go_wp2_with (at_builtin; refine wpList_appI rfl _ _ rfl (w.heap.size + 1) A k c (wholeL k) k wr.heap.size rfl (hR.alloc _) rfl ?hcell (by omega) (by simp; omega) ?nx; case' nx => intro A3 c3 w3 hown3 hg3 hat3; have hB3 := (hB.alloc (.cells #[.int .i64 k] 3)).grown hg3 (by cases A with | none => simp | some a => simp; obtain ⟨b, o, s⟩ := a; intro e; have := ownsRow_base hR (g := b) rfl; simp at e; omega); have q3 := hB3.cell; have u3 := hB3.unf)
      case hcell => exact (Blk.new' (w := wr) #[.int .i64 k] 3 rfl).get rfl
      go_roundw
      case rel =>
        have hne3 : ∀ g o, A3 = some ⟨g, o, none⟩ → g ≠ w.heap.size := fun g o e => by subst e; have := ownsRow_base hown3 (g := g) rfl; omega
        refine ⟨k + 1, A3, c3, by omega, by go_num, ⟨?_, ?_, hne3⟩, ?_⟩
        · rw [wholeL_len]; simpa using hB3.set_same 0 (.slice A3 (k + 1) c3)
        · rw [wholeL_len, wholeL_succ]
          refine (FrX.set (S := fun b => b = w.heap.size) (FrX.refl _ _) w.heap.size 0 (.inl rfl) _).own hown3 fun g hg e => ?_
          have := ownsRow_base hown3 hg; omega
        · refine (FrX.set (S := fun b => w.heap.size ≤ b) (FrX.of_grown hg3 fun g hg => .inl ?_) w.heap.size 0 (.inl (Nat.le_refl _)) _).below (bl_alloc hb _) (fun b h => h) (by simp; omega)
          cases A with
          | none => simp at hg
          | some a => obtain ⟨b, o, s⟩ := a; simp at hg; have := ownsRow_base hR (g := b) rfl; omega
      case measure => simp [intOf]; omega
    · obtain rfl : k = n := by omega
      go_wp2
      go_ret
      exact ⟨A, c, rfl, ⟨hB, hR, hne⟩, hb⟩

/-- A deck whose cards are dealt off the top: only its own block is its own. -/
def DeckL (w : World) (D : Nat) (A : Option Addr) (c : Nat) (l : List Int) : Prop :=
  Blk w D [.slice A l.length c] ∧ LAt w A 1 encI l ∧ l.length ≤ c ∧ ∀ g o, A = some ⟨g, o, none⟩ → g ≠ D

set_option maxRecDepth 100000 in
set_option maxHeartbeats 2000000 in
theorem top_none (D : Nat) (A : Option Addr) (c : Nat) (w : World) (h : DeckL w D A c []) :
    Calls Try.prog 28 #[.pointer (some ⟨D, 0, none⟩)] w fun e w' => e = .returned (.tuple #[.int .i64 0, .bool false]) ∧ w' = w := by
  have q := h.1.cell
  simp only [List.length_nil] at q
  go_enter Try.func28, Try.ntmps28
  go_wp2
  go_ret2
  exact ⟨rfl, rfl⟩

/-- Behind top: the rest is left. -/
def TopAt (w w' : World) (D : Nat) (A : Option Addr) (l : List Int) : Prop :=
  ∃ A' c', DeckL w' D A' c' l ∧ (∀ g o, A' = some ⟨g, o, none⟩ → ∃ o', A = some ⟨g, o', none⟩) ∧ FrX (fun b => b = D) w w'
set_option maxRecDepth 100000 in
set_option maxHeartbeats 2000000 in
theorem top_some (D : Nat) (A : Option Addr) (c : Nat) (p : Int) (l : List Int) (w : World) (h : DeckL w D A c (p :: l)) (hl : l.length ≤ 1000) :
    Calls Try.prog 28 #[.pointer (some ⟨D, 0, none⟩)] w fun e w' => e = .returned (.tuple #[.int .i64 p, .bool true]) ∧ TopAt w w' D A l := by
  obtain ⟨hB, hL, hc, hne⟩ := h
  have q := hB.cell
  have u := hB.unf
  obtain ⟨g, o, rfl, hlt, h0⟩ := hL 0 (by simp)
  have q0 := h0 0 _ rfl
  simp only [Nat.zero_mul, Nat.add_zero, List.getElem_cons_zero] at q0
  simp only [List.length_cons] at q hc
  have z1 : ((((l.length + 1 : Nat)) : Int) == 0) = false := by rw [beq_eq_false_iff_ne]; omega
  have z2 : (0 : Int) < ((l.length + 1 : Nat) : Int) := by omega
  go_enter Try.func28, Try.ntmps28
  go_wp2
  all_goals go_ret2
  · rename_i hc1
    obtain rfl : l = [] := List.eq_nil_of_length_eq_zero (by omega)
    refine ⟨rfl, some ⟨g, o, none⟩, 0, ⟨?_, LAt.nil, Nat.zero_le _, ?_⟩, fun g' o' e => ⟨o, by cases e; rfl⟩, FrX.set (S := fun b => b = D) (FrX.refl _ _) D 0 (.inl rfl) _⟩
    · simpa using hB.set_same 0 (.slice (some ⟨g, o, none⟩) 0 0)
    · intro g' o' e; cases e; exact hne _ _ rfl
  · refine ⟨rfl, some ⟨g, o + 1, none⟩, c - 1, ⟨by simpa using hB.set_same 0 (.slice (some ⟨g, o + 1, none⟩) l.length (c - 1)), ?_, by omega, ?_⟩, fun g' o' e => ⟨o, by cases e; rfl⟩, FrX.set (S := fun b => b = D) (FrX.refl _ _) D 0 (.inl rfl) _⟩
    · have := hL.drop 1
      simp only [Nat.mul_one, List.drop_one, List.tail_cons] at this
      exact (FrX.set (S := fun b => b = D) (FrX.refl _ _) D 0 (.inl rfl) _).lat this fun b o' e _ e2 => by cases e; exact hne _ _ rfl e2
    · intro g' o' e; cases e; exact hne _ _ rfl
end Go.Proofs.Ytbjjhnlifgbpmaa
