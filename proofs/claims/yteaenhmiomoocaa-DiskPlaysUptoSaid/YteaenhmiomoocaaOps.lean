/- The laws' operations in memory; a remainder as a natural number. -/
import Derived.Test.YteaenhmiomoocaaKn
import Derived.Test.YteaenhmiomoocaaSy
namespace Go.Proofs.Yteaenhmiomoocaa
open Go.RowKit Go.Shelf Go.Maps

structure OpD where
  k : Int
  i : Int
  n : Int
  b : List UInt8
  f : UInt8
  l : List Int
deriving Inhabited

/-- From address A on w holds the operations l (their own slices left out). -/
def OpsAt (w : World) (A : Option Addr) (l : List OpD) : Prop :=
  ∀ i (h : i < l.length), ∃ b o, A = some ⟨b, o, none⟩ ∧ b < w.heap.size ∧ w.cell? ⟨b, o + i * 6, none⟩ = some (.int .i64 l[i].k) ∧ w.cell? ⟨b, o + i * 6 + 1, none⟩ = some (.int .i64 l[i].i) ∧ w.cell? ⟨b, o + i * 6 + 4, none⟩ = some (.int .u8 (l[i].f.toNat : Int)) ∧ okI l[i].i
theorem OpsAt.below {w w' : World} {A : Option Addr} {l : List OpD} (h : OpsAt w A l) (hb : Below w.heap.size w w') : OpsAt w' A l := fun i hi => by
  obtain ⟨b, o, hA, hlt, c0, c1, c4, hk⟩ := h i hi
  have e : ∀ j, w'.cell? ⟨b, j, none⟩ = w.cell? ⟨b, j, none⟩ := fun j => hb.cell (p := ⟨b, j, none⟩) hlt
  exact ⟨b, o, hA, Nat.lt_of_lt_of_le hlt hb.size, by rw [e]; exact c0, by rw [e]; exact c1, by rw [e]; exact c4, hk⟩

theorem mod_nat (k : Int) (i : Nat) (hk : okI k) (hi : 1 ≤ i) (hi2 : i ≤ 100) : ∃ K : Nat, K < i ∧ (IntKind.i64.wrap (k.tmod i + i)).tmod i = K := by
  unfold okI at hk
  have h3 := Int.tmod_lt_of_pos k (show (0 : Int) < i by omega)
  have h4 : -(i : Int) < k.tmod i := Int.lt_tmod_of_pos k (by omega)
  have e1 : IntKind.i64.wrap (k.tmod i + i) = k.tmod i + i := by rw [IntKind.wrap_i64]; omega
  rw [e1]
  generalize k.tmod i = y at *
  have h5 := Int.tmod_lt_of_pos (y + i) (show (0 : Int) < i by omega)
  have h6 := Int.tmod_nonneg (i : Int) (show 0 ≤ y + i by omega)
  generalize (y + (i : Int)).tmod i = x at *
  exact ⟨x.toNat, by omega, by omega⟩
theorem wrapEq (x : Int) : IntKind.i64.wrap x = wrap64 x := by rw [IntKind.wrap_i64]; unfold wrap64; omega

/-- What a write leaves of the disk's bounds: a version more just where it was done. -/
theorem writeD_okN {d : Dsk} {N : Nat} {i : Int} {t : Tx} (h : d.Ok N) (hi : 0 ≤ i ∧ i < d.ts.length) (ht : t.length = 256) : (writeD d i t).2.Ok (if (powr d).1 then N + 1 else N) := by
  unfold writeD
  rw [if_neg (by rintro (h | h | h) <;> first | omega | exact h ht)]
  split
  · exact writeS_ok (powr_ok h) (by rw [powr_ts]; exact hi) ht
  · exact powr_ok h
theorem writeD_res {d : Dsk} {i : Int} {t : Tx} (hi : 0 ≤ i ∧ i < d.ts.length) (ht : t.length = 256) : (writeD d i t).1 = (if (powr d).1 then 0 else 8) ∧ (writeD d i t).2.off = (powr d).2.off ∧ (writeD d i t).2.fuse = (powr d).2.fuse ∧ (writeD d i t).2.ts.length = d.ts.length := by
  unfold writeD
  rw [if_neg (by rintro (h | h | h) <;> first | omega | exact h ht)]
  split
  · exact ⟨rfl, rfl, rfl, by simp only [writeS, powr_ts]⟩
  · exact ⟨rfl, rfl, rfl, by rw [powr_ts]⟩
theorem syncD_res (d : Dsk) : (syncD d).1 = (if (powr d).1 then 0 else 8) ∧ (syncD d).2.off = (powr d).2.off ∧ (syncD d).2.fuse = (powr d).2.fuse ∧ (syncD d).2.ts.length = d.ts.length := by
  unfold syncD
  split
  · exact ⟨rfl, rfl, rfl, by simp only [syncS, syncT_length, powr_ts]⟩
  · exact ⟨rfl, rfl, rfl, by rw [powr_ts]⟩

/-- Behind a fuse of K: i operations were asked. -/
def FuS (K : Nat) (d : Dsk) (i : Nat) : Prop := (i ≤ K ∧ d.off = false ∧ d.fuse = (K : Int) - i) ∨ (K < i ∧ d.off = true ∧ d.fuse = -1)
theorem FuS.powr {K i : Nat} {d : Dsk} (h : FuS K d i) : (powr d).1 = decide (i < K) ∧ FuS K (powr d).2 (i + 1) := by
  obtain ⟨ts, bad, vs, off, fuse⟩ := d
  rcases h with ⟨h1, h2, h3⟩ | ⟨h1, h2, h3⟩
  · dsimp only at h2 h3
    subst h2 h3
    by_cases h : i = K
    · subst h
      simp [Go.Proofs.Yteaenhmiomoocaa.powr, FuS]
    · have e1 : ¬ ((K : Int) - i = 0) := by omega
      have e2 : (0 : Int) < (K : Int) - i := by omega
      simp [Go.Proofs.Yteaenhmiomoocaa.powr, FuS, e1]
      omega
  · dsimp only at h2 h3
    subst h2 h3
    simp [Go.Proofs.Yteaenhmiomoocaa.powr, FuS]
    omega
theorem FuS.of {K i : Nat} {d d' : Dsk} (h : FuS K d i) (h1 : d'.off = d.off) (h2 : d'.fuse = d.fuse) : FuS K d' i := by
  unfold FuS at *
  rw [h1, h2]
  exact h
end Go.Proofs.Yteaenhmiomoocaa
