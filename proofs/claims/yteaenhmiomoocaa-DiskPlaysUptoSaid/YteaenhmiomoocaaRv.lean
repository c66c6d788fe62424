/- DiskPlays: a slot of the law, with or without a pair; its operations. -/
import Derived.Test.YteaenhmiomoocaaRq
import Derived.Test.YteaenhmiomoocaaOpn
namespace Go.Proofs.Yteaenhmiomoocaa
open Go.RowKit Go.Shelf

/-- A slot: no disk, or a pair after i steps. -/
def Sl (F : Nat → Prop) (w : World) (z : Nat) (p r : Option Addr) (P : Nat → Prop) (i : Nat) : Prop :=
  (p = none ∧ r = none ∧ P = fun _ => False) ∨
  ∃ h nb us d n0 rb g c bs N, p = some ⟨h + 3, 0, none⟩ ∧ r = some ⟨rb, 0, none⟩ ∧ Pr F w z h nb us d n0 rb g c bs d ∧ d.Ok N ∧ N ≤ i ∧ nb ≤ 4097 * i ∧ P = PrB h us rb g bs
theorem Sl.up {F : Nat → Prop} {w : World} {z : Nat} {p r : Option Addr} {P : Nat → Prop} {i : Nat} (S : Sl F w z p r P i) : Sl F w z p r P (i + 1) := by
  rcases S with h | ⟨h, nb, us, d, n0, rb, g, c, bs, N, h1, h2, h3, h4, h5, h6, h7⟩
  · exact .inl h
  · exact .inr ⟨h, nb, us, d, n0, rb, g, c, bs, N, h1, h2, h3, h4, by omega, by omega, h7⟩
theorem Sl.ge {F : Nat → Prop} {w : World} {z : Nat} {p r : Option Addr} {P : Nat → Prop} {i : Nat} (S : Sl F w z p r P i) {b : Nat} (hb : P b) : z ≤ b ∧ b < w.heap.size := by
  rcases S with ⟨_, _, rfl⟩ | ⟨h, nb, us, d, n0, rb, g, c, bs, N, _, _, h3, _, _, _, rfl⟩
  · exact hb.elim
  · exact h3.ge hb
theorem Sl.ne5 {F : Nat → Prop} {w : World} {z : Nat} {p r : Option Addr} {P : Nat → Prop} {i : Nat} (S : Sl F w z p r P i) {b : Nat} (ht : TyAt w b 5) (hF : ¬ F b) : ¬ P b := by
  rcases S with ⟨_, _, rfl⟩ | ⟨h, nb, us, d, n0, rb, g, c, bs, N, _, _, h3, _, _, _, rfl⟩
  · exact id
  · refine h3.ne5 ht ?_
    have := h3.bar b
    rcases Nat.lt_or_ge b h with h1 | h1
    · exact .inl h1
    · rcases Nat.lt_or_ge (h + 3) b with h2 | h2
      · exact .inr h2
      · exact absurd (this h1 h2) hF
theorem Sl.keep {F : Nat → Prop} {w w' : World} {z : Nat} {p r : Option Addr} {P P1 P1' : Nat → Prop} {i : Nat} (S : Sl F w z p r P i) (fr : FrP w w' P1 P1') (hd : ∀ b, P b → ¬ P1 b) (h5 : ∀ b, TyAt w b 5 → ¬ F b → ¬ P1 b) : Sl F w' z p r P i := by
  rcases S with h | ⟨h, nb, us, d, n0, rb, g, c, bs, N, e1, e2, h3, h4, h6, h7, rfl⟩
  · exact .inl h
  · refine .inr ⟨h, nb, us, d, n0, rb, g, c, bs, N, e1, e2, h3.keep fr.size fun b hb => ?_, h4, h6, h7, rfl⟩
    rcases hb with hb | ⟨ht, hF⟩
    · exact fr.block b (h3.ge hb).2 (hd b hb)
    · exact fr.block b ht.lt (h5 b ht hF)

/-- From A on w holds the operations l, with all that they hold. -/
structure OpF (w : World) (A : Option Addr) (i : Nat) (o : OpD) (b x : Nat) (Ai : Option Addr) (ci : Nat) (A'i : Option Addr) (c'i : Nat) : Prop where
  at_ : A = some ⟨b, x, none⟩
  lt : b < w.heap.size
  cell : ∀ j u, (opC o Ai ci A'i c'i)[j]? = some u → w.cell? ⟨b, x + i * 6 + j, none⟩ = some u
  ok : okI o.k ∧ okI o.i ∧ okI o.n
  txt : TextAt w (.slice Ai o.b.length ci) o.b
  low : ∀ b x, Ai = some ⟨b, x, none⟩ → o.b ≠ [] → b < w.heap.size
  nums : NumsAt w A'i o.l
  low' : ∀ b x, A'i = some ⟨b, x, none⟩ → o.l ≠ [] → b < w.heap.size
def OpsF (w : World) (A : Option Addr) (l : List OpD) : Prop := ∀ i (h : i < l.length), ∃ b x Ai ci A'i c'i, OpF w A i l[i] b x Ai ci A'i c'i
theorem Sl.step {F : Nat → Prop} {w0 w : World} {p r : Option Addr} {P : Nat → Prop} {i : Nat} (S : Sl F w w0.heap.size p r P i) (hr : r ≠ none) (hi : i < 1000000000) (hb0 : Below w0.heap.size w0 w) {A : Option Addr} {k : Nat} {o : OpD} {b x : Nat} {Ai : Option Addr} {ci : Nat} {A'i : Option Addr} {c'i : Nat} (H : OpF w0 A k o b x Ai ci A'i c'i)
    (hl1 : o.b.length ≤ 140737488351232) (hl2 : o.l.length ≤ 17592186043904) :
    Calls Try.prog 21 #[.pointer p, .pointer r, opV o Ai ci A'i c'i] w fun e w' => e = .returned (.bool true) ∧ ∃ P', Sl F w' w0.heap.size p r P' (i + 1) ∧ FrP w w' P P' := by
  rcases S with ⟨_, h, _⟩ | ⟨h, nb, us, d, n0, rb, g, c, bs, N, rfl, rfl, h3, h4, h5, h6, rfl⟩
  · exact absurd h hr
  · refine (step_any w w0.heap.size h nb us d n0 rb g c bs N h3 h4 (by omega) (by omega) o Ai ci A'i c'i H.ok (H.txt.below hb0) (fun h0 b x e => H.low b x e h0) hl1 ?_ (fun h0 b x e => H.low' b x e h0) hl2).mono ?_
    · exact H.nums.low (fun h0 b x e => H.low' b x e h0) hb0
    · rintro e w' ⟨rfl, nb', us', bs', d', h7, h8, h9, h10⟩
      exact ⟨rfl, _, .inr ⟨h, nb', us', d', n0, rb, g, c, bs', N + 1, rfl, rfl, h8, h9, by omega, by omega, rfl⟩, h10⟩
theorem Sl.zero {F : Nat → Prop} {w : World} {z i : Nat} : Sl F w z .none .none (fun _ => False) i := .inl ⟨rfl, rfl, rfl⟩
theorem OpF.cells {w0 w : World} {A : Option Addr} {k : Nat} {o : OpD} {b x : Nat} {Ai : Option Addr} {ci : Nat} {A'i : Option Addr} {c'i : Nat} (H : OpF w0 A k o b x Ai ci A'i c'i) (hb : Below w0.heap.size w0 w) :
    b < w.heap.size ∧ w.cell? ⟨b, x + k * 6, none⟩ = some (.int .i64 o.k) ∧ w.cell? ⟨b, x + k * 6 + 1, none⟩ = some (.int .i64 o.i) ∧ w.cell? ⟨b, x + k * 6 + 2, none⟩ = some (.int .i64 o.n) ∧ w.cell? ⟨b, x + k * 6 + 3, none⟩ = some (.slice Ai o.b.length ci) ∧ w.cell? ⟨b, x + k * 6 + 4, none⟩ = some (.int .u8 (o.f.toNat : Int)) ∧ w.cell? ⟨b, x + k * 6 + 5, none⟩ = some (.slice A'i o.l.length c'i) := by
  have e : ∀ j u, (opC o Ai ci A'i c'i)[j]? = some u → w.cell? ⟨b, x + k * 6 + j, none⟩ = some u := fun j u hu => (hb.cell (p := ⟨b, x + k * 6 + j, none⟩) H.lt).trans (H.cell j u hu)
  exact ⟨Nat.lt_of_lt_of_le H.lt hb.size, e 0 _ rfl, e 1 _ rfl, e 2 _ rfl, e 3 _ rfl, e 4 _ rfl, e 5 _ rfl⟩
end Go.Proofs.Yteaenhmiomoocaa
