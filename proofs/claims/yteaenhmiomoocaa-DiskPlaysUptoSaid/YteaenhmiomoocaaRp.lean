/- A law's pair of disks: the program's and the document's, side by side. -/
import Derived.Test.YteaenhmiomoocaaRt
namespace Go.Proofs.Yteaenhmiomoocaa
open Go.RowKit Go.Shelf

/-- The blocks that a pair may write. -/
def PrB (h : Nat) (us : List (Int × Value)) (rb g : Nat) (bs : List Bk) (b : Nat) : Prop :=
  (h ≤ b ∧ b ≤ h + 3) ∨ (∃ i v, lookI us i = some v ∧ v.ownBlock = some b) ∨ b = rb ∨ b = g ∨ ∃ x ∈ bs, x.vv.ownBlock = some b
/-- From w to w' nothing turns but what is P's; what P' has more is new. -/
structure FrP (w w' : World) (P P' : Nat → Prop) : Prop where
  os : w'.os = w.os
  tape : w'.tape = w.tape
  output : w'.output = w.output
  size : w.heap.size ≤ w'.heap.size
  block : ∀ b, b < w.heap.size → ¬ P b → w'.heap[b]? = w.heap[b]?
  sub : ∀ b, P' b → P b ∨ w.heap.size ≤ b
theorem FrP.of_below {w w' : World} (h : Below w.heap.size w w') (P : Nat → Prop) : FrP w w' P P := ⟨h.os, h.tape, h.output, h.size, fun b hb _ => h.block b hb, fun _ h => .inl h⟩
theorem FrP.trans {w w1 w2 : World} {P P1 P2 : Nat → Prop} (a : FrP w w1 P P1) (b : FrP w1 w2 P1 P2) : FrP w w2 P P2 :=
  ⟨b.os.trans a.os, b.tape.trans a.tape, b.output.trans a.output, Nat.le_trans a.size b.size, fun q hq hn =>
    (b.block q (Nat.lt_of_lt_of_le hq a.size) (fun h => by
      rcases a.sub q h with h | h
      · exact hn h
      · omega)).trans (a.block q hq hn), fun q hq => by
    rcases b.sub q hq with h | h
    · exact a.sub q h
    · exact .inr (Nat.le_trans a.size h)⟩
theorem FrP.below {w w' : World} {P P' : Nat → Prop} (a : FrP w w' P P') {z : Nat} (hz : z ≤ w.heap.size) (hP : ∀ b, P b → z ≤ b) : Below z w w' :=
  ⟨a.os, a.tape, a.output, a.size, fun b hb => a.block b (Nat.lt_of_lt_of_le hb hz) (fun h => by have := hP b h; omega)⟩
theorem FrP.ofD {w w' : World} {h : Nat} {us us' : List (Int × Value)} (a : FrD w w' h us us') (rb g : Nat) (bs : List Bk) : FrP w w' (PrB h us rb g bs) (PrB h us' rb g bs) :=
  ⟨a.os, a.tape, a.output, a.size, fun b hb hn => a.block b hb (by
    rcases Nat.lt_or_ge b h with h1 | h1
    · exact .inl h1
    · rcases Nat.lt_or_ge (h + 3) b with h2 | h2
      · exact .inr h2
      · exact absurd (.inl ⟨h1, h2⟩) hn) (fun i v h1 h2 => hn (.inr (.inl ⟨i, v, h1, h2⟩))), fun b hb => by
    rcases hb with hb | ⟨i, v, h1, h2⟩ | hb
    · exact .inl (.inl hb)
    · rcases a.sub i v b h1 h2 with ⟨j, u, h3, h4⟩ | h3
      · exact .inl (.inr (.inl ⟨j, u, h3, h4⟩))
      · exact .inr h3
    · exact .inl (.inr (.inr hb))⟩
theorem FrP.ofB {w w' : World} {rb g : Nat} {bs bs' : List Bk} (a : FrB w w' rb g bs bs') (h : Nat) (us : List (Int × Value)) : FrP w w' (PrB h us rb g bs) (PrB h us rb g bs') :=
  ⟨a.os, a.tape, a.output, a.size, fun b hb hn => a.block b hb (fun e => hn (.inr (.inr (.inl e)))) (fun e => hn (.inr (.inr (.inr (.inl e))))) (fun x hx e => hn (.inr (.inr (.inr (.inr ⟨x, hx, e⟩))))), fun b hb => by
    rcases hb with hb | hb | hb | hb | ⟨x, hx, e⟩
    · exact .inl (.inl hb)
    · exact .inl (.inr (.inl hb))
    · exact .inl (.inr (.inr (.inl hb)))
    · exact .inl (.inr (.inr (.inr (.inl hb))))
    · rcases a.sub x hx b e with ⟨y, hy, e2⟩ | h3
      · exact .inl (.inr (.inr (.inr (.inr ⟨y, hy, e2⟩))))
      · exact .inr h3⟩

/-- w holds a pair: the program's disk d1, the document's d2. -/
structure Pr (F : Nat → Prop) (w : World) (z h nb : Nat) (us : List (Int × Value)) (d1 : Dsk) (n0 rb g c : Nat) (bs : List Bk) (d2 : Dsk) : Prop where
  D : DkAt w h nb us d1
  R : RfAt F w n0 rb g c bs d2
  z : z ≤ h
  hr : h + 3 < rb
  rn : rb < n0
  bar : ∀ b, h ≤ b → b ≤ h + 3 → F b
  fz : ∀ b, F b → b < w.heap.size
section
variable {F : Nat → Prop} {w w' : World} {z h nb nb' : Nat} {us us' : List (Int × Value)} {d1 d1' : Dsk} {n0 rb g c : Nat} {bs bs' : List Bk} {d2 d2' : Dsk}
theorem Pr.tyD (p : Pr F w z h nb us d1 n0 rb g c bs d2) {i : Int} {v : Value} {q : Nat} (h1 : lookI us i = some v) (h2 : v.ownBlock = some q) : h + 4 ≤ q ∧ TyAt w q 58 := by
  obtain ⟨l, A, c', _, rfl, hr⟩ := p.D.rows i v h1
  exact ⟨ownsRow_base hr h2, ownsRow_ty hr h2⟩
theorem Pr.ge (p : Pr F w z h nb us d1 n0 rb g c bs d2) {b : Nat} (hb : PrB h us rb g bs b) : z ≤ b ∧ b < w.heap.size := by
  have := p.z; have := p.hr; have := p.rn; have := p.D.lt
  have hg := p.R.gl
  rcases hb with hb | ⟨i, v, h1, h2⟩ | rfl | rfl | ⟨x, hx, e⟩
  · omega
  · have := p.tyD h1 h2; exact ⟨by omega, this.2.lt⟩
  · exact ⟨by omega, p.R.box.lt⟩
  · exact ⟨by omega, hg.2.lt⟩
  · have := p.R.own hx e; exact ⟨by omega, this.2.lt⟩
/-- A text's block of another kind is none of the pair's. -/
theorem Pr.ne5 (p : Pr F w z h nb us d1 n0 rb g c bs d2) {b : Nat} (ht : TyAt w b 5) (hb : b < h ∨ h + 3 < b) : ¬ PrB h us rb g bs b := by
  rintro (hh | ⟨i, v, h1, h2⟩ | rfl | rfl | ⟨x, hx, e⟩)
  · omega
  · exact ht.ne (p.tyD h1 h2).2 (by decide) rfl
  · exact ht.ne p.R.boxT (by decide) rfl
  · exact ht.ne p.R.gl.2 (by decide) rfl
  · exact ht.ne (p.R.own hx e).2 (by decide) rfl
theorem Pr.keepR (p : Pr F w z h nb us d1 n0 rb g c bs d2) (fr : FrD w w' h us us') (D' : DkAt w' h nb' us' d1') : Pr F w' z h nb' us' d1' n0 rb g c bs d2 := by
  refine ⟨D', p.R.keepF fun b hb => ?_, p.z, p.hr, p.rn, p.bar, fun b hb => Nat.lt_of_lt_of_le (p.fz b hb) fr.size⟩
  have := p.hr; have := p.rn
  have hg := p.R.gl
  rcases hb with rfl | rfl | ⟨ht, hF⟩ | ⟨x, hx, e⟩
  · exact fr.block _ p.R.box.lt (.inr (by omega)) (fun i v h1 h2 => p.R.boxT.ne (p.tyD h1 h2).2 (by decide) rfl)
  · exact fr.block _ hg.2.lt (.inr (by omega)) (fun i v h1 h2 => hg.2.ne (p.tyD h1 h2).2 (by decide) rfl)
  · refine fr.block _ ht.lt ?_ (fun i v h1 h2 => ht.ne (p.tyD h1 h2).2 (by decide) rfl)
    have := p.bar b
    rcases Nat.lt_or_ge b h with h1 | h1
    · exact .inl h1
    · rcases Nat.lt_or_ge (h + 3) b with h2 | h2
      · exact .inr h2
      · exact absurd (this h1 h2) hF
  · have ho := p.R.own hx e
    exact fr.block _ ho.2.lt (.inr (by omega)) (fun i v h1 h2 => ho.2.ne (p.tyD h1 h2).2 (by decide) rfl)
theorem Pr.keepD (p : Pr F w z h nb us d1 n0 rb g c bs d2) (fr : FrB w w' rb g bs bs') (R' : RfAt F w' n0 rb g c bs' d2') : Pr F w' z h nb us d1 n0 rb g c bs' d2' := by
  refine ⟨p.D.keep fun b hb => ?_, R', p.z, p.hr, p.rn, p.bar, fun b hb => Nat.lt_of_lt_of_le (p.fz b hb) fr.size⟩
  have := p.hr; have := p.rn; have := p.D.lt
  have hg := p.R.gl
  rcases hb with hh | ⟨i, v, h1, h2⟩
  · exact fr.block _ (by omega) (by omega) (by omega) (fun x hx e => by have := p.R.own hx e; omega)
  · have ho := p.tyD h1 h2
    exact fr.block _ ho.2.lt (ho.2.ne p.R.boxT (by decide)) (ho.2.ne hg.2 (by decide)) (fun x hx e => ho.2.ne (p.R.own hx e).2 (by decide) rfl)
theorem Pr.keep (p : Pr F w z h nb us d1 n0 rb g c bs d2) (hs : w.heap.size ≤ w'.heap.size) (hk : ∀ b, PrB h us rb g bs b ∨ (TyAt w b 5 ∧ ¬ F b) → w'.heap[b]? = w.heap[b]?) : Pr F w' z h nb us d1 n0 rb g c bs d2 :=
  ⟨p.D.keep fun b hb => hk b (.inl (by
      rcases hb with hb | ⟨i, v, h1, h2⟩
      · exact .inl (by omega)
      · exact .inr (.inl ⟨i, v, h1, h2⟩))), p.R.keepF fun b hb => hk b (by
      rcases hb with hb | hb | hb | hb
      · exact .inl (.inr (.inr (.inl hb)))
      · exact .inl (.inr (.inr (.inr (.inl hb))))
      · exact .inr hb
      · exact .inl (.inr (.inr (.inr (.inr hb))))), p.z, p.hr, p.rn, p.bar, fun b hb => Nat.lt_of_lt_of_le (p.fz b hb) hs⟩
theorem Pr.below (p : Pr F w z h nb us d1 n0 rb g c bs d2) (hb : Below w.heap.size w w') : Pr F w' z h nb us d1 n0 rb g c bs d2 :=
  p.keep hb.size fun b h => hb.block b (by
    rcases h with h | h
    · exact (p.ge h).2
    · exact h.1.lt)
end

/-- Both count the dirty blocks alike. -/
theorem dirtyN_all {d : Dsk} {N : Nat} (hO : d.Ok N) (hs : d.vs.Pairwise fun p q => p.1 < q.1) : dirtyN d d.ts.length = d.vs.length := by
  unfold dirtyN
  have hb : ∀ p ∈ d.vs, 0 ≤ p.1 ∧ p.1 < d.ts.length ∧ p.2 ≠ [] := fun p hp => by
    have := hO.vs p.1 p.2 (lookI_mem hs hp)
    exact ⟨this.1, this.2.1, this.2.2.1⟩
  have hP : ((List.range d.ts.length).filter fun j => !(vsOf d j).isEmpty).Perm (d.vs.map fun p => p.1.toNat) := by
    rw [List.perm_ext_iff_of_nodup (List.nodup_range.filter _)]
    · intro j
      simp only [List.mem_filter, List.mem_range, List.mem_map, Bool.not_eq_true', List.isEmpty_eq_false_iff]
      constructor
      · rintro ⟨_, h2⟩
        unfold vsOf at h2
        cases hv : lookI d.vs (j : Int) with
        | none => rw [hv] at h2; exact absurd rfl h2
        | some l =>
          unfold lookI at hv
          obtain ⟨p, hp, e⟩ := Option.map_eq_some_iff.1 hv
          have hk : p.1 = (j : Int) := by simpa using List.find?_some hp
          exact ⟨p, List.mem_of_find?_eq_some hp, by omega⟩
      · rintro ⟨p, hp, rfl⟩
        obtain ⟨h1, h2, h3⟩ := hb p hp
        refine ⟨by omega, ?_⟩
        unfold vsOf
        rw [Int.toNat_of_nonneg h1, lookI_mem hs hp]
        exact h3
    · unfold List.Nodup
      rw [List.pairwise_map]
      exact hs.imp_of_mem fun {p q} hp hq h => by
        have := (hb p hp).1
        have := (hb q hq).1
        omega
  rw [hP.length_eq, List.length_map]
end Go.Proofs.Yteaenhmiomoocaa
