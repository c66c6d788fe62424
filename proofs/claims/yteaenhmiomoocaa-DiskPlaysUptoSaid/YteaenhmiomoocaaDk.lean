/- A disk as data, and in memory. -/
import Derived.Test.YteaenhmiomoocaaRows
import Derived.Test.YteaenhmiomoocaaIM
import Derived.Maps.RangeWalk
namespace Go.Proofs.Yteaenhmiomoocaa
open Go.RowKit Go.Shelf Go.Maps

abbrev Tx := List UInt8
def bV (b : UInt8) : Value := .int .u8 (b.toNat : Int)
/-- A block's cells. -/
def tC (t : Tx) : List Value := t.map bV
@[simp] theorem tC_length (t : Tx) : (tC t).length = t.length := by simp [tC]
theorem tC_one {t : Tx} : ∀ v ∈ tC t, v.oneCell' = true := by intro v hv; obtain ⟨b, _, rfl⟩ := List.mem_map.1 hv; rfl

structure Dsk where
  ts : List Tx
  bad : List (Int × Bool)
  vs : List (Int × List Tx)
  off : Bool
  fuse : Int

/-- May it be done? And what is left of the fuse. -/
def powr (d : Dsk) : Bool × Dsk :=
  if d.off then (false, d) else if d.fuse = 0 then (false, { d with off := true, fuse := -1 }) else (true, { d with fuse := if 0 < d.fuse then d.fuse - 1 else d.fuse })
def writeS (d : Dsk) (i : Int) (t : Tx) : Dsk := { d with vs := putI d.vs i ((lookI d.vs i).getD [] ++ [t]) }
def writeD (d : Dsk) (i : Int) (t : Tx) : Int × Dsk :=
  if i < 0 ∨ (d.ts.length : Int) ≤ i ∨ t.length ≠ 256 then (1, d)
  else if (powr d).1 then (0, writeS (powr d).2 i t) else (8, (powr d).2)
def lastT (l : List Tx) : Tx := l.getLast?.getD []
def syncT (vs : List (Int × List Tx)) (ts : List Tx) : List Tx := ts.mapIdx fun j t => match lookI vs (j : Int) with | some l => lastT l | none => t
def syncB (vs : List (Int × List Tx)) (bad : List (Int × Bool)) : List (Int × Bool) := bad.filter fun p => (lookI vs p.1).isNone
def syncS (d : Dsk) : Dsk := { d with ts := syncT d.vs d.ts, bad := syncB d.vs d.bad, vs := [] }
def syncD (d : Dsk) : Int × Dsk := if (powr d).1 then (0, syncS (powr d).2) else (8, (powr d).2)
def cutD (d : Dsk) (n : Int) : Dsk := if d.off then d else { d with fuse := max n (-1) }
def readD (d : Dsk) (i : Int) : Option Tx × Int :=
  if i < 0 ∨ (d.ts.length : Int) ≤ i then (none, 1) else if d.off then (none, 8)
  else match lookI d.vs i with
    | some l => (some (lastT l), 0)
    | none => if (lookI d.bad i).getD false then (none, 22) else (some (d.ts[i.toNat]?.getD []), 0)
/-- What a crash leaves of one block. -/
def crash1 (d : Dsk) (p : Int × List Tx) (c : Int) : Dsk :=
  if 0 < c ∧ c ≤ p.2.length then { d with ts := d.ts.set p.1.toNat (p.2[(c - 1).toNat]?.getD []), bad := delI d.bad p.1 } else if c = 0 then d else { d with bad := putI d.bad p.1 true }
def crashL : Dsk → List (Int × List Tx) → List Int → Dsk
  | d, [], _ => d
  | d, p :: r, cs => crashL (crash1 d p (cs.head?.getD 0)) r cs.tail
def crashD (d : Dsk) (cs : List Int) : Dsk := { crashL d d.vs cs with vs := [], off := false, fuse := -1 }
/-- A block full of one byte. -/
def fullT (c : UInt8) : Tx := List.replicate 256 c
theorem fullT_length (c : UInt8) : (fullT c).length = 256 := List.length_replicate
def zeroT : Tx := fullT 0
theorem zeroT_length : zeroT.length = 256 := fullT_length 0
def newD (n : Nat) : Dsk := ⟨List.replicate n zeroT, [], [], false, -1⟩

theorem powr_vs (d : Dsk) : (powr d).2.vs = d.vs := by
  unfold powr
  repeat' split
  all_goals rfl
theorem powr_ts (d : Dsk) : (powr d).2.ts = d.ts := by
  unfold powr
  repeat' split
  all_goals rfl
theorem powr_bad (d : Dsk) : (powr d).2.bad = d.bad := by
  unfold powr
  repeat' split
  all_goals rfl
/-- What is always so. -/
structure Dsk.Ok (d : Dsk) (N : Nat) : Prop where
  len : 1 ≤ d.ts.length ∧ d.ts.length ≤ 4096
  tx : ∀ t ∈ d.ts, t.length = 256
  vs : ∀ i l, lookI d.vs i = some l → 0 ≤ i ∧ i < d.ts.length ∧ l ≠ [] ∧ l.length ≤ N ∧ ∀ t ∈ l, t.length = 256
  fuse : -1 ≤ d.fuse ∧ d.fuse ≤ 9223372036854775807

/-- w holds the disk d: its texts from block h on, its maps, its box, and its versions in rows of their own. -/
structure DkAt (w : World) (h nb : Nat) (us : List (Int × Value)) (d : Dsk) : Prop where
  box : Blk w (h + 3) [.slice (some ⟨h, 0, none⟩) d.ts.length d.ts.length, .map (some (h + 1)), .map (some (h + 2)), .bool d.off, .int .i64 d.fuse]
  txt : Blk w h (d.ts.flatMap tC)
  bad : IM Try.prog 3 w (h + 1) nb Value.bool d.bad
  ver : IM Try.prog 3 w (h + 2) nb (fun v => v) us
  keys : us.map (·.1) = d.vs.map (·.1)
  rows : ∀ i v, lookI us i = some v → ∃ l A c, lookI d.vs i = some l ∧ v = .slice A l.length c ∧ w.ownsRow (h + 4) 58 256 v l.length (l.flatMap tC)
  sep : ∀ i j v v', i ≠ j → lookI us i = some v → lookI us j = some v' → ∀ g, v.ownBlock = some g → v'.ownBlock ≠ some g

/-- From w to w' nothing turns but what is the disk's. -/
structure FrD (w w' : World) (h : Nat) (us us' : List (Int × Value)) : Prop where
  os : w'.os = w.os
  tape : w'.tape = w.tape
  output : w'.output = w.output
  size : w.heap.size ≤ w'.heap.size
  block : ∀ b, b < w.heap.size → (b < h ∨ h + 3 < b) → (∀ i v, lookI us i = some v → v.ownBlock ≠ some b) → w'.heap[b]? = w.heap[b]?
  sub : ∀ i v g, lookI us' i = some v → v.ownBlock = some g → (∃ j u, lookI us j = some u ∧ u.ownBlock = some g) ∨ w.heap.size ≤ g

theorem FrD.refl (w : World) (h : Nat) (us : List (Int × Value)) : FrD w w h us us := ⟨rfl, rfl, rfl, Nat.le_refl _, fun _ _ _ _ => rfl, fun i v _ h1 h2 => .inl ⟨i, v, h1, h2⟩⟩
theorem FrD.trans {w w' w'' : World} {h : Nat} {us us' us'' : List (Int × Value)} (a : FrD w w' h us us') (b : FrD w' w'' h us' us'') : FrD w w'' h us us'' := by
  refine ⟨b.os.trans a.os, b.tape.trans a.tape, b.output.trans a.output, Nat.le_trans a.size b.size, fun k hk hh hu => ?_, fun i v g h1 h2 => ?_⟩
  · refine (b.block k (Nat.lt_of_lt_of_le hk a.size) hh fun i v h1 h2 => ?_).trans (a.block k hk hh hu)
    rcases a.sub i v k h1 h2 with ⟨j, u, h3, h4⟩ | h3
    · exact hu j u h3 h4
    · omega
  · rcases b.sub i v g h1 h2 with ⟨j, u, h3, h4⟩ | h3
    · exact a.sub j u g h3 h4
    · exact .inr (Nat.le_trans a.size h3)
theorem FrD.of_below {w w' : World} {h : Nat} (us : List (Int × Value)) (hb : Below w.heap.size w w') : FrD w w' h us us :=
  ⟨hb.os, hb.tape, hb.output, hb.size, fun b hlt _ _ => hb.block b hlt, fun i v _ h1 h2 => .inl ⟨i, v, h1, h2⟩⟩
theorem FrD.trb {w w' w'' : World} {h : Nat} {us us' : List (Int × Value)} (a : FrD w w' h us us') (b : Below w'.heap.size w' w'') : FrD w w'' h us us' := a.trans (FrD.of_below us' b)
theorem FrD.below {w w' : World} {h n0 : Nat} {us us' : List (Int × Value)} (a : FrD w w' h us us') (h0 : n0 ≤ h) (hu : ∀ i v g, lookI us i = some v → v.ownBlock = some g → n0 ≤ g) (hn : n0 ≤ w.heap.size) : Below n0 w w' :=
  ⟨a.os, a.tape, a.output, a.size, fun b hb => a.block b (by omega) (.inl (by omega)) fun i v h1 h2 => by have := hu i v b h1 h2; omega⟩

theorem ownsRow_base {w : World} {base : Nat} {e : TypeId} {size : Nat} {v : Value} {n : Nat} {xs : List Value} (h : w.ownsRow base e size v n xs) {g : Nat} (hg : v.ownBlock = some g) : base ≤ g := by
  obtain ⟨_, ⟨rfl, _⟩ | ⟨g', cap, cur, rfl, hb, _⟩⟩ := h
  · cases hg
  · simp [Value.ownBlock] at hg; omega
theorem ownsRow_lt {w : World} {base : Nat} {e : TypeId} {size : Nat} {v : Value} {n : Nat} {xs : List Value} (h : w.ownsRow base e size v n xs) {g : Nat} (hg : v.ownBlock = some g) : g < w.heap.size := by
  obtain ⟨_, ⟨rfl, _⟩ | ⟨g', cap, cur, rfl, hb, hh, _⟩⟩ := h
  · cases hg
  · simp [Value.ownBlock] at hg
    subst hg
    exact (Array.getElem?_eq_some_iff.1 hh).1
theorem ownsRow_keep {w w' : World} {base : Nat} {e : TypeId} {size : Nat} {v : Value} {n : Nat} {xs : List Value} (h : w.ownsRow base e size v n xs) (hk : ∀ g, v.ownBlock = some g → w'.heap[g]? = w.heap[g]?) : w'.ownsRow base e size v n xs := by
  obtain ⟨h1, h2 | ⟨g, cap, cur, rfl, hg, hh, r⟩⟩ := h
  · exact ⟨h1, .inl h2⟩
  · exact ⟨h1, .inr ⟨g, cap, cur, rfl, hg, (hk g rfl).trans hh, r⟩⟩

theorem ownsRow_tells {w : World} {base : Nat} {e : TypeId} {size : Nat} {v : Value} {n : Nat} {xs : List Value} (h : w.ownsRow base e size v n xs) :
    ∃ A c, v = .slice A n c ∧ (n ≠ 0 → ∃ g, A = some ⟨g, 0, none⟩ ∧ base ≤ g ∧ g < w.heap.size ∧ ∀ j u, xs[j]? = some u → w.cell? ⟨g, j, none⟩ = some u) := by
  obtain ⟨hl, ⟨rfl, rfl⟩ | ⟨g, cap, cur, rfl, hb, hh, hle, _, hcs, htake⟩⟩ := h
  · exact ⟨none, 0, rfl, fun h => absurd rfl h⟩
  · refine ⟨some ⟨g, 0, none⟩, cap, rfl, fun _ => ⟨g, rfl, hb, (Array.getElem?_eq_some_iff.1 hh).1, fun j u hu => ?_⟩⟩
    have hjl : j < n * size := by rw [← hl]; exact (List.getElem?_eq_some_iff.1 hu).1
    rw [← htake, List.getElem?_take] at hu
    rw [if_pos hjl] at hu
    simp only [World.cell?]
    rw [hh]
    simpa using hu

section
variable {w w' : World} {h nb : Nat} {us : List (Int × Value)} {d : Dsk}
theorem DkAt.lt (D : DkAt w h nb us d) : h + 3 < w.heap.size := D.box.lt
theorem DkAt.base (D : DkAt w h nb us d) {i : Int} {v : Value} {g : Nat} (h1 : lookI us i = some v) (h2 : v.ownBlock = some g) : h + 4 ≤ g ∧ g < w.heap.size := by
  obtain ⟨l, A, c, _, _, hr⟩ := D.rows i v h1
  exact ⟨ownsRow_base hr h2, ownsRow_lt hr h2⟩
theorem DkAt.keep (D : DkAt w h nb us d) (hk : ∀ b, ((h ≤ b ∧ b ≤ h + 3) ∨ ∃ i v, lookI us i = some v ∧ v.ownBlock = some b) → w'.heap[b]? = w.heap[b]?) : DkAt w' h nb us d :=
  ⟨D.box.of_heap (hk _ (.inl (by omega))), D.txt.of_heap (hk _ (.inl (by omega))), D.bad.of_heap (hk _ (.inl (by omega))), D.ver.of_heap (hk _ (.inl (by omega))), D.keys,
   fun i v hv => by obtain ⟨l, A, c, h1, h2, h3⟩ := D.rows i v hv; exact ⟨l, A, c, h1, h2, ownsRow_keep h3 fun g hg => hk g (.inr ⟨i, v, hv, hg⟩)⟩, D.sep⟩
theorem DkAt.below (D : DkAt w h nb us d) (hb : Below w.heap.size w w') : DkAt w' h nb us d :=
  D.keep fun b hh => hb.block b (by
    rcases hh with hh | ⟨i, v, h1, h2⟩
    · have := D.lt; omega
    · exact (D.base h1 h2).2)
theorem DkAt.mono (D : DkAt w h nb us d) {nb' : Nat} (hn : nb ≤ nb') : DkAt w h nb' us d := ⟨D.box, D.txt, D.bad.mono hn, D.ver.mono hn, D.keys, D.rows, D.sep⟩
theorem DkAt.sorted (D : DkAt w h nb us d) : d.vs.Pairwise fun p q => p.1 < q.1 := by
  have h1 := D.ver.sorted Try.underlying3
  have h2 := List.pairwise_map.2 h1
  rw [D.keys] at h2
  exact List.pairwise_map.1 h2
end

theorem lookI_none_iff {α : Type} {m : List (Int × α)} {k : Int} : lookI m k = none ↔ k ∉ m.map (·.1) := by
  simp only [lookI, Option.map_eq_none_iff, List.find?_eq_none, List.mem_map, not_exists, not_and]
  constructor
  · intro h x hx e; exact h x hx (by simp [e])
  · intro h x hx e; exact h x hx (by simpa using e)
theorem DkAt.noneK {w : World} {h nb : Nat} {us : List (Int × Value)} {d : Dsk} (D : DkAt w h nb us d) {i : Int} : lookI us i = none ↔ lookI d.vs i = none := by
  rw [lookI_none_iff, lookI_none_iff, D.keys]
end Go.Proofs.Yteaenhmiomoocaa
