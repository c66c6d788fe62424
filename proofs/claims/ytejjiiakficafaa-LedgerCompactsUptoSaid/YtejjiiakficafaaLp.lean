/- A ledger as data: what its calls answer. No walk. -/
import Derived.Test.YtejjiiakficafaaGd
import Derived.Test.YtejjiiakficafaaFi
namespace Go.Proofs.Ytejjiiakficafaa
/-- A batch. -/
structure Bat where
  k : Int
  p : Int
  ep : Int
  s : Int
  t : Bool
  rs : List Rec
deriving Inhabited
/-- A ledger. -/
structure Lg where
  start : Int
  fin : Int
  rows : List Rw
  opn : List Tx
  gone : List Gn
  m : List (Int × St)
deriving Inhabited
def lg0 : Lg := ⟨0, 0, [], [], [], []⟩
/-- An entry. -/
structure En where
  kind : Int
  n : Int
  b : Bat
deriving Inhabited

def stableF (fin : Int) (o : List Tx) : Int := o.foldl (fun n t => min n t.first) fin
def Lg.stable (L : Lg) : Int := stableF L.fin L.opn
def lost (gs : List Gn) (r : Rw) : Bool := r.tx && gs.any (hitG r)
def rightB (x : En) : Bool :=
  if x.kind = 1 then decide (x.n = 0) && decide (checkE x.b.k x.b.p x.b.ep x.b.s x.b.t x.b.rs = 0)
  else if x.kind = 2 ∨ x.kind = 3 then decide (0 ≤ x.n) && decide (x.n ≤ 281474976710656) && decide (x.b.rs.length = 0) && decide (x.b.k = 0) && decide (x.b.p = 0) && decide (x.b.ep = 0) && decide (x.b.s = 0) && !x.b.t
  else false
/-- The latest offset below n of each key that counts. -/
def lastF (gs : List Gn) (n : Int) (rows : List Rw) : ByteArray → Int :=
  rows.foldl (fun f r => if decide (r.off < n) && !lost gs r then (fun y => if y = r.rc.key then r.off else f y) else f) (fun _ => 0)
def staysP (gs : List Gn) (n : Int) (f : ByteArray → Int) (r : Rw) : Bool := decide (n ≤ r.off) || (!lost gs r && (f r.rc.key == r.off))
def Lg.kept (L : Lg) (n : Int) : List Rw := L.rows.filter (staysP L.gone n (lastF L.gone n L.rows))
def knowsB (m : List (Int × St)) (p ep : Int) : Bool := m.any fun q => q.1 == p && q.2.epoch == ep
def txnI (o : List Tx) (p : Int) : Option Nat := if p < 0 then none else o.findIdx? (fun t => t.prod == p)

def Lg.decide (L : Lg) (x : En) : Int × Bool × Int :=
  if rightB x = false then (0, false, 1) else
  if x.kind ≠ 1 ∧ L.stable < x.n then (0, false, 11) else
  if x.kind = 2 then (0, Decidable.decide (x.n ≤ L.start), 0) else
  if x.kind = 3 then (0, Decidable.decide ((L.kept x.n).length = L.rows.length), 0) else
  let d := decideF (lookI L.m x.b.p) x.b.k x.b.p x.b.ep x.b.s x.b.t x.b.rs
  if d.2.2 ≠ 0 ∨ d.2.1 = true then d else
  let o := (txnI L.opn x.b.p).isSome
  if x.b.k ≠ 1 ∧ o = false ∧ knowsB L.m x.b.p x.b.ep = true then (-1, true, 0) else
  if x.b.k = 1 ∧ o = true ∧ x.b.t = false then (0, false, 54) else
  if 281474976710656 - L.fin < lenB (isM x.b.k) x.b.rs.length then (0, false, 53) else
  (L.fin, false, 0)

def rowsOf (fin : Int) (p : Int) (t : Bool) (rs : List Rec) : List Rw := rs.mapIdx fun i r => ⟨fin + i, p, t, r⟩
def Lg.put (L : Lg) (b : Bat) : Lg :=
  { start := L.start
    fin := L.fin + lenB (isM b.k) b.rs.length
    rows := L.rows ++ rowsOf L.fin b.p b.t b.rs
    opn := if b.k = 1 then (if b.t = true ∧ txnI L.opn b.p = none then L.opn ++ [⟨b.p, L.fin⟩] else L.opn) else match txnI L.opn b.p with
      | some i => L.opn.eraseIdx i
      | none => L.opn
    gone := if b.k = 1 then L.gone else match txnI L.opn b.p with
      | some i => if b.k = 3 then L.gone ++ [⟨b.p, (L.opn.getD i default).first, L.fin⟩] else L.gone
      | none => L.gone
    m := (noteF L.m b.k b.p b.ep b.s b.t b.rs L.fin).2 }
def Lg.apply (L : Lg) (x : En) : Lg :=
  if (L.decide x).2.2 ≠ 0 ∨ (L.decide x).2.1 = true then L else
  if x.kind = 1 then L.put x.b else
  if x.kind = 2 then { L with start := x.n, rows := L.rows.filter (fun r => Decidable.decide (x.n ≤ r.off)), gone := L.gone.filter (fun g => Decidable.decide (x.n ≤ g.last)) } else
  { L with rows := L.kept x.n }
/-- What Apply answers. -/
def Lg.said (L : Lg) (x : En) : Int × Int := (if (L.decide x).2.2 ≠ 0 then 0 else (L.decide x).1, (L.decide x).2.2)

def fetchP (gs : List Gn) (frm fin : Int) (committed : Bool) (r : Rw) : Bool := Decidable.decide (frm ≤ r.off) && Decidable.decide (r.off < fin) && !(committed && lost gs r)
def Lg.fetch (L : Lg) (frm most : Int) (committed : Bool) : List Rw × Int × Int :=
  if frm < 0 ∨ most < 0 then ([], 0, 1) else
  if frm < L.start then ([], 0, 32) else
  if L.fin < frm then ([], 0, 11) else
  if most = 0 then ([], frm, 0) else
  let fin := if committed = true then L.stable else L.fin
  let l := L.rows.filter (fetchP L.gone frm fin committed)
  if most ≤ l.length then (l.take most.toNat, (l.getD (most.toNat - 1) default).off + 1, 0) else (l, max frm fin, 0)
end Go.Proofs.Ytejjiiakficafaa
