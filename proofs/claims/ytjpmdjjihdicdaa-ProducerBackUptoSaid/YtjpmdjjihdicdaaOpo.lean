/- Operations, entries and batches that came in, opened. -/
import Derived.Test.YtjpmdjjihdicdaaOpen
import Derived.OpenShut
import Derived.Test.YtjpmdjjihdicdaaOnce
import Derived.Test.YtjpmdjjihdicdaaSame
namespace Go.Proofs.Ytjpmdjjihdicdaa
open Go.ChangeShapes Go.WideShapes Go.ChangeAt Go.RowKit Go.Deep

theorem Try.own : ownKnob Try.prog.godebug = none := by kernel_rfl
theorem c3 : Try.prog.cellsOf 3 = 1 := by kernel_rfl
theorem c4 : Try.prog.cellsOf 4 = 1 := by kernel_rfl
theorem c9 : Try.prog.cellsOf 9 = 1 := by kernel_rfl
theorem c90 : Try.prog.cellsOf 90 = 1 := by kernel_rfl
theorem c92 : Try.prog.cellsOf 92 = 4 := by kernel_rfl
theorem c93 : Try.prog.cellsOf 93 = 3 := by kernel_rfl
theorem b92 : Try.prog.bytesOf 92 = 48 := by kernel_rfl
theorem b93 : Try.prog.bytesOf 93 = 24 := by kernel_rfl
theorem c28 : Try.prog.cellsOf 28 = 1 := by kernel_rfl
theorem c30 : Try.prog.cellsOf 30 = 6 := by kernel_rfl
theorem c33 : Try.prog.cellsOf 33 = 8 := by kernel_rfl
theorem c84 : Try.prog.cellsOf 84 = 3 := by kernel_rfl
theorem b33 : Try.prog.bytesOf 33 = 80 := by kernel_rfl
theorem b84 : Try.prog.bytesOf 84 = 40 := by kernel_rfl

section
variable {H : Type} {enc : TypeId × Value → H} {w : World} {base : Nat} {spare : Nat → Bool} {held : Bool} {fuel : Nat} {cs : List Value} {x : DataW H × List MemPlace}

def isRec (_ : World) (cs : List Value) (r : Rec) : Prop := cs = recV r ∧ r.key.size ≤ 140737488351232 ∧ r.val.size ≤ 140737488351232
theorem open_rec (h : DataW.trod enc Try.prog w base spare held fuel 84 cs = some x) (hs : Sized Try.prog 84 x.1) : ∃ r : Rec, isRec w cs r := by
  obtain ⟨n, hl, hf⟩ := open_struct Try.underlying84 h hs
  obtain ⟨y0, h0, s0⟩ := hf 0 9 0 1 rfl c9
  obtain ⟨y1, h1, s1⟩ := hf 1 9 1 1 rfl c9
  obtain ⟨y2, h2, _⟩ := hf 2 4 2 1 rfl c4
  obtain ⟨a0, e0, z0⟩ := open_str Try.underlying9 h0 s0
  obtain ⟨a1, e1, z1⟩ := open_str Try.underlying9 h1 s1
  obtain ⟨a2, e2⟩ := open_bl Try.underlying4 h2
  rw [c84] at hl
  replace e0 := cut_eq e0
  replace e1 := cut_eq e1
  replace e2 := cut_eq e2
  simp only [Nat.reduceAdd, List.drop_zero, cut_end hl] at e0 e1 e2
  exact ⟨⟨a0, a1, a2⟩, by rw [e0, e1, e2]; rfl, z0, z1⟩

theorem recsAt_of {w : World} {A : Option Addr} {rs : List Rec} (h : SlAt w A 3 isRec rs) (hn : rs.length * 40 ≤ 140737488351232) : RecsAt w A rs := by
  refine ⟨by omega, fun i hi => ?_⟩
  obtain ⟨b, o, cs, hA, hlt, hl, hc, hx, z0, z1⟩ := h i hi
  subst hx
  exact ⟨b, o, hA, hlt, hc 0 (by omega), hc 1 (by omega), hc 2 (by omega), z0, z1⟩

def isOp (w : World) (cs : List Value) (o : OpD) : Prop := o.fits ∧ ∃ A c, RecsAt w A o.rs ∧ cs = [.bool o.note, .int .i64 o.k, .int .i64 o.p, .int .i64 o.ep, .int .i64 o.s, .bool o.t, .slice A o.rs.length c, .int .i64 o.off]
theorem open_op (h : DataW.trod enc Try.prog w base spare held fuel 33 cs = some x) (hs : Sized Try.prog 33 x.1) : ∃ o : OpD, isOp w cs o := by
  obtain ⟨n, hl, hf⟩ := open_struct Try.underlying33 h hs
  obtain ⟨y0, h0, s0⟩ := hf 0 4 0 1 rfl c4
  obtain ⟨y1, h1, s1⟩ := hf 1 30 1 6 rfl c30
  obtain ⟨y2, h2, s2⟩ := hf 2 3 7 1 rfl c3
  obtain ⟨a0, e0⟩ := open_bl Try.underlying4 h0
  obtain ⟨a2, e2, f2⟩ := open_i64 Try.underlying3 h2
  obtain ⟨m, hl1, hf1⟩ := open_struct Try.underlying30 h1 s1
  obtain ⟨u0, g0, t0⟩ := hf1 0 3 0 1 rfl c3
  obtain ⟨u1, g1, t1⟩ := hf1 1 3 1 1 rfl c3
  obtain ⟨u2, g2, t2⟩ := hf1 2 3 2 1 rfl c3
  obtain ⟨u3, g3, t3⟩ := hf1 3 3 3 1 rfl c3
  obtain ⟨u4, g4, t4⟩ := hf1 4 4 4 1 rfl c4
  obtain ⟨u5, g5, t5⟩ := hf1 5 28 5 1 rfl c28
  obtain ⟨k0, d0, o0⟩ := open_i64 Try.underlying3 g0
  obtain ⟨k1, d1, o1⟩ := open_i64 Try.underlying3 g1
  obtain ⟨k2, d2, o2⟩ := open_i64 Try.underlying3 g2
  obtain ⟨k3, d3, o3⟩ := open_i64 Try.underlying3 g3
  obtain ⟨k4, d4⟩ := open_bl Try.underlying4 g4
  obtain ⟨A, c, rs, d5, _, hrs, hrn⟩ := open_list isRec 3 Try.underlying28 c84 (by omega) (fun _ _ _ => open_rec) g5 t5
  rw [b84] at hrn
  rw [c33] at hl
  rw [c30] at hl1
  replace e0 := cut_eq e0
  replace e2 := cut_eq e2
  have e1 := cut_eq (cs := cs) (a := 1) (b := 6) rfl
  replace d0 := cut_eq d0
  replace d1 := cut_eq d1
  replace d2 := cut_eq d2
  replace d3 := cut_eq d3
  replace d4 := cut_eq d4
  replace d5 := cut_eq d5
  simp only [Nat.reduceAdd, List.drop_zero, cut_end hl, cut_end hl1] at e0 e1 e2 d0 d1 d2 d3 d4 d5
  refine ⟨⟨a0, k0, k1, k2, k3, k4, rs, a2⟩, ⟨o0, o1, o2, o3, f2⟩, A, c, recsAt_of hrs hrn, ?_⟩
  rw [e0, e1, e2, d0, d1, d2, d3, d4, d5]
  rfl
end

theorem opsAt_of {w : World} {A : Option Addr} {l : List OpD} (h : SlAt w A 8 isOp l) (hn : l.length * 80 ≤ 140737488351232) : OpsAt w A l := by
  refine ⟨by omega, fun i hi => ?_⟩
  obtain ⟨b, o, cs, hA, hlt, hl, hc, hf, A', c', hr, rfl⟩ := h i hi
  exact ⟨b, o, A', c', hA, hlt, hr, hf, hc 0 (by omega), hc 1 (by omega), hc 2 (by omega), hc 3 (by omega), hc 4 (by omega), hc 5 (by omega), hc 6 (by omega), hc 7 (by omega)⟩


def Dn.fits (d : Dn) : Prop := okI d.seq ∧ okI d.len ∧ okI d.off
def Ent.fits (x : Ent) : Prop := okI x.p ∧ okI x.ep ∧ okI x.nx ∧ x.last.length ≤ 5864062014805 ∧ ∀ d ∈ x.last, d.fits

section
variable {H : Type} {enc : TypeId × Value → H} {w : World} {base : Nat} {spare : Nat → Bool} {held : Bool} {fuel : Nat} {cs : List Value} {x : DataW H × List MemPlace}
def isDn (_ : World) (cs : List Value) (d : Dn) : Prop := cs = dnL d ∧ d.fits
theorem open_dn (h : DataW.trod enc Try.prog w base spare held fuel 93 cs = some x) (hs : Sized Try.prog 93 x.1) : ∃ o : Dn, isDn w cs o := by
  obtain ⟨n, hl, hf⟩ := open_struct Try.underlying93 h hs
  obtain ⟨y0, h0, s0⟩ := hf 0 3 0 1 rfl c3
  obtain ⟨y1, h1, s1⟩ := hf 1 3 1 1 rfl c3
  obtain ⟨y2, h2, _⟩ := hf 2 3 2 1 rfl c3
  obtain ⟨a0, e0, z0⟩ := open_i64 Try.underlying3 h0
  obtain ⟨a1, e1, z1⟩ := open_i64 Try.underlying3 h1
  obtain ⟨a2, e2, z2⟩ := open_i64 Try.underlying3 h2
  rw [c93] at hl
  replace e0 := cut_eq e0
  replace e1 := cut_eq e1
  replace e2 := cut_eq e2
  simp only [Nat.reduceAdd, List.drop_zero, cut_end hl] at e0 e1 e2
  exact ⟨⟨a0, a1, a2⟩, by rw [e0, e1, e2]; rfl, z0, z1, z2⟩
theorem dnsAt_of {ds : List Dn} {A : Option Addr} (h : SlAt w A 3 isDn ds) : DnsAt w A ds ∧ ∀ d ∈ ds, d.fits := by
  refine ⟨fun i hi => ?_, fun d hd => ?_⟩
  · obtain ⟨b, o, cs, hA, hlt, hl, hc, rfl, _⟩ := h i hi
    exact ⟨b, o, hA, hlt, hc 0 (by omega), hc 1 (by omega), hc 2 (by omega)⟩
  · obtain ⟨i, hi, rfl⟩ := List.getElem_of_mem hd
    obtain ⟨b, o, cs, hA, hlt, hl, hc, _, hf⟩ := h i hi
    exact hf
def isEnt (w : World) (cs : List Value) (x : Ent) : Prop := ∃ A c, cs = [.int .i64 x.p, .int .i64 x.ep, .int .i64 x.nx, .slice A x.last.length c] ∧ DnsAt w A x.last ∧ x.fits
theorem open_ent (h : DataW.trod enc Try.prog w base spare held fuel 92 cs = some x) (hs : Sized Try.prog 92 x.1) : ∃ o : Ent, isEnt w cs o := by
  obtain ⟨n, hl, hf⟩ := open_struct Try.underlying92 h hs
  obtain ⟨y0, h0, s0⟩ := hf 0 3 0 1 rfl c3
  obtain ⟨y1, h1, s1⟩ := hf 1 3 1 1 rfl c3
  obtain ⟨y2, h2, s2⟩ := hf 2 3 2 1 rfl c3
  obtain ⟨y3, h3, s3⟩ := hf 3 90 3 1 rfl c90
  obtain ⟨a0, e0, z0⟩ := open_i64 Try.underlying3 h0
  obtain ⟨a1, e1, z1⟩ := open_i64 Try.underlying3 h1
  obtain ⟨a2, e2, z2⟩ := open_i64 Try.underlying3 h2
  obtain ⟨A, c, ds, e3, _, hds, hdn⟩ := open_list isDn 3 Try.underlying90 c93 (by omega) (fun _ _ _ => open_dn) h3 s3
  rw [b93] at hdn
  simp only [reachBytes] at hdn
  rw [c92] at hl
  replace e0 := cut_eq e0
  replace e1 := cut_eq e1
  replace e2 := cut_eq e2
  replace e3 := cut_eq e3
  simp only [Nat.reduceAdd, List.drop_zero, cut_end hl] at e0 e1 e2 e3
  obtain ⟨hd, hdf⟩ := dnsAt_of hds
  refine ⟨⟨a0, a1, a2, ds⟩, A, c, ?_, hd, z0, z1, z2, by dsimp only; omega, hdf⟩
  rw [e0, e1, e2, e3]
  rfl
end
theorem entsAt_of {w : World} {A : Option Addr} {l : List Ent} (h : SlAt w A 4 isEnt l) : EntsAt w A l ∧ ∀ x ∈ l, x.fits := by
  refine ⟨fun i hi => ?_, fun d hd => ?_⟩
  · obtain ⟨b, o, cs, hA, hlt, hl, hc, A', c', rfl, hd, _⟩ := h i hi
    exact ⟨b, o, A', c', hA, hlt, hc 0 (by omega), hc 1 (by omega), hc 2 (by omega), hc 3 (by omega), hd⟩
  · obtain ⟨i, hi, rfl⟩ := List.getElem_of_mem hd
    obtain ⟨b, o, cs, hA, hlt, hl, hc, _, _, _, _, hf⟩ := h i hi
    exact hf
section
variable {H : Type} {enc : TypeId × Value → H} {w : World} {base : Nat} {spare : Nat → Bool} {held : Bool} {fuel : Nat} {cs : List Value} {x : DataW H × List MemPlace}
theorem open_bat (h1 : DataW.trod enc Try.prog w base spare held fuel 30 cs = some x) (s1 : Sized Try.prog 30 x.1) :
    ∃ (k p ep s : Int) (t : Bool) (rs : List Rec) (A : Option Addr) (c : Nat), cs = [.int .i64 k, .int .i64 p, .int .i64 ep, .int .i64 s, .bool t, .slice A rs.length c] ∧ RecsAt w A rs ∧ okI k ∧ okI p ∧ okI ep ∧ okI s := by
  obtain ⟨m, hl1, hf1⟩ := open_struct Try.underlying30 h1 s1
  obtain ⟨u0, g0, t0⟩ := hf1 0 3 0 1 rfl c3
  obtain ⟨u1, g1, t1⟩ := hf1 1 3 1 1 rfl c3
  obtain ⟨u2, g2, t2⟩ := hf1 2 3 2 1 rfl c3
  obtain ⟨u3, g3, t3⟩ := hf1 3 3 3 1 rfl c3
  obtain ⟨u4, g4, t4⟩ := hf1 4 4 4 1 rfl c4
  obtain ⟨u5, g5, t5⟩ := hf1 5 28 5 1 rfl c28
  obtain ⟨k0, d0, o0⟩ := open_i64 Try.underlying3 g0
  obtain ⟨k1, d1, o1⟩ := open_i64 Try.underlying3 g1
  obtain ⟨k2, d2, o2⟩ := open_i64 Try.underlying3 g2
  obtain ⟨k3, d3, o3⟩ := open_i64 Try.underlying3 g3
  obtain ⟨k4, d4⟩ := open_bl Try.underlying4 g4
  obtain ⟨A, c, rs, d5, _, hrs, hrn⟩ := open_list isRec 3 Try.underlying28 c84 (by omega) (fun _ _ _ => open_rec) g5 t5
  rw [b84] at hrn
  rw [c30] at hl1
  replace d0 := cut_eq d0
  replace d1 := cut_eq d1
  replace d2 := cut_eq d2
  replace d3 := cut_eq d3
  replace d4 := cut_eq d4
  replace d5 := cut_eq d5
  simp only [Nat.reduceAdd, List.drop_zero, cut_end hl1] at d0 d1 d2 d3 d4 d5
  refine ⟨k0, k1, k2, k3, k4, rs, A, c, ?_, recsAt_of hrs hrn, o0, o1, o2, o3⟩
  rw [d0, d1, d2, d3, d4, d5]
  rfl
end
end Go.Proofs.Ytjpmdjjihdicdaa
