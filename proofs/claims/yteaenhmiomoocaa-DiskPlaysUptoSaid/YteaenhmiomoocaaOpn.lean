/- A law's operations, opened. -/
import Derived.Test.YteaenhmiomoocaaOpen
import Derived.OpenShut
import Derived.Test.YteaenhmiomoocaaOps
namespace Go.Proofs.Yteaenhmiomoocaa
open Go.ChangeShapes Go.WideShapes Go.ChangeAt Go.RowKit Go.Deep

theorem Try.laidOut : laidOutB Try.prog = true := by kernel_rfl
theorem Try.own : ownKnob Try.prog.godebug = none := by kernel_rfl
theorem c3 : Try.prog.cellsOf 3 = 1 := by kernel_rfl
theorem c5 : Try.prog.cellsOf 5 = 1 := by kernel_rfl
theorem c23 : Try.prog.cellsOf 23 = 1 := by kernel_rfl
theorem c30 : Try.prog.cellsOf 30 = 1 := by kernel_rfl
theorem c32 : Try.prog.cellsOf 32 = 6 := by kernel_rfl
theorem b3 : Try.prog.bytesOf 3 = 8 := by kernel_rfl
theorem b5 : Try.prog.bytesOf 5 = 1 := by kernel_rfl
theorem b32 : Try.prog.bytesOf 32 = 80 := by kernel_rfl

section
variable {H : Type} {enc : TypeId × Value → H} {w : World} {base : Nat} {spare : Nat → Bool} {held : Bool} {fuel : Nat} {cs : List Value} {x : DataW H × List MemPlace}

def isInt (_ : World) (cs : List Value) (z : Int) : Prop := cs = [.int .i64 z] ∧ okI z
theorem open_int (h : DataW.trod enc Try.prog w base spare held fuel 3 cs = some x) (_ : Sized Try.prog 3 x.1) : ∃ z : Int, isInt w cs z := open_i64 Try.underlying3 h
theorem open_u8 {P : Program} {t : TypeId} (ht : P.underlying t = some (.int .u8)) (h : DataW.trod enc P w base spare held fuel t cs = some x) : ∃ b : UInt8, cs = [.int .u8 (b.toNat : Int)] := by
  obtain ⟨n, h1, _, h3⟩ := DataW.trod_int ht h
  have h4 : 0 ≤ n ∧ n < 256 := by simp [Lit.wf, IntKind.min, IntKind.max, IntKind.signed, IntKind.bits] at h3; omega
  refine ⟨UInt8.ofNat n.toNat, ?_⟩
  have e : ((UInt8.ofNat n.toNat).toNat : Int) = n := by simp; omega
  rw [e]
  exact h1
def isByte (_ : World) (cs : List Value) (z : UInt8) : Prop := cs = [.int .u8 (z.toNat : Int)]
theorem open_byte (h : DataW.trod enc Try.prog w base spare held fuel 5 cs = some x) (_ : Sized Try.prog 5 x.1) : ∃ z : UInt8, isByte w cs z := open_u8 Try.underlying5 h

def isOp (w : World) (cs : List Value) (o : OpD) : Prop := okI o.k ∧ okI o.i ∧ okI o.n ∧ ∃ A c A' c', SlAt w A 1 isByte o.b ∧ o.b.length ≤ 140737488351232 ∧ SlAt w A' 1 isInt o.l ∧ o.l.length * 8 ≤ 140737488351232 ∧
  cs = [.int .i64 o.k, .int .i64 o.i, .int .i64 o.n, .slice A o.b.length c, .int .u8 (o.f.toNat : Int), .slice A' o.l.length c']
theorem open_op (h : DataW.trod enc Try.prog w base spare held fuel 32 cs = some x) (hs : Sized Try.prog 32 x.1) : ∃ o : OpD, isOp w cs o := by
  obtain ⟨n, hl, hf⟩ := open_struct Try.underlying32 h hs
  obtain ⟨y0, h0, _⟩ := hf 0 3 0 1 rfl c3
  obtain ⟨y1, h1, _⟩ := hf 1 3 1 1 rfl c3
  obtain ⟨y2, h2, _⟩ := hf 2 3 2 1 rfl c3
  obtain ⟨y3, h3, s3⟩ := hf 3 30 3 1 rfl c30
  obtain ⟨y4, h4, _⟩ := hf 4 5 4 1 rfl c5
  obtain ⟨y5, h5, s5⟩ := hf 5 23 5 1 rfl c23
  obtain ⟨a0, e0, f0⟩ := open_i64 Try.underlying3 h0
  obtain ⟨a1, e1, f1⟩ := open_i64 Try.underlying3 h1
  obtain ⟨a2, e2, f2⟩ := open_i64 Try.underlying3 h2
  obtain ⟨A3, c3', l3, e3, _, r3, n3⟩ := open_list isByte 1 Try.underlying30 c5 (by omega) (fun _ _ _ => open_byte) h3 s3
  obtain ⟨a4, e4⟩ := open_u8 Try.underlying5 h4
  obtain ⟨A5, c5', l5, e5, _, r5, n5⟩ := open_list isInt 1 Try.underlying23 c3 (by omega) (fun _ _ _ => open_int) h5 s5
  rw [b5] at n3
  rw [b3] at n5
  rw [c32] at hl
  replace e0 := cut_eq e0
  replace e1 := cut_eq e1
  replace e2 := cut_eq e2
  replace e3 := cut_eq e3
  replace e4 := cut_eq e4
  replace e5 := cut_eq e5
  simp only [Nat.reduceAdd, List.drop_zero, cut_end hl] at e0 e1 e2 e3 e4 e5
  refine ⟨⟨a0, a1, a2, l3, a4, l5⟩, f0, f1, f2, A3, c3', A5, c5', r3, by simpa [reachBytes] using n3, r5, by simpa [reachBytes] using n5, ?_⟩
  rw [e0, e1, e2, e3, e4, e5]
  rfl
end
theorem opsAt_of {w : World} {A : Option Addr} {l : List OpD} (h : SlAt w A 6 isOp l) : OpsAt w A l := fun i hi => by
  obtain ⟨b, o, cs, hA, hlt, _, hc, _, hk, _, _, _, _, _, _, _, _, _, rfl⟩ := h i hi
  exact ⟨b, o, hA, hlt, hc 0 (by omega), hc 1 (by omega), hc 4 (by omega), hk⟩
end Go.Proofs.Yteaenhmiomoocaa
