/- The document's right: may an entry be? -/
import Derived.Test.YtjpmdjjihdicdaaRefR
namespace Go.Proofs.Ytjpmdjjihdicdaa
open Go.RowKit Go.Shelf
attribute [local go_sem] Oper.semAt_some

def badD (nx : Int) (d : Dn) : Bool := decide (d.len < 1) || decide (64 < d.len) || decide (d.off < 0) || decide (281474976710656 < d.off) || decide (d.seq < 0) || !(d.seq == nx - d.len)
def rightD : Int → List Dn → Bool
  | _, [] => true
  | nx, d :: r => !badD nx d && rightD d.seq r
def badE (x : Ent) : Bool := decide (x.p < 0) || decide (281474976710656 ≤ x.p) || decide (x.ep < 0) || decide (2147483648 ≤ x.ep) || decide (x.nx < 0) || decide (2147483648 < x.nx) || decide ((5 : Int) < (x.last.length : Int))
def rightE (x : Ent) : Bool := !badE x && rightD x.nx x.last.reverse

theorem rightD_step {nx : Int} {l : List Dn} {j : Nat} (h : j < l.length) : rightD nx (l.take (j + 1)).reverse = (!badD nx l[j] && rightD l[j].seq (l.take j).reverse) := by
  rw [List.take_succ_eq_append_getElem h, List.reverse_append]
  rfl

set_option maxRecDepth 100000 in
set_option maxHeartbeats 4000000 in
theorem rright_any (x : Ent) (A : Option Addr) (c : Nat) (w : World) (hd : DnsAt w A x.last) (hx : -9223372036854775808 ≤ x.nx ∧ x.nx ≤ 9223372036854775807) :
    Calls Try.prog 33 #[.agg #[.int .i64 x.p, .int .i64 x.ep, .int .i64 x.nx, .slice A x.last.length c]] w fun e w' => e = .returned (.bool (rightE x)) ∧ Below w.heap.size w w' := by
  obtain ⟨xp, xe, xn, xl⟩ := x
  dsimp only at hd hx ⊢
  have X0 : Blk (w.alloc (.cells #[.int .i64 xp, .int .i64 xe, .int .i64 xn, .slice A xl.length c] 92)) w.heap.size [.int .i64 xp, .int .i64 xe, .int .i64 xn, .slice A xl.length c] := Blk.new' _ _ rfl
  cases hb : badE ⟨xp, xe, xn, xl⟩ with
  | true =>
    have hR := Lib.hid (show rightE ⟨xp, xe, xn, xl⟩ = false by unfold rightE; rw [hb]; rfl)
    unfold badE at hb
    dsimp only at hb
    by_cases h1 : xp < 0
    · clear hb hd
      go_enter Try.func33, Try.ntmps33
      go_wp2_with fail
      go_ret
      exact ⟨by rw [hR.out]; rfl, bl_alloc (Below.refl _ _) _⟩
    · replace h1 := h1
      by_cases h2 : 281474976710656 ≤ xp
      · clear hb hd
        go_enter Try.func33, Try.ntmps33
        go_wp2_with fail
        go_ret
        exact ⟨by rw [hR.out]; rfl, bl_alloc (Below.refl _ _) _⟩
      · replace h2 := h2
        by_cases h3 : xe < 0
        · clear hb hd
          go_enter Try.func33, Try.ntmps33
          go_wp2_with fail
          go_ret
          exact ⟨by rw [hR.out]; rfl, bl_alloc (Below.refl _ _) _⟩
        · replace h3 := h3
          by_cases h4 : 2147483648 ≤ xe
          · clear hb hd
            go_enter Try.func33, Try.ntmps33
            go_wp2_with fail
            go_ret
            exact ⟨by rw [hR.out]; rfl, bl_alloc (Below.refl _ _) _⟩
          · replace h4 := h4
            by_cases h5 : xn < 0
            · clear hb hd
              go_enter Try.func33, Try.ntmps33
              go_wp2_with fail
              go_ret
              exact ⟨by rw [hR.out]; rfl, bl_alloc (Below.refl _ _) _⟩
            · replace h5 := h5
              by_cases h6 : 2147483648 < xn
              · clear hb hd
                go_enter Try.func33, Try.ntmps33
                go_wp2_with fail
                go_ret
                exact ⟨by rw [hR.out]; rfl, bl_alloc (Below.refl _ _) _⟩
              · replace h6 := h6
                by_cases h7 : (5 : Int) < (xl.length : Int)
                · clear hb hd
                  go_enter Try.func33, Try.ntmps33
                  go_wp2_with fail
                  go_ret
                  exact ⟨by rw [hR.out]; rfl, bl_alloc (Below.refl _ _) _⟩
                · exfalso; revert hb; simp; omega
  | false =>
    have hR0 := Lib.hid (show rightE ⟨xp, xe, xn, xl⟩ = rightD xn xl.reverse by unfold rightE; rw [hb]; rfl)
    unfold badE at hb
    simp only [Bool.or_eq_false_iff, decide_eq_false_iff_not] at hb
    obtain ⟨⟨⟨⟨⟨⟨n1, n2⟩, n3⟩, n4⟩, n5⟩, n6⟩, n7⟩ := hb
    go_enter Try.func33, Try.ntmps33
    go_wp2_with fail
    go_loopw [3, 4] (fun v u wr => ∃ (j : Nat) (nx z : Int), j ≤ xl.length ∧ v = .int .i64 nx ∧ u = .int .i64 z ∧ z + 1 = j ∧ rightE ⟨xp, xe, xn, xl⟩ = rightD nx (xl.take j).reverse ∧ (0 ≤ nx ∧ nx ≤ 2147483648) ∧ Blk wr w.heap.size [.int .i64 xp, .int .i64 xe, .int .i64 xn, .slice A xl.length c] ∧ Below w.heap.size w wr) (fun _ u _ => (intOf u + 1).toNat)
    case atStart => exact ⟨xl.length, xn, (xl.length : Int) - 1, Nat.le_refl _, rfl, by go_num, by omega, by rw [List.take_length]; exact hR0.out, by omega, X0, bl_alloc (Below.refl _ _) _⟩
    case round =>
      obtain ⟨j, nx, z, hj, rfl, rfl, hz, hE, hnx, X1, hb⟩ := hrel
      have qX := X1.get (j := 3) rfl
      have lX := X1.lt
      clear X0
      cases j with
      | zero =>
        obtain rfl : z = -1 := by omega
        have hR := Lib.hid (show rightE ⟨xp, xe, xn, xl⟩ = true from hE)
        clear hE hR0
        go_wp2_with fail
        go_ret
        exact ⟨by rw [hR.out]; rfl, hb⟩
      | succ m =>
        obtain rfl : z = (m : Int) := by omega
        have hm : m < xl.length := by omega
        rw [rightD_step hm] at hE
        obtain ⟨b, o, rfl, hT, a0, a1, a2⟩ := hd m hm
        have hbl := hT
        have a0 : wr.cell? ⟨b, o + m * 3, none⟩ = some (.int .i64 xl[m].seq) := (hb.cell (p := ⟨b, o + m * 3, none⟩) hbl).trans a0
        have a1 : wr.cell? ⟨b, o + m * 3 + 1, none⟩ = some (.int .i64 xl[m].len) := (hb.cell (p := ⟨b, o + m * 3 + 1, none⟩) hbl).trans a1
        have a2 : wr.cell? ⟨b, o + m * 3 + 2, none⟩ = some (.int .i64 xl[m].off) := (hb.cell (p := ⟨b, o + m * 3 + 2, none⟩) hbl).trans a2
        have hbadR := Lib.hid (fun h : badD nx xl[m] = true => show rightE ⟨xp, xe, xn, xl⟩ = false by rw [hE, h]; rfl)
        have hgoodR := Lib.hid (fun h : badD nx xl[m] = false => show rightE ⟨xp, xe, xn, xl⟩ = rightD xl[m].seq (xl.take m).reverse by rw [hE, h]; rfl)
        clear hE hR0
        generalize xl[m] = d at a0 a1 a2 hbadR hgoodR
        have hmI : (m : Int) < (xl.length : Int) := by omega
        by_cases g1 : d.len < 1
        · have hR := Lib.hid (hbadR.out (by unfold badD; simp [g1]))
          clear hd hbadR hgoodR
          go_wp2_with fail
          go_ret
          exact ⟨by rw [hR.out]; rfl, bl_alloc hb _⟩
        · skip
          by_cases g2 : 64 < d.len
          · have hR := Lib.hid (hbadR.out (by unfold badD; simp [g2]))
            clear hd hbadR hgoodR
            go_wp2_with fail
            go_ret
            exact ⟨by rw [hR.out]; rfl, bl_alloc hb _⟩
          · skip
            by_cases g3 : d.off < 0
            · have hR := Lib.hid (hbadR.out (by unfold badD; simp [g3]))
              clear hd hbadR hgoodR
              go_wp2_with fail
              go_ret
              exact ⟨by rw [hR.out]; rfl, bl_alloc hb _⟩
            · skip
              by_cases g4 : 281474976710656 < d.off
              · have hR := Lib.hid (hbadR.out (by unfold badD; simp [g4]))
                clear hd hbadR hgoodR
                go_wp2_with fail
                go_ret
                exact ⟨by rw [hR.out]; rfl, bl_alloc hb _⟩
              · skip
                by_cases g5 : d.seq < 0
                · have hR := Lib.hid (hbadR.out (by unfold badD; simp [g5]))
                  clear hd hbadR hgoodR
                  go_wp2_with fail
                  go_ret
                  exact ⟨by rw [hR.out]; rfl, bl_alloc hb _⟩
                · skip
                  by_cases g6 : d.seq = nx - d.len
                  · have hG := Lib.hid (hgoodR.out (by unfold badD; simp [g1, g2, g3, g4, g5, ← g6]))
                    have g7 : (d.seq == nx - d.len) = true := by simpa using g6
                    have g8 : IntKind.i64.wrap (nx - d.len) = nx - d.len := by rw [IntKind.wrap_i64] <;> omega
                    clear hd hbadR hgoodR
                    replace g6 := Lib.hid g6
                    go_wp2_with fail
                    go_roundw
                    case rel => exact ⟨m, d.seq, (m : Int) - 1, by omega, rfl, by go_num, by omega, hG.out, by have := g6.out; omega, X1.alloc _, bl_alloc hb _⟩
                    case measure => simp [intOf] <;> omega
                  · have hR := Lib.hid (hbadR.out (by unfold badD; simp [g6]))
                    have g7 : (d.seq == nx - d.len) = false := by simpa using g6
                    have g8 : IntKind.i64.wrap (nx - d.len) = nx - d.len := by rw [IntKind.wrap_i64] <;> omega
                    clear hd hbadR hgoodR
                    go_wp2_with fail
                    go_ret
                    exact ⟨by rw [hR.out]; rfl, bl_alloc hb _⟩
end Go.Proofs.Ytjpmdjjihdicdaa
