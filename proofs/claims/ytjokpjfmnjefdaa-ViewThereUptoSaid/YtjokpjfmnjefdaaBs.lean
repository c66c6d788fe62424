/- view.beside: its iterator gives the merge of two tables. -/
import Derived.Test.YtjokpjfmnjefdaaMg
import Derived.Test.YtjokpjfmnjefdaaRf
namespace Go.Proofs.Ytjokpjfmnjefdaa
open Go.RowKit Go.Shelf
attribute [local go_sem] Oper.semAt_some

def elA (A : Option Addr) (i : Nat) : Option Addr := A.map fun a => ⟨a.block, a.off + i * 3, none⟩
def itE (A B : Option Addr) (x : Option Nat × Option Nat) : Array Value := #[.pointer (x.1.bind (elA A)), .pointer (x.2.bind (elA B))]
def Mv2 (Ba Bb : Nat) (X Y : World) : Prop := X.grownBy Y (some Ba) ∨ X.grownBy Y (some Bb)

def Kp2 (n Ba Bb : Nat) (X Y : World) : Prop := Below n X Y ∧ Y.heap[Ba]? = X.heap[Ba]? ∧ Y.heap[Bb]? = X.heap[Bb]?

/-- The rest of a slice, from i on. -/
def RestV (A : Option Addr) (l : List Pr) (i : Nat) (v : Value) : Prop := ∃ A' c', v = .slice A' (l.length - i) c' ∧ l.length - i ≤ c' ∧ (i < l.length → A' = elA A i)

def slLen (w : World) (b : Nat) : Nat := match w.cell? ⟨b, 0, none⟩ with
  | some (.slice _ n _) => n
  | _ => 0
theorem slLen_of {w : World} {b n c : Nat} {A : Option Addr} (h : Blk w b [.slice A n c]) : slLen w b = n := by
  unfold slLen; rw [h.get (j := 0) rfl]
theorem slLen_rest {w : World} {b i : Nat} {A : Option Addr} {l : List Pr} {v : Value} (h : Blk w b [v]) (k : RestV A l i v) : slLen w b = l.length - i := by
  obtain ⟨A', c', rfl, _⟩ := k; exact slLen_of h

set_option maxRecDepth 100000 in
set_option maxHeartbeats 4000000 in
theorem beside1_goes (A B : Option Addr) (c d : Nat) (l m : List Pr) (Ba Bb : Nat) (w0 w : World) (hl : LAt w0 A 3 prL l) (hm : LAt w0 B 3 prL m) (hll : l.length ≤ 4611686018427387904) (hml : m.length ≤ 4611686018427387904)
    (hcl : l.length ≤ c) (hcm : m.length ≤ d) (hb : Below w0.heap.size w0 w) (hBa : w0.heap.size ≤ Ba) (hBb : w0.heap.size ≤ Bb) (hne : Ba ≠ Bb)
    (ha0 : Blk w Ba [.slice A l.length c]) (hb0 : Blk w Bb [.slice B m.length d]) :
    SeqGoes Fence.wide 7 Try.prog 59 #[.pointer (some ⟨Ba, 0, none⟩), .pointer (some ⟨Bb, 0, none⟩)] (itE A B) (Kp2 w0.heap.size Ba Bb) (Mv2 Ba Bb) (mrg l m 0 0) w := by
  intro y J W hW hMv hY h0
  refine callsIn_of_wp Try.func59 rfl trivial ?_ rfl
  refine wpIn_wide.2 ?_
  simp only [Try.ntmps59, List.size_toArray, List.length_cons, List.length_nil, Nat.reduceAdd, Nat.reduceSub, Array.replicate_succ, Array.replicate_zero, List.push_toArray, List.append_toArray, List.nil_append, List.cons_append]
  go_wp2_with fail
  go_loopw [4] (fun _ wr => ∃ (i j : Nat) (pre : List (Option Nat × Option Nat)) (va vb : Value), i ≤ l.length ∧ j ≤ m.length ∧ pre ++ mrg l m i j = mrg l m 0 0 ∧ Blk wr Ba [va] ∧ Blk wr Bb [vb] ∧ RestV A l i va ∧ RestV B m j vb ∧ Below w0.heap.size w0 wr ∧ J pre wr ∧ True) (fun _ wr => slLen wr Ba + slLen wr Bb)
  case atStart => exact ⟨0, 0, [], _, _, Nat.zero_le _, Nat.zero_le _, rfl, ha0.below hW ha0.lt, hb0.below hW hb0.lt, ⟨A, c, rfl, hcl, fun h => by obtain ⟨b, o, rfl, _⟩ := hl 0 h; simp [elA]⟩, ⟨B, d, rfl, hcm, fun h => by obtain ⟨b, o, rfl, _⟩ := hm 0 h; simp [elA]⟩, hb.trans (hW.mono hb.size), h0, trivial⟩
  case round =>
    obtain ⟨i, j, pre, va, vb, hi, hj, hpre, hva, hvb, ⟨Ai, ci, rfl, hci, hAi⟩, ⟨Bj, cj, rfl, hcj, hBj⟩, hbr, hJ, _⟩ := hrel
    clear ha0 hb0 h0
    have qa := hva.cell
    have qb := hvb.cell
    have ua := hva.unf
    have ub := hvb.unf
    have la := hva.lt
    have lb := hvb.lt
    have hMA : ∀ X v, J pre X → J pre (X.setCell ⟨Ba, 0, none⟩ v) := fun X v h => hMv _ _ _ h (.inl (gr_set (World.grownBy.refl _ _) 0 v))
    have hMB : ∀ X v, J pre X → J pre (X.setCell ⟨Bb, 0, none⟩ v) := fun X v h => hMv _ _ _ h (.inr (gr_set (World.grownBy.refl _ _) 0 v))
    have hMD : ∀ X k, J pre X → J pre (X.drewN k) := fun X k h => hMv _ _ _ h (.inl (gr_drewN (World.grownBy.refl _ _) k))
    clear hMv
    by_cases h1 : i < l.length
    · by_cases h2 : j < m.length
      · by_cases hlt : sb l[i].key m[j].key = true
        · obtain ⟨r, hr⟩ : ∃ r, l.length - i = r + 1 := ⟨l.length - i - 1, by omega⟩
          obtain ⟨b, o, rfl, hbl, ca⟩ := hl i h1
          obtain rfl : Ai = some ⟨b, o + i * 3, none⟩ := hAi h1
          obtain ⟨s, hs⟩ : ∃ s, m.length - j = s + 1 := ⟨m.length - j - 1, by omega⟩
          obtain ⟨b2, o2, rfl, hbl2, ca2⟩ := hm j h2
          obtain rfl : Bj = some ⟨b2, o2 + j * 3, none⟩ := hBj h2
          rw [hr] at qa hci
          rw [hs] at qb hcj
          have hst := mrg_lt l m h1 h2 hlt
          have hY1 := fun W1 hJ1 => hY pre (some i, none) W1 hJ1 ⟨mrg l m (i + 1) j, by rw [← hpre, hst]; simp⟩
          have hpre1 := Lib.hid (show (pre ++ [(some i, none)]) ++ mrg l m (i + 1) j = mrg l m 0 0 by rw [← hpre, hst]; simp)
          have a0 : wr.cell? ⟨b, o + i * 3, none⟩ = some (.string l[i].key) := (hbr.cell (p := ⟨b, o + i * 3, none⟩) hbl).trans (ca 0 _ rfl)
          have a1 : wr.cell? ⟨b2, o2 + j * 3, none⟩ = some (.string m[j].key) := (hbr.cell (p := ⟨b2, o2 + j * 3, none⟩) hbl2).trans (ca2 0 _ rfl)
          have k1 : Op.bytesLess l[i].key.toList m[j].key.toList = true := by rw [str_lt]; exact hlt
          have k2 : Op.bytesLess m[j].key.toList l[i].key.toList = false := by rw [str_lt]; exact sb_asymm hlt
          have k3 : (l[i].key.toList == m[j].key.toList) = false := by rw [str_eq]; simp; intro e; rw [e, sb_irrefl] at hlt; cases hlt
          have k4 : (m[j].key.toList == l[i].key.toList) = false := by rw [str_eq]; simp; intro e; rw [e, sb_irrefl] at hlt; cases hlt
          generalize l[i].key = kx at a0 k1 k2 k3 k4
          generalize m[j].key = ky at a1 k1 k2 k3 k4
          clear hpre hst hY hlt
          clear ca
          clear ca2
          replace hY1 := Lib.hid hY1
          replace hr := Lib.hid hr
          replace hs := Lib.hid hs
          replace hAi := Lib.hid hAi
          replace hBj := Lib.hid hBj
          replace hMA := Lib.hid hMA
          replace hMB := Lib.hid hMB
          replace hMD := Lib.hid hMD
          have hg1 : decide (0 < ((r : Int) + 1)) = true := by simp
          have hg2 : (((r : Int) + 1) == 0) = false := by simp; omega
          have hg3 : decide (0 < ((s : Int) + 1)) = true := by simp
          have hg4 : (((s : Int) + 1) == 0) = false := by simp; omega
          go_wp2_with fail
          go_quiet (fail)
          go_wp2_with fail
          go_quiet (fail)
          go_upto_region 10 with fail
          obtain ⟨X, hX⟩ : ∃ X : Option Addr, X = if ci = 1 then some ⟨b, o + i * 3, none⟩ else some ⟨b, o + i * 3 + 3, none⟩ := ⟨_, rfl⟩
          simp only [← hX]
          replace hX := Lib.hid hX
          refine (wpIn_wide (n := 7)).1 ?_
          generalize hW1 : (wr.drewN _).setCell ⟨Ba, 0, none⟩ _ = W1
          have hJ1 : J pre W1 := by rw [← hW1]; exact hMA.out _ _ (hMD.out _ _ hJ)
          have hb1 : Below w0.heap.size w0 W1 := by rw [← hW1]; exact bl_set (bl_drewN hbr _) hBa _
          have hA1 : ∃ v, Blk W1 Ba [v] ∧ RestV (some ⟨b, o, none⟩) l (i + 1) v := by
            have hr1 := hr.out
            rw [← hW1]
            refine ⟨_, (hva.drewN _).set_same 0 _, _, _, by rw [show l.length - (i + 1) = r from by omega], by omega, fun h => ?_⟩
            rw [hX.out, if_neg (by omega)]
            simp [elA, Nat.add_mul, Nat.add_assoc]
          have hB1 : ∃ v, Blk W1 Bb [v] ∧ RestV (some ⟨b2, o2, none⟩) m j v := by
            have hs1 := hs.out
            rw [← hW1]
            exact ⟨_, (hvb.drewN _).set_ne (by dsimp only; omega) _, _, _, rfl, by omega, hBj.out⟩
          obtain ⟨fn, tmps, assign, body, hy, hR⟩ := hY1.out W1 hJ1
          clear hW1 hJ1 hY1 hMA hMB hMD
          simp only [itE, Option.bind_some, Option.bind_none, elA, Option.map_some] at hy
          gi_wp2
          refine hR.mono ?_
          rintro e W3 ⟨rfl, hJ3, hk3⟩
          obtain ⟨v1, hA1, hR1⟩ := hA1
          obtain ⟨v2, hB1, hR2⟩ := hB1
          have hA3 := hA1.of_heap hk3.2.1
          have hB3 := hB1.of_heap hk3.2.2
          have s1 := Lib.hid (slLen_rest hA3 hR1)
          have s2 := Lib.hid (slLen_rest hB3 hR2)
          have s3 := Lib.hid (slLen_of hva)
          have s4 := Lib.hid (slLen_of hvb)
          gi_wp2
          go_wp2_with fail
          go_roundw
          case rel => exact ⟨i + 1, j, _, v1, v2, by omega, by omega, hpre1.out, hA3, hB3, hR1, hR2, hb1.trans hk3.1, hJ3, trivial⟩
          case measure => rw [s1.out, s2.out, s3.out, s4.out]; omega
        · by_cases hgt : sb m[j].key l[i].key = true
          · clear hlt
            have hlt := hgt
            clear hgt
            obtain ⟨r, hr⟩ : ∃ r, l.length - i = r + 1 := ⟨l.length - i - 1, by omega⟩
            obtain ⟨b, o, rfl, hbl, ca⟩ := hl i h1
            obtain rfl : Ai = some ⟨b, o + i * 3, none⟩ := hAi h1
            obtain ⟨s, hs⟩ : ∃ s, m.length - j = s + 1 := ⟨m.length - j - 1, by omega⟩
            obtain ⟨b2, o2, rfl, hbl2, ca2⟩ := hm j h2
            obtain rfl : Bj = some ⟨b2, o2 + j * 3, none⟩ := hBj h2
            rw [hr] at qa hci
            rw [hs] at qb hcj
            have hst := mrg_gt l m h1 h2 hlt
            have hY1 := fun W1 hJ1 => hY pre (none, some j) W1 hJ1 ⟨mrg l m i (j + 1), by rw [← hpre, hst]; simp⟩
            have hpre1 := Lib.hid (show (pre ++ [(none, some j)]) ++ mrg l m i (j + 1) = mrg l m 0 0 by rw [← hpre, hst]; simp)
            have a0 : wr.cell? ⟨b, o + i * 3, none⟩ = some (.string l[i].key) := (hbr.cell (p := ⟨b, o + i * 3, none⟩) hbl).trans (ca 0 _ rfl)
            have a1 : wr.cell? ⟨b2, o2 + j * 3, none⟩ = some (.string m[j].key) := (hbr.cell (p := ⟨b2, o2 + j * 3, none⟩) hbl2).trans (ca2 0 _ rfl)
            have k1 : Op.bytesLess l[i].key.toList m[j].key.toList = false := by rw [str_lt]; exact sb_asymm hlt
            have k2 : Op.bytesLess m[j].key.toList l[i].key.toList = true := by rw [str_lt]; exact hlt
            have k3 : (l[i].key.toList == m[j].key.toList) = false := by rw [str_eq]; simp; intro e; rw [e, sb_irrefl] at hlt; cases hlt
            have k4 : (m[j].key.toList == l[i].key.toList) = false := by rw [str_eq]; simp; intro e; rw [e, sb_irrefl] at hlt; cases hlt
            generalize l[i].key = kx at a0 k1 k2 k3 k4
            generalize m[j].key = ky at a1 k1 k2 k3 k4
            clear hpre hst hY hlt
            clear ca
            clear ca2
            replace hY1 := Lib.hid hY1
            replace hr := Lib.hid hr
            replace hs := Lib.hid hs
            replace hAi := Lib.hid hAi
            replace hBj := Lib.hid hBj
            replace hMA := Lib.hid hMA
            replace hMB := Lib.hid hMB
            replace hMD := Lib.hid hMD
            have hg1 : decide (0 < ((r : Int) + 1)) = true := by simp
            have hg2 : (((r : Int) + 1) == 0) = false := by simp; omega
            have hg3 : decide (0 < ((s : Int) + 1)) = true := by simp
            have hg4 : (((s : Int) + 1) == 0) = false := by simp; omega
            go_wp2_with fail
            go_quiet (fail)
            go_wp2_with fail
            go_quiet (fail)
            go_upto_region 10 with fail
            obtain ⟨Y, hYv⟩ : ∃ Y : Option Addr, Y = if cj = 1 then some ⟨b2, o2 + j * 3, none⟩ else some ⟨b2, o2 + j * 3 + 3, none⟩ := ⟨_, rfl⟩
            simp only [← hYv]
            replace hYv := Lib.hid hYv
            refine (wpIn_wide (n := 7)).1 ?_
            generalize hW1 : (wr.drewN _).setCell ⟨Bb, 0, none⟩ _ = W1
            have hJ1 : J pre W1 := by rw [← hW1]; exact hMB.out _ _ (hMD.out _ _ hJ)
            have hb1 : Below w0.heap.size w0 W1 := by rw [← hW1]; exact bl_set (bl_drewN hbr _) hBb _
            have hA1 : ∃ v, Blk W1 Ba [v] ∧ RestV (some ⟨b, o, none⟩) l i v := by
              have hr1 := hr.out
              rw [← hW1]
              exact ⟨_, (hva.drewN _).set_ne (by dsimp only; omega) _, _, _, rfl, by omega, hAi.out⟩
            have hB1 : ∃ v, Blk W1 Bb [v] ∧ RestV (some ⟨b2, o2, none⟩) m (j + 1) v := by
              have hs1 := hs.out
              rw [← hW1]
              refine ⟨_, (hvb.drewN _).set_same 0 _, _, _, by rw [show m.length - (j + 1) = s from by omega], by omega, fun h => ?_⟩
              rw [hYv.out, if_neg (by omega)]
              simp [elA, Nat.add_mul, Nat.add_assoc]
            obtain ⟨fn, tmps, assign, body, hy, hR⟩ := hY1.out W1 hJ1
            clear hW1 hJ1 hY1 hMA hMB hMD
            simp only [itE, Option.bind_some, Option.bind_none, elA, Option.map_some] at hy
            gi_wp2
            refine hR.mono ?_
            rintro e W3 ⟨rfl, hJ3, hk3⟩
            obtain ⟨v1, hA1, hR1⟩ := hA1
            obtain ⟨v2, hB1, hR2⟩ := hB1
            have hA3 := hA1.of_heap hk3.2.1
            have hB3 := hB1.of_heap hk3.2.2
            have s1 := Lib.hid (slLen_rest hA3 hR1)
            have s2 := Lib.hid (slLen_rest hB3 hR2)
            have s3 := Lib.hid (slLen_of hva)
            have s4 := Lib.hid (slLen_of hvb)
            gi_wp2
            go_wp2_with fail
            go_roundw
            case rel => exact ⟨i, j + 1, _, v1, v2, by omega, by omega, hpre1.out, hA3, hB3, hR1, hR2, hb1.trans hk3.1, hJ3, trivial⟩
            case measure => rw [s1.out, s2.out, s3.out, s4.out]; omega
          · have hq : l[i].key = m[j].key := by
              by_cases e : l[i].key = m[j].key
              · exact e
              · rcases sb_total e with h | h
                · exact absurd h hlt
                · exact absurd h hgt
            clear hlt hgt
            have hlt := hq
            clear hq
            obtain ⟨r, hr⟩ : ∃ r, l.length - i = r + 1 := ⟨l.length - i - 1, by omega⟩
            obtain ⟨b, o, rfl, hbl, ca⟩ := hl i h1
            obtain rfl : Ai = some ⟨b, o + i * 3, none⟩ := hAi h1
            obtain ⟨s, hs⟩ : ∃ s, m.length - j = s + 1 := ⟨m.length - j - 1, by omega⟩
            obtain ⟨b2, o2, rfl, hbl2, ca2⟩ := hm j h2
            obtain rfl : Bj = some ⟨b2, o2 + j * 3, none⟩ := hBj h2
            rw [hr] at qa hci
            rw [hs] at qb hcj
            have hst := mrg_same l m h1 h2 hlt
            have hY1 := fun W1 hJ1 => hY pre (some i, some j) W1 hJ1 ⟨mrg l m (i + 1) (j + 1), by rw [← hpre, hst]; simp⟩
            have hpre1 := Lib.hid (show (pre ++ [(some i, some j)]) ++ mrg l m (i + 1) (j + 1) = mrg l m 0 0 by rw [← hpre, hst]; simp)
            have a0 : wr.cell? ⟨b, o + i * 3, none⟩ = some (.string l[i].key) := (hbr.cell (p := ⟨b, o + i * 3, none⟩) hbl).trans (ca 0 _ rfl)
            have a1 : wr.cell? ⟨b2, o2 + j * 3, none⟩ = some (.string m[j].key) := (hbr.cell (p := ⟨b2, o2 + j * 3, none⟩) hbl2).trans (ca2 0 _ rfl)
            have k1 : Op.bytesLess l[i].key.toList m[j].key.toList = false := by rw [str_lt]; rw [hlt, sb_irrefl]
            have k2 : Op.bytesLess m[j].key.toList l[i].key.toList = false := by rw [str_lt]; rw [hlt, sb_irrefl]
            have k3 : (l[i].key.toList == m[j].key.toList) = true := by rw [str_eq]; simp [hlt]
            have k4 : (m[j].key.toList == l[i].key.toList) = true := by rw [str_eq]; simp [hlt]
            generalize l[i].key = kx at a0 k1 k2 k3 k4
            generalize m[j].key = ky at a1 k1 k2 k3 k4
            clear hpre hst hY hlt
            clear ca
            clear ca2
            replace hY1 := Lib.hid hY1
            replace hr := Lib.hid hr
            replace hs := Lib.hid hs
            replace hAi := Lib.hid hAi
            replace hBj := Lib.hid hBj
            replace hMA := Lib.hid hMA
            replace hMB := Lib.hid hMB
            replace hMD := Lib.hid hMD
            have hg1 : decide (0 < ((r : Int) + 1)) = true := by simp
            have hg2 : (((r : Int) + 1) == 0) = false := by simp; omega
            have hg3 : decide (0 < ((s : Int) + 1)) = true := by simp
            have hg4 : (((s : Int) + 1) == 0) = false := by simp; omega
            go_wp2_with fail
            go_quiet (fail)
            go_wp2_with fail
            go_quiet (fail)
            go_upto_region 10 with fail
            obtain ⟨X, hX⟩ : ∃ X : Option Addr, X = if ci = 1 then some ⟨b, o + i * 3, none⟩ else some ⟨b, o + i * 3 + 3, none⟩ := ⟨_, rfl⟩
            obtain ⟨Y, hYv⟩ : ∃ Y : Option Addr, Y = if cj = 1 then some ⟨b2, o2 + j * 3, none⟩ else some ⟨b2, o2 + j * 3 + 3, none⟩ := ⟨_, rfl⟩
            simp only [← hX, ← hYv]
            replace hX := Lib.hid hX
            replace hYv := Lib.hid hYv
            refine (wpIn_wide (n := 7)).1 ?_
            generalize hW1 : ((wr.drewN _).setCell ⟨Ba, 0, none⟩ _).setCell ⟨Bb, 0, none⟩ _ = W1
            have hJ1 : J pre W1 := by rw [← hW1]; exact hMB.out _ _ (hMA.out _ _ (hMD.out _ _ hJ))
            have hb1 : Below w0.heap.size w0 W1 := by rw [← hW1]; exact bl_set (bl_set (bl_drewN hbr _) hBa _) hBb _
            have hA1 : ∃ v, Blk W1 Ba [v] ∧ RestV (some ⟨b, o, none⟩) l (i + 1) v := by
              have hr1 := hr.out
              rw [← hW1]
              refine ⟨_, ((hva.drewN _).set_same 0 _).set_ne (by dsimp only; omega) _, _, _, by rw [show l.length - (i + 1) = r from by omega], by omega, fun h => ?_⟩
              rw [hX.out, if_neg (by omega)]
              simp [elA, Nat.add_mul, Nat.add_assoc]
            have hB1 : ∃ v, Blk W1 Bb [v] ∧ RestV (some ⟨b2, o2, none⟩) m (j + 1) v := by
              have hs1 := hs.out
              rw [← hW1]
              refine ⟨_, ((hvb.drewN _).set_ne (by dsimp only; omega) _).set_same 0 _, _, _, by rw [show m.length - (j + 1) = s from by omega], by omega, fun h => ?_⟩
              rw [hYv.out, if_neg (by omega)]
              simp [elA, Nat.add_mul, Nat.add_assoc]
            obtain ⟨fn, tmps, assign, body, hy, hR⟩ := hY1.out W1 hJ1
            clear hW1 hJ1 hY1 hMA hMB hMD
            simp only [itE, Option.bind_some, Option.bind_none, elA, Option.map_some] at hy
            gi_wp2
            refine hR.mono ?_
            rintro e W3 ⟨rfl, hJ3, hk3⟩
            obtain ⟨v1, hA1, hR1⟩ := hA1
            obtain ⟨v2, hB1, hR2⟩ := hB1
            have hA3 := hA1.of_heap hk3.2.1
            have hB3 := hB1.of_heap hk3.2.2
            have s1 := Lib.hid (slLen_rest hA3 hR1)
            have s2 := Lib.hid (slLen_rest hB3 hR2)
            have s3 := Lib.hid (slLen_of hva)
            have s4 := Lib.hid (slLen_of hvb)
            gi_wp2
            go_wp2_with fail
            go_roundw
            case rel => exact ⟨i + 1, j + 1, _, v1, v2, by omega, by omega, hpre1.out, hA3, hB3, hR1, hR2, hb1.trans hk3.1, hJ3, trivial⟩
            case measure => rw [s1.out, s2.out, s3.out, s4.out]; omega
      · obtain ⟨r, hr⟩ : ∃ r, l.length - i = r + 1 := ⟨l.length - i - 1, by omega⟩
        obtain ⟨b, o, rfl, hbl, ca⟩ := hl i h1
        obtain rfl : Ai = some ⟨b, o + i * 3, none⟩ := hAi h1
        have hs : m.length - j = 0 := by omega
        rw [hr] at qa hci
        rw [hs] at qb hcj
        have hst := mrg_l l m h1 (Nat.le_of_not_lt h2)
        have hY1 := fun W1 hJ1 => hY pre (some i, none) W1 hJ1 ⟨mrg l m (i + 1) j, by rw [← hpre, hst]; simp⟩
        have hpre1 := Lib.hid (show (pre ++ [(some i, none)]) ++ mrg l m (i + 1) j = mrg l m 0 0 by rw [← hpre, hst]; simp)
        clear hpre hst hY
        clear ca
        replace hY1 := Lib.hid hY1
        replace hr := Lib.hid hr
        replace hs := Lib.hid hs
        replace hAi := Lib.hid hAi
        replace hBj := Lib.hid hBj
        replace hMA := Lib.hid hMA
        replace hMB := Lib.hid hMB
        replace hMD := Lib.hid hMD
        have hg1 : decide (0 < ((r : Int) + 1)) = true := by simp
        have hg2 : (((r : Int) + 1) == 0) = false := by simp; omega
        go_wp2_with fail
        go_quiet (fail)
        go_wp2_with fail
        go_quiet (fail)
        go_upto_region 10 with fail
        obtain ⟨X, hX⟩ : ∃ X : Option Addr, X = if ci = 1 then some ⟨b, o + i * 3, none⟩ else some ⟨b, o + i * 3 + 3, none⟩ := ⟨_, rfl⟩
        simp only [← hX]
        replace hX := Lib.hid hX
        refine (wpIn_wide (n := 7)).1 ?_
        generalize hW1 : (wr.drewN _).setCell ⟨Ba, 0, none⟩ _ = W1
        have hJ1 : J pre W1 := by rw [← hW1]; exact hMA.out _ _ (hMD.out _ _ hJ)
        have hb1 : Below w0.heap.size w0 W1 := by rw [← hW1]; exact bl_set (bl_drewN hbr _) hBa _
        have hA1 : ∃ v, Blk W1 Ba [v] ∧ RestV (some ⟨b, o, none⟩) l (i + 1) v := by
          have hr1 := hr.out
          rw [← hW1]
          refine ⟨_, (hva.drewN _).set_same 0 _, _, _, by rw [show l.length - (i + 1) = r from by omega], by omega, fun h => ?_⟩
          rw [hX.out, if_neg (by omega)]
          simp [elA, Nat.add_mul, Nat.add_assoc]
        have hB1 : ∃ v, Blk W1 Bb [v] ∧ RestV B m j v := by
          have hs1 := hs.out
          rw [← hW1]
          exact ⟨_, (hvb.drewN _).set_ne (by dsimp only; omega) _, _, _, rfl, by omega, hBj.out⟩
        obtain ⟨fn, tmps, assign, body, hy, hR⟩ := hY1.out W1 hJ1
        clear hW1 hJ1 hY1 hMA hMB hMD
        simp only [itE, Option.bind_some, Option.bind_none, elA, Option.map_some] at hy
        gi_wp2
        refine hR.mono ?_
        rintro e W3 ⟨rfl, hJ3, hk3⟩
        obtain ⟨v1, hA1, hR1⟩ := hA1
        obtain ⟨v2, hB1, hR2⟩ := hB1
        have hA3 := hA1.of_heap hk3.2.1
        have hB3 := hB1.of_heap hk3.2.2
        have s1 := Lib.hid (slLen_rest hA3 hR1)
        have s2 := Lib.hid (slLen_rest hB3 hR2)
        have s3 := Lib.hid (slLen_of hva)
        have s4 := Lib.hid (slLen_of hvb)
        gi_wp2
        go_wp2_with fail
        go_roundw
        case rel => exact ⟨i + 1, j, _, v1, v2, by omega, by omega, hpre1.out, hA3, hB3, hR1, hR2, hb1.trans hk3.1, hJ3, trivial⟩
        case measure => rw [s1.out, s2.out, s3.out, s4.out]; omega
    · by_cases h2 : j < m.length
      · have hr : l.length - i = 0 := by omega
        obtain ⟨s, hs⟩ : ∃ s, m.length - j = s + 1 := ⟨m.length - j - 1, by omega⟩
        obtain ⟨b2, o2, rfl, hbl2, ca2⟩ := hm j h2
        obtain rfl : Bj = some ⟨b2, o2 + j * 3, none⟩ := hBj h2
        rw [hr] at qa hci
        rw [hs] at qb hcj
        have hst := mrg_r l m (Nat.le_of_not_lt h1) h2
        have hY1 := fun W1 hJ1 => hY pre (none, some j) W1 hJ1 ⟨mrg l m i (j + 1), by rw [← hpre, hst]; simp⟩
        have hpre1 := Lib.hid (show (pre ++ [(none, some j)]) ++ mrg l m i (j + 1) = mrg l m 0 0 by rw [← hpre, hst]; simp)
        clear hpre hst hY
        clear ca2
        replace hY1 := Lib.hid hY1
        replace hr := Lib.hid hr
        replace hs := Lib.hid hs
        replace hAi := Lib.hid hAi
        replace hBj := Lib.hid hBj
        replace hMA := Lib.hid hMA
        replace hMB := Lib.hid hMB
        replace hMD := Lib.hid hMD
        have hg3 : decide (0 < ((s : Int) + 1)) = true := by simp
        have hg4 : (((s : Int) + 1) == 0) = false := by simp; omega
        go_wp2_with fail
        go_quiet (fail)
        go_wp2_with fail
        go_quiet (fail)
        go_upto_region 10 with fail
        obtain ⟨Y, hYv⟩ : ∃ Y : Option Addr, Y = if cj = 1 then some ⟨b2, o2 + j * 3, none⟩ else some ⟨b2, o2 + j * 3 + 3, none⟩ := ⟨_, rfl⟩
        simp only [← hYv]
        replace hYv := Lib.hid hYv
        refine (wpIn_wide (n := 7)).1 ?_
        generalize hW1 : (wr.drewN _).setCell ⟨Bb, 0, none⟩ _ = W1
        have hJ1 : J pre W1 := by rw [← hW1]; exact hMB.out _ _ (hMD.out _ _ hJ)
        have hb1 : Below w0.heap.size w0 W1 := by rw [← hW1]; exact bl_set (bl_drewN hbr _) hBb _
        have hA1 : ∃ v, Blk W1 Ba [v] ∧ RestV A l i v := by
          have hr1 := hr.out
          rw [← hW1]
          exact ⟨_, (hva.drewN _).set_ne (by dsimp only; omega) _, _, _, rfl, by omega, hAi.out⟩
        have hB1 : ∃ v, Blk W1 Bb [v] ∧ RestV (some ⟨b2, o2, none⟩) m (j + 1) v := by
          have hs1 := hs.out
          rw [← hW1]
          refine ⟨_, (hvb.drewN _).set_same 0 _, _, _, by rw [show m.length - (j + 1) = s from by omega], by omega, fun h => ?_⟩
          rw [hYv.out, if_neg (by omega)]
          simp [elA, Nat.add_mul, Nat.add_assoc]
        obtain ⟨fn, tmps, assign, body, hy, hR⟩ := hY1.out W1 hJ1
        clear hW1 hJ1 hY1 hMA hMB hMD
        simp only [itE, Option.bind_some, Option.bind_none, elA, Option.map_some] at hy
        gi_wp2
        refine hR.mono ?_
        rintro e W3 ⟨rfl, hJ3, hk3⟩
        obtain ⟨v1, hA1, hR1⟩ := hA1
        obtain ⟨v2, hB1, hR2⟩ := hB1
        have hA3 := hA1.of_heap hk3.2.1
        have hB3 := hB1.of_heap hk3.2.2
        have s1 := Lib.hid (slLen_rest hA3 hR1)
        have s2 := Lib.hid (slLen_rest hB3 hR2)
        have s3 := Lib.hid (slLen_of hva)
        have s4 := Lib.hid (slLen_of hvb)
        gi_wp2
        go_wp2_with fail
        go_roundw
        case rel => exact ⟨i, j + 1, _, v1, v2, by omega, by omega, hpre1.out, hA3, hB3, hR1, hR2, hb1.trans hk3.1, hJ3, trivial⟩
        case measure => rw [s1.out, s2.out, s3.out, s4.out]; omega
      · obtain rfl : i = l.length := by omega
        obtain rfl : j = m.length := by omega
        rw [mrg_end _ _ (Nat.le_refl _) (Nat.le_refl _), List.append_nil] at hpre
        subst hpre
        rw [Nat.sub_self] at qa qb
        clear hAi hBj hY hMA hMB hMD
        go_wp2_with fail
        go_end0
        exact ⟨⟨_, rfl⟩, hJ⟩
end Go.Proofs.Ytjokpjfmnjefdaa
