/- The laws' same: two lists of entries. -/
import Derived.Test.YtjpmdjjihdicdaaEnts
namespace Go.Proofs.Ytjpmdjjihdicdaa
open Go.RowKit Go.Shelf
deriving instance DecidableEq for Ent

/-- From A on w holds the batches ds. -/
def DnsAt (w : World) (A : Option Addr) (ds : List Dn) : Prop :=
  ∀ i (h : i < ds.length), ∃ b o, A = some ⟨b, o, none⟩ ∧ b < w.heap.size ∧ w.cell? ⟨b, o + i * 3, none⟩ = some (.int .i64 ds[i].seq) ∧ w.cell? ⟨b, o + i * 3 + 1, none⟩ = some (.int .i64 ds[i].len) ∧ w.cell? ⟨b, o + i * 3 + 2, none⟩ = some (.int .i64 ds[i].off)
/-- From A on w holds the entries l. -/
def EntsAt (w : World) (A : Option Addr) (l : List Ent) : Prop :=
  ∀ i (h : i < l.length), ∃ b o A' c', A = some ⟨b, o, none⟩ ∧ b < w.heap.size ∧ w.cell? ⟨b, o + i * 4, none⟩ = some (.int .i64 l[i].p) ∧ w.cell? ⟨b, o + i * 4 + 1, none⟩ = some (.int .i64 l[i].ep) ∧ w.cell? ⟨b, o + i * 4 + 2, none⟩ = some (.int .i64 l[i].nx) ∧
    w.cell? ⟨b, o + i * 4 + 3, none⟩ = some (.slice A' l[i].last.length c') ∧ DnsAt w A' l[i].last
theorem DnsAt.below {w w' : World} {A : Option Addr} {ds : List Dn} (h : DnsAt w A ds) (hb : Below w.heap.size w w') : DnsAt w' A ds := fun i hi => by
  obtain ⟨b, o, hA, hlt, c1, c2, c3⟩ := h i hi
  have e : ∀ j, w'.cell? ⟨b, j, none⟩ = w.cell? ⟨b, j, none⟩ := fun j => hb.cell (p := ⟨b, j, none⟩) hlt
  exact ⟨b, o, hA, Nat.lt_of_lt_of_le hlt hb.size, by rw [e]; exact c1, by rw [e]; exact c2, by rw [e]; exact c3⟩
theorem EntsAt.below {w w' : World} {A : Option Addr} {l : List Ent} (h : EntsAt w A l) (hb : Below w.heap.size w w') : EntsAt w' A l := fun i hi => by
  obtain ⟨b, o, A', c', hA, hlt, c1, c2, c3, c4, hd⟩ := h i hi
  have e : ∀ j, w'.cell? ⟨b, j, none⟩ = w.cell? ⟨b, j, none⟩ := fun j => hb.cell (p := ⟨b, j, none⟩) hlt
  exact ⟨b, o, A', c', hA, Nat.lt_of_lt_of_le hlt hb.size, by rw [e]; exact c1, by rw [e]; exact c2, by rw [e]; exact c3, by rw [e]; exact c4, hd.below hb⟩

theorem take_ne {α : Type} {l r : List α} {i : Nat} (hi : i < l.length) (hr : i < r.length) (h : l[i] ≠ r[i]) : l ≠ r := by rintro rfl; exact h rfl
theorem take_more {α : Type} {l r : List α} {i : Nat} (ht : l.take i = r.take i) (hi : i < l.length) (hr : i < r.length) (h : l[i] = r[i]) : l.take (i + 1) = r.take (i + 1) := by
  rw [List.take_succ_eq_append_getElem hi, List.take_succ_eq_append_getElem hr, ht, h]

set_option maxRecDepth 100000 in
set_option maxHeartbeats 2000000 in
theorem same_any (A B : Option Addr) (ca cb : Nat) (la lb : List Ent) (w : World) (hA : EntsAt w A la) (hB : EntsAt w B lb) (hla : la.length ≤ 140737488351232) (hll : ∀ x ∈ la, x.last.length ≤ 140737488351232) :
    Calls Try.prog 21 #[.slice A la.length ca, .slice B lb.length cb] w fun e w' => e = .returned (.bool (decide (la = lb))) ∧ Below w.heap.size w w' := by
  by_cases hlen : la.length = lb.length
  · have hc1 : ((la.length : Int) == (lb.length : Int)) = true := by simp only [beq_iff_eq]; omega
    go_enter Try.func21, Try.ntmps21
    go_wp2_with fail
    clear hc1
    go_loopw [5] (fun u wr => ∃ i : Nat, i ≤ la.length ∧ u = .int .i64 i ∧ la.take i = lb.take i ∧ Below w.heap.size w wr) (fun u _ => la.length - (intOf u).toNat)
    case atStart => exact ⟨0, Nat.zero_le _, rfl, by simp, Below.refl _ _⟩
    case round =>
      obtain ⟨i, hi, rfl, ht, hb⟩ := hrel
      replace ht := Lib.hid ht
      by_cases hlt : i < la.length
      · have hlt2 : i < lb.length := by omega
        obtain ⟨b1, o1, A1, k1, rfl, l1, p0, p1, p2, p3, D1⟩ := (hA.below hb) i hlt
        obtain ⟨b2, o2, A2, k2, rfl, l2, r0, r1, r2, r3, D2⟩ := (hB.below hb) i hlt2
        have hx5 := hll la[i] (List.getElem_mem _)
        have HNE := Lib.hid (@take_ne _ la lb i hlt hlt2)
        have HMO := Lib.hid (@take_more _ la lb i ht.out hlt hlt2)
        generalize la[i] = x at p0 p1 p2 p3 D1 hx5 HNE HMO
        generalize lb[i] = y at r0 r1 r2 r3 D2 HNE HMO
        obtain ⟨xp, xe, xn, xl⟩ := x
        obtain ⟨yp, ye, yn, yl⟩ := y
        dsimp only at p0 p1 p2 p3 D1 r0 r1 r2 r3 D2 hx5
        by_cases t1 : xp = yp
        · by_cases t2 : xe = ye
          · by_cases t3 : xn = yn
            · by_cases t4 : xl.length = yl.length
              · subst t1 t2 t3
                have t4' : ((xl.length : Int) == (yl.length : Int)) = true := by simp only [beq_iff_eq]; omega
                replace t4 := Lib.hid t4
                go_wp2_with fail
                have X0 : Blk ((wr.alloc (.cells #[.int .i64 xp, .int .i64 xe, .int .i64 xn, .slice A1 xl.length k1] 56)).alloc (.cells #[.int .i64 xp, .int .i64 xe, .int .i64 xn, .slice A2 yl.length k2] 92)) wr.heap.size [.int .i64 xp, .int .i64 xe, .int .i64 xn, .slice A1 xl.length k1] := (Blk.new' _ _ rfl).alloc _
                have Y0 : Blk ((wr.alloc (.cells #[.int .i64 xp, .int .i64 xe, .int .i64 xn, .slice A1 xl.length k1] 56)).alloc (.cells #[.int .i64 xp, .int .i64 xe, .int .i64 xn, .slice A2 yl.length k2] 92)) (wr.heap.size + 1) [.int .i64 xp, .int .i64 xe, .int .i64 xn, .slice A2 yl.length k2] := Blk.new' _ _ (by simp)
                go_loopw [8] (fun u ws => ∃ k : Nat, k ≤ xl.length ∧ u = .int .i64 k ∧ xl.take k = yl.take k ∧ Blk ws wr.heap.size [.int .i64 xp, .int .i64 xe, .int .i64 xn, .slice A1 xl.length k1] ∧ Blk ws (wr.heap.size + 1) [.int .i64 xp, .int .i64 xe, .int .i64 xn, .slice A2 yl.length k2] ∧ Below wr.heap.size wr ws) (fun u _ => xl.length - (intOf u).toNat)
                case atStart => exact ⟨0, Nat.zero_le _, rfl, by simp, X0, Y0, bl_alloc (bl_alloc (Below.refl _ _) _) _⟩
                case round =>
                  obtain ⟨k, hk, rfl, htk, X1, Y1, hbs⟩ := hrel
                  replace htk := Lib.hid htk
                  clear X0 Y0 p0 p1 p2 p3 r0 r1 r2 r3
                  have e1 := X1.cell
                  have e2 := Y1.cell
                  by_cases hkl : k < xl.length
                  · have hky : k < yl.length := by have := t4.out; omega
                    obtain ⟨g1, q1, rfl, m1, u0, u1, u2⟩ := (D1.below hbs) k hkl
                    obtain ⟨g2, q2, rfl, m2, v0, v1, v2⟩ := (D2.below hbs) k hky
                    have HN2 := Lib.hid (@take_ne _ xl yl k hkl hky)
                    have HM2 := Lib.hid (@take_more _ xl yl k htk.out hkl hky)
                    generalize xl[k] = dx at u0 u1 u2 HN2 HM2
                    generalize yl[k] = dy at v0 v1 v2 HN2 HM2
                    obtain ⟨d1, d2, d3⟩ := dx
                    obtain ⟨f1, f2, f3⟩ := dy
                    dsimp only at u0 u1 u2 v0 v1 v2
                    clear t4'
                    by_cases s1 : d1 = f1
                    · by_cases s2 : d2 = f2
                      · by_cases s3 : d3 = f3
                        · subst s1 s2 s3
                          have HT := Lib.hid (HM2.out rfl)
                          clear HN2 HM2 HNE HMO
                          go_wp2_with fail
                          go_quiet (fail)
                          go_wp2_with fail
                          go_roundw
                          case rel => exact ⟨k + 1, by omega, by go_num, HT.out, X1.drewN _, Y1.drewN _, below_drewN hbs _⟩
                          case measure => simp [intOf]; omega
                        · have s3' : (d3 == f3) = false := by simpa using s3
                          have s3'' : (d3 != f3) = true := by simpa using s3
                          subst s1 s2
                          have HF := Lib.hid (HNE.out (by intro e; injection e with e1 e2 e3 e4; exact HN2.out (by intro e; injection e with z1 z2 z3; exact s3 z3) e4))
                          clear s3 HN2 HM2 HNE HMO
                          go_wp2_with fail
                          go_quiet (fail)
                          go_wp2_with fail
                          go_ret
                          exact ⟨ret_bool (by simpa using HF.out), below_drewN (hb.trans (hbs.mono hb.size)) _⟩
                      · have s2' : (d2 == f2) = false := by simpa using s2
                        have s2'' : (d2 != f2) = true := by simpa using s2
                        subst s1
                        have HF := Lib.hid (HNE.out (by intro e; injection e with e1 e2 e3 e4; exact HN2.out (by intro e; injection e with z1 z2 z3; exact s2 z2) e4))
                        clear s2 HN2 HM2 HNE HMO
                        go_wp2_with fail
                        go_quiet (fail)
                        go_wp2_with fail
                        go_ret
                        exact ⟨ret_bool (by simpa using HF.out), below_drewN (hb.trans (hbs.mono hb.size)) _⟩
                    · have s1' : (d1 == f1) = false := by simpa using s1
                      have s1'' : (d1 != f1) = true := by simpa using s1
                      have HF := Lib.hid (HNE.out (by intro e; injection e with e1 e2 e3 e4; exact HN2.out (by intro e; injection e with z1 z2 z3; exact s1 z1) e4))
                      clear s1 HN2 HM2 HNE HMO
                      go_wp2_with fail
                      go_quiet (fail)
                      go_wp2_with fail
                      go_ret
                      exact ⟨ret_bool (by simpa using HF.out), below_drewN (hb.trans (hbs.mono hb.size)) _⟩
                  · obtain rfl : k = xl.length := by omega
                    have HT := Lib.hid (HMO.out (by
                      have := htk.out
                      rw [List.take_length, t4.out, List.take_length] at this
                      rw [this]))
                    clear HNE HMO t4'
                    go_wp2_with fail
                    go_roundw
                    case rel => exact ⟨i + 1, by omega, by go_num, HT.out, hb.trans (hbs.mono hb.size)⟩
                    case measure => simp [intOf]; omega
              · subst t1 t2 t3
                have t4' : ((xl.length : Int) == (yl.length : Int)) = false := by rw [beq_eq_false_iff_ne]; omega
                have t4'' : ((xl.length : Int) != (yl.length : Int)) = true := by rw [bne_iff_ne]; omega
                have HF := Lib.hid (HNE.out (by intro e; injection e with e1 e2 e3 e4; exact t4 (by rw [e4])))
                clear t4 HNE HMO
                go_wp2_with fail
                go_ret
                exact ⟨ret_bool (by simpa using HF.out), bl_alloc (bl_alloc hb _) _⟩
            · have t3' : (xn == yn) = false := by simpa using t3
              have t3'' : (xn != yn) = true := by simpa using t3
              subst t1 t2
              have HF := Lib.hid (HNE.out (by intro e; injection e with e1 e2 e3 e4; exact t3 e3))
              clear t3 HNE HMO
              go_wp2_with fail
              go_ret
              exact ⟨ret_bool (by simpa using HF.out), bl_alloc (bl_alloc hb _) _⟩
          · have t2' : (xe == ye) = false := by simpa using t2
            have t2'' : (xe != ye) = true := by simpa using t2
            subst t1
            have HF := Lib.hid (HNE.out (by intro e; injection e with e1 e2 e3 e4; exact t2 e2))
            clear t2 HNE HMO
            go_wp2_with fail
            go_ret
            exact ⟨ret_bool (by simpa using HF.out), bl_alloc (bl_alloc hb _) _⟩
        · have t1' : (xp == yp) = false := by simpa using t1
          have t1'' : (xp != yp) = true := by simpa using t1
          have HF := Lib.hid (HNE.out (by intro e; injection e with e1 e2 e3 e4; exact t1 e1))
          clear t1 HNE HMO
          go_wp2_with fail
          go_ret
          exact ⟨ret_bool (by simpa using HF.out), bl_alloc (bl_alloc hb _) _⟩
      · obtain rfl : i = la.length := by omega
        go_wp2
        go_ret
        have := ht.out
        rw [List.take_length, hlen, List.take_length] at this
        exact ⟨ret_bool (by simpa using this), hb⟩
  · have hc1 : ((la.length : Int) == (lb.length : Int)) = false := by rw [beq_eq_false_iff_ne]; omega
    go_enter Try.func21, Try.ntmps21
    go_wp2_with fail
    go_ret
    exact ⟨ret_bool (by symm; simp; rintro rfl; exact hlen rfl), Below.refl _ _⟩
end Go.Proofs.Ytjpmdjjihdicdaa
