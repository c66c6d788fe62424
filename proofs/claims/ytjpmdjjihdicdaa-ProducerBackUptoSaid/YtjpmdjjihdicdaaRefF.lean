/- gazetteref12: find and Decide. -/
import Derived.Test.YtjpmdjjihdicdaaRefD
import Derived.Test.YtjpmdjjihdicdaaSame
namespace Go.Proofs.Ytjpmdjjihdicdaa
open Go.RowKit Go.Shelf

theorem find_at {α : Type} {r : List α} {f : α → Bool} {k : Nat} (hk : k < r.length) (h : (r.take k).find? f = none) (hf : f r[k] = true) : r.find? f = some r[k] := by
  have e := List.find?_append (p := f) (xs := r.take k) (ys := r.drop k)
  rw [List.take_append_drop, h, List.drop_eq_getElem_cons hk, List.find?_cons_of_pos hf] at e
  simpa using e
theorem find_more {α : Type} {r : List α} {f : α → Bool} {k : Nat} (hk : k < r.length) (h : (r.take k).find? f = none) (hf : f r[k] = false) : (r.take (k + 1)).find? f = none := by
  rw [List.take_succ_eq_append_getElem hk, List.find?_append, h]
  simp [hf]

set_option maxRecDepth 100000 in
set_option maxHeartbeats 2000000 in
theorem find_any (rb : Nat) (A : Option Addr) (c : Nat) (r : List Ent) (p : Int) (w : World) (hB : Blk w rb [.slice A r.length c]) (hE : EntsAt w A r) (hr : r.length ≤ 140737488351232) :
    Calls Try.prog 35 #[.pointer (some ⟨rb, 0, none⟩), .int .i64 p] w fun e w' => w' = w ∧
      ((∃ i, ∃ h : i < r.length, r[i].p = p ∧ r.find? (fun x => x.p == p) = some r[i] ∧ e = .returned (.int .i64 i)) ∨ (r.find? (fun x => x.p == p) = none ∧ e = .returned (.int .i64 (-1)))) := by
  have q := hB.cell
  go_enter Try.func35, Try.ntmps35
  go_wp2_with fail
  go_loopw [5] (fun u ws => ws = w ∧ ∃ k : Nat, k ≤ r.length ∧ u = .int .i64 k ∧ (r.take k).find? (fun x => x.p == p) = none) (fun u _ => r.length - (intOf u).toNat)
  case atStart => exact ⟨rfl, 0, Nat.zero_le _, rfl, by simp⟩
  case round =>
    obtain ⟨rfl, k, hk, rfl, hn⟩ := hrel
    replace hn := Lib.hid hn
    by_cases hlt : k < r.length
    · obtain ⟨b, o, A', c', rfl, hl, c0, c1, c2, c3, _⟩ := hE k hlt
      by_cases he : r[k].p = p
      · have HF := Lib.hid (find_at hlt hn.out (by simpa using he))
        have he' := Lib.hid he
        rw [he] at c0
        clear he
        go_wp2_with fail
        go_ret
        exact ⟨rfl, .inl ⟨k, hlt, he'.out, HF.out, rfl⟩⟩
      · have HF := Lib.hid (find_more hlt hn.out (by simpa using he))
        have e1 : (r[k].p == p) = false := by simpa using he
        have e2 : (r[k].p != p) = true := by simpa using he
        generalize r[k].p = x at c0 e1 e2
        clear he
        go_wp2_with fail
        go_roundw
        case rel => exact ⟨trivial, k + 1, by omega, by go_num, HF.out⟩
        case measure => simp [intOf]; omega
    · obtain rfl : k = r.length := by omega
      rw [List.take_length] at hn
      go_wp2
      go_ret
      exact ⟨rfl, .inr ⟨hn.out, rfl⟩⟩

/-- The document's Decide. -/
def decideR (sk : Option Ent) (k p ep s : Int) (t : Bool) (rs : List Rec) : Int × Bool × Int :=
  if checkE k p ep s t rs ≠ 0 ∨ p = -1 then (0, false, checkE k p ep s t rs) else
  if (∃ x, sk = some x ∧ ep < x.ep) then (0, false, 50) else
  if k ≠ 1 then (0, false, 0) else
  match sk with
  | none => if s ≠ 0 then (0, false, 51) else (0, false, 0)
  | some x => if x.ep < ep then (if s ≠ 0 then (0, false, 51) else (0, false, 0)) else
    if s = x.nx then (0, false, 0) else
    match x.last.find? (fun d => d.seq == s && d.len == (rs.length : Int)) with
    | some d => (d.off, true, 0)
    | none => if s < x.nx then (0, false, 52) else (0, false, 51)

def trip (D : Int × Bool × Int) : Ending := .returned (.tuple #[.int .i64 D.1, .bool D.2.1, .int .i64 D.2.2])

/-- What is left where the check lets the batch in. -/
def decideV (sk : Option Ent) (k ep s : Int) (n : Nat) : Int × Bool × Int :=
  if (∃ x, sk = some x ∧ ep < x.ep) then (0, false, 50) else if k ≠ 1 then (0, false, 0) else
  match sk with
  | none => if s ≠ 0 then (0, false, 51) else (0, false, 0)
  | some x => if x.ep < ep then (if s ≠ 0 then (0, false, 51) else (0, false, 0)) else if s = x.nx then (0, false, 0) else
    match x.last.find? (fun d => d.seq == s && d.len == (n : Int)) with
    | some d => (d.off, true, 0)
    | none => if s < x.nx then (0, false, 52) else (0, false, 51)
theorem decideU {k p ep s : Int} {t : Bool} {rs : List Rec} (hc : checkE k p ep s t rs = 0) (hp : p ≠ -1) (sk : Option Ent) : decideR sk k p ep s t rs = decideV sk k ep s rs.length := by
  unfold decideR
  rw [hc, if_neg (by simp [hp])]
  rfl

theorem trip_eq {a : Int} {b : Bool} {c : Int} {D : Int × Bool × Int} (h : D = (a, b, c)) : Ending.returned (.tuple #[.int .i64 a, .bool b, .int .i64 c]) = trip D := by rw [h]; rfl

set_option maxRecDepth 100000 in
set_option maxHeartbeats 4000000 in
theorem rdecide_any (rb : Nat) (A : Option Addr) (c : Nat) (r : List Ent) (k p ep s : Int) (t : Bool) (rs : List Rec) (A2 : Option Addr) (c2 : Nat) (w : World) (hB : Blk w rb [.slice A r.length c]) (hE : EntsAt w A r)
    (hr : r.length ≤ 140737488351232) (hrl : ∀ x ∈ r, x.last.length ≤ 140737488351232) (hR : RecsAt w A2 rs) (hs : -9223372036854775808 ≤ s ∧ s ≤ 9223372036854775807) :
    Calls Try.prog 22 #[.pointer (some ⟨rb, 0, none⟩), .agg #[.int .i64 k, .int .i64 p, .int .i64 ep, .int .i64 s, .bool t, .slice A2 rs.length c2]] w fun e w' =>
      e = trip (decideR (r.find? fun x => x.p == p) k p ep s t rs) ∧ Below w.heap.size w w' := by
  have hrs := hR.1
  have hBl := hB.lt
  obtain ⟨sk, hsk⟩ : ∃ sk, (r.find? fun x => x.p == p) = sk := ⟨_, rfl⟩
  replace hsk := Lib.hid hsk
  rw [hsk.out]
  go_enter Try.func22, Try.ntmps22
  go_wp2_with fail
  refine (rcheck_any k p ep s t rs A2 c2 _ (hR.below (bl_alloc (Below.refl _ _) _)) hs).mono ?_
  obtain ⟨ce, hce⟩ : ∃ ce, checkE k p ep s t rs = ce := ⟨_, rfl⟩
  replace hce := Lib.hid hce
  rw [hce.out]
  rintro e w1 ⟨rfl, hb1⟩
  have hX := (Blk.new' (w := w) #[.int .i64 k, .int .i64 p, .int .i64 ep, .int .i64 s, .bool t, .slice A2 rs.length c2] 30 rfl).below hb1 (by simp)
  have hB1 := (hB.alloc _).below hb1 (hB.alloc _).lt
  have hbb := bl_tr (bl_alloc (Below.refl _ _) _) hb1
  have hE1 := hE.below hbb
  clear hb1 hB hE hR
  have q := hX.cell
  by_cases h0 : ce = 0
  · subst h0
    by_cases hp : p = -1
    · subst hp
      go_wp2_with fail
      go_ret3
      refine ⟨trip_eq ?_, hbb⟩
      unfold decideR
      rw [hce.out, if_pos (.inr rfl)]
    · have hp1 : (p == -1) = false := by simpa using hp
      have HU := Lib.hid (decideU hce.out hp sk)
      clear hp
      go_wp2_with fail
      refine (find_any rb A c r p _ hB1 hE1 hr).mono ?_
      rintro e w2 ⟨rfl, ⟨i, hi, hip, hf, rfl⟩ | ⟨hf, rfl⟩⟩
      · replace hsk := Lib.hid (hsk.out.symm.trans hf)
        clear hf
        have hlast := hrl r[i] (List.getElem_mem _)
        obtain ⟨b, o, A', c', rfl, hl, d0, d1, d2, d3, hD⟩ := hE1 i hi
        clear hE1 hip hrl
        generalize r[i] = x at *
        obtain ⟨xp, xe, xn, xl⟩ := x
        dsimp only at d0 d1 d2 d3 hD hlast
        have qB := hB1.cell
        by_cases he : ep < xe
        · go_wp2_with fail
          go_quiet (fail)
          go_wp2_with fail
          go_ret3
          refine ⟨trip_eq ?_, bl_drewN hbb _⟩
          rw [HU.out, hsk.out]; unfold decideV; rw [if_pos ⟨_, rfl, he⟩]
        · have HV := Lib.hid (show ∀ k n, decideV (some ⟨xp, xe, xn, xl⟩) k ep s n = if k ≠ 1 then ((0, false, 0) : Int × Bool × Int) else if xe < ep then (if s ≠ 0 then (0, false, 51) else (0, false, 0)) else if s = xn then (0, false, 0) else
              match xl.find? (fun d => d.seq == s && d.len == (n : Int)) with
              | some d => (d.off, true, 0)
              | none => if s < xn then (0, false, 52) else (0, false, 51) from by
            intro k n
            unfold decideV
            rw [if_neg]
            rintro ⟨x, h, h2⟩
            cases h
            exact he h2)
          have hne := Lib.hid he
          have he' : xe ≤ ep := by omega
          clear he
          by_cases hk : k = 1
          · subst hk
            by_cases he2 : xe < ep
            · by_cases h0 : s = 0
              · subst h0
                go_wp2_with fail
                go_quiet (fail)
                go_wp2_with fail
                go_quiet (fail)
                go_wp2_with fail
                go_ret3
                refine ⟨trip_eq ?_, bl_drewN hbb _⟩
                rw [HU.out, hsk.out, HV.out]; simp [he2]
              · have h01 : (s == 0) = false := by simpa using h0
                have h02 : (s != 0) = true := by simpa using h0
                replace h0 := Lib.hid h0
                go_wp2_with fail
                go_quiet (fail)
                go_wp2_with fail
                go_quiet (fail)
                go_wp2_with fail
                go_ret3
                refine ⟨trip_eq ?_, bl_drewN hbb _⟩
                rw [HU.out, hsk.out, HV.out]; simp [he2, h0.out]
            · obtain rfl : xe = ep := by omega
              go_wp2_with fail
              go_quiet (fail)
              obtain ⟨w3, hw3⟩ : ∃ w3, w2.drewN nq = w3 := ⟨_, rfl⟩
              rw [hw3]
              replace hX := hw3 ▸ hX.drewN nq
              replace hB1 := hw3 ▸ hB1.drewN nq
              replace hbb := hw3 ▸ bl_drewN hbb nq
              replace hD := hD.below (hw3 ▸ below_drewN (Below.refl w2.heap.size w2) nq)
              have hc3 : ∀ a, w3.cell? a = w2.cell? a := fun a => by rw [← hw3]; rfl
              rw [← hc3] at d0 d1 d2 d3
              replace q := hX.cell
              replace qB := hB1.cell
              have hl3 : b < w3.heap.size := by rw [← hw3]; exact hl
              clear hc3 hl hw3
              go_wp2_with fail
              go_quiet (fail)
              obtain ⟨w4, hw4⟩ : ∃ w4, w3.drewN nq = w4 := ⟨_, rfl⟩
              rw [hw4]
              replace hX := hw4 ▸ hX.drewN nq
              replace hB1 := hw4 ▸ hB1.drewN nq
              replace hbb := hw4 ▸ bl_drewN hbb nq
              replace hD := hD.below (hw4 ▸ below_drewN (Below.refl w3.heap.size w3) nq)
              have hc4 : ∀ a, w4.cell? a = w3.cell? a := fun a => by rw [← hw4]; rfl
              rw [← hc4] at d0 d1 d2 d3
              replace q := hX.cell
              replace qB := hB1.cell
              have hl4 : b < w4.heap.size := by rw [← hw4]; exact hl3
              have hlX := hX.lt
              clear hc4 hl3 hw4
              by_cases h0 : s = xn
              · subst h0
                go_wp2_with fail
                go_ret3
                refine ⟨trip_eq ?_, bl_alloc hbb _⟩
                rw [HU.out, hsk.out, HV.out]; simp
              · have h01 : (s == xn) = false := by simpa using h0
                have h02 : (s != xn) = true := by simpa using h0
                have h0' := Lib.hid h0
                clear h0
                go_wp2_with fail
                go_loopw [11] (fun u ws => ∃ k0 : Nat, k0 ≤ xl.length ∧ u = .int .i64 k0 ∧ Hid ((xl.take k0).find? (fun d => d.seq == s && d.len == (rs.length : Int)) = none) ∧ Blk ws w.heap.size [.int .i64 1, .int .i64 p, .int .i64 xe, .int .i64 s, .bool t, .slice A2 rs.length c2] ∧
                  Blk ws w4.heap.size [.int .i64 xp, .int .i64 xe, .int .i64 xn, .slice A' xl.length c'] ∧ Below w.heap.size w ws ∧ Below w4.heap.size w4 ws) (fun u _ => xl.length - (intOf u).toNat)
                case atStart => exact ⟨0, Nat.zero_le _, rfl, Lib.hid (by simp), hX.alloc _, Blk.new' _ _ rfl, bl_alloc hbb _, bl_alloc (Below.refl _ _) _⟩
                case round =>
                  obtain ⟨k0, hk0, rfl, hn, hX, hx5, hbb, hb4⟩ := hrel
                  replace hD := hD.below hb4
                  have q := hX.cell
                  have qx := hx5.cell
                  by_cases hlt : k0 < xl.length
                  · obtain ⟨b2, o2, rfl, hl2, e0, e1, e2⟩ := hD k0 hlt
                    have HM := fun (h : (xl[k0].seq == s && xl[k0].len == (rs.length : Int)) = false) => find_more (f := fun d : Dn => d.seq == s && d.len == (rs.length : Int)) hlt hn.out h
                    have HA := fun (h : (xl[k0].seq == s && xl[k0].len == (rs.length : Int)) = true) => find_at (f := fun d : Dn => d.seq == s && d.len == (rs.length : Int)) hlt hn.out h
                    replace HM := Lib.hid HM
                    replace HA := Lib.hid HA
                    generalize xl[k0] = d at e0 e1 e2 HM HA
                    obtain ⟨ds, dl, df⟩ := d
                    dsimp only at e0 e1 e2 HM HA
                    by_cases h1 : ds = s
                    · subst h1
                      by_cases h2 : dl = (rs.length : Int)
                      · subst h2
                        go_wp2_with fail
                        go_quiet (fail)
                        go_wp2_with fail
                        go_ret3
                        refine ⟨trip_eq ?_, bl_drewN hbb _⟩
                        rw [HU.out, hsk.out, HV.out, HA.out (by simp)]; simp [h0'.out]
                      · have h3 : (dl == (rs.length : Int)) = false := by simpa using h2
                        have h4 : (dl != (rs.length : Int)) = true := by simpa using h2
                        clear h2
                        go_wp2_with fail
                        go_quiet (fail)
                        go_wp2_with fail
                        go_roundw
                        case rel => exact ⟨k0 + 1, by omega, by go_num, Lib.hid (HM.out (by simp [h3])), hX.drewN _, hx5.drewN _, bl_drewN hbb _, bl_drewN hb4 _⟩
                        case measure => simp [intOf]; omega
                    · have h3 : (ds == s) = false := by simpa using h1
                      have h4 : (ds != s) = true := by simpa using h1
                      clear h1
                      go_wp2_with fail
                      go_quiet (fail)
                      go_wp2_with fail
                      go_roundw
                      case rel => exact ⟨k0 + 1, by omega, by go_num, Lib.hid (HM.out (by simp [h3])), hX.drewN _, hx5.drewN _, bl_drewN hbb _, bl_drewN hb4 _⟩
                      case measure => simp [intOf]; omega
                  · obtain rfl : k0 = xl.length := by omega
                    rw [List.take_length] at hn
                    by_cases h5 : s < xn
                    · go_wp2_with fail
                      go_ret3
                      refine ⟨trip_eq ?_, hbb⟩
                      rw [HU.out, hsk.out, HV.out, hn.out]; simp [h0'.out, h5]
                    · go_wp2_with fail
                      go_ret3
                      refine ⟨trip_eq ?_, hbb⟩
                      rw [HU.out, hsk.out, HV.out, hn.out]; simp [h0'.out, h5]
          · have k1 : (k == 1) = false := by simpa using hk
            have k2 : (k != 1) = true := by simpa using hk
            have hk' := Lib.hid hk
            clear hk
            go_wp2_with fail
            go_quiet (fail)
            go_wp2_with fail
            go_ret3
            refine ⟨trip_eq ?_, bl_drewN hbb _⟩
            rw [HU.out, hsk.out, HV.out]; simp [hk'.out]
      · replace hsk := Lib.hid (hsk.out.symm.trans hf)
        clear hf
        have qB := hB1.cell
        clear hE1
        have HV := Lib.hid (show ∀ k n, decideV none k ep s n = if k ≠ 1 then ((0, false, 0) : Int × Bool × Int) else (if s ≠ 0 then (0, false, 51) else (0, false, 0)) from by
          intro k n
          unfold decideV
          rw [if_neg (by simp)])
        by_cases hk : k = 1
        · subst hk
          by_cases h0 : s = 0
          · subst h0
            go_wp2_with fail
            go_quiet (fail)
            go_wp2_with fail
            go_quiet (fail)
            go_wp2_with fail
            go_ret3
            refine ⟨trip_eq ?_, bl_drewN hbb _⟩
            rw [HU.out, hsk.out, HV.out]; simp
          · have h01 : (s == 0) = false := by simpa using h0
            have h02 : (s != 0) = true := by simpa using h0
            have h0' := Lib.hid h0
            clear h0
            go_wp2_with fail
            go_quiet (fail)
            go_wp2_with fail
            go_quiet (fail)
            go_wp2_with fail
            go_ret3
            refine ⟨trip_eq ?_, bl_drewN hbb _⟩
            rw [HU.out, hsk.out, HV.out]; simp [h0'.out]
        · have k1 : (k == 1) = false := by simpa using hk
          have k2 : (k != 1) = true := by simpa using hk
          have hk' := Lib.hid hk
          clear hk
          go_wp2_with fail
          go_quiet (fail)
          go_wp2_with fail
          go_ret3
          refine ⟨trip_eq ?_, bl_drewN hbb _⟩
          rw [HU.out, hsk.out, HV.out]; simp [hk'.out]
  · have h1 : (ce != 0) = true := by simpa using h0
    have h2 : (ce == 0) = false := by simpa using h0
    go_wp2_with fail
    go_ret3
    refine ⟨trip_eq ?_, hbb⟩
    unfold decideR
    rw [hce.out, if_pos (.inl h0)]
end Go.Proofs.Ytjpmdjjihdicdaa
