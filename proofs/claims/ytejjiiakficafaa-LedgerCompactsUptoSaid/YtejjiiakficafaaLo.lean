/- The ledger's small functions: none, lost, txn, knows, right. -/
import Derived.Test.YtejjiiakficafaaLp
import Derived.Test.YtejjiiakficafaaKp
import Derived.StringKeys
namespace Go.Proofs.Ytejjiiakficafaa
open Go.RowKit Go.Shelf
attribute [local go_sem] Oper.semAt_some

def lgL (tb : Nat) (s f : Int) (rv ov gv : Value) : List Value := [.pointer (some ⟨tb, 0, none⟩), .int .i64 s, .int .i64 f, rv, ov, gv]

set_option maxHeartbeats 400000 in
theorem lnone_nil (w : World) :
    Calls Try.prog 24 #[.pointer none] w fun e w' => e = .returned (.bool true) ∧ w = w' := by
  go_enter Try.func24, Try.ntmps24
  go_wp2
  go_ret
  exact ⟨rfl, rfl⟩
set_option maxHeartbeats 400000 in
theorem lnone_zero (lb : Nat) (w : World) (h : w.cell? ⟨lb, 0, none⟩ = some (.pointer none)) :
    Calls Try.prog 24 #[.pointer (some ⟨lb, 0, none⟩)] w fun e w' => e = .returned (.bool true) ∧ w = w' := by
  go_enter Try.func24, Try.ntmps24
  go_wp2
  go_ret
  exact ⟨rfl, rfl⟩
set_option maxHeartbeats 400000 in
theorem lnone_any (lb tb : Nat) (w : World) (h : w.cell? ⟨lb, 0, none⟩ = some (.pointer (some ⟨tb, 0, none⟩))) :
    Calls Try.prog 24 #[.pointer (some ⟨lb, 0, none⟩)] w fun e w' => e = .returned (.bool false) ∧ w = w' := by
  go_enter Try.func24, Try.ntmps24
  go_wp2
  go_ret
  exact ⟨rfl, rfl⟩

set_option maxHeartbeats 1000000 in
theorem lost_any (r : Rw) (lb tb : Nat) (s f : Int) (rv ov : Value) (A : Option Addr) (c : Nat) (l : List Gn) (w : World) (hB : Blk w lb (lgL tb s f rv ov (.slice A l.length c))) (hl : LAt w A 3 gnL l) (hll : l.length ≤ 4611686018427387904) :
    Calls Try.prog 37 #[.pointer (some ⟨lb, 0, none⟩), .agg #[.int .i64 r.off, .int .i64 r.prod, .bool r.tx, .string r.rc.key, .string r.rc.val, .bool r.rc.dead]] w fun e w' => e = .returned (.bool (lost l r)) ∧ Below w.heap.size w w' := by
  have hmf : ∀ (fn : Fn) (first cap : Array Value) (w : World), (Instr.makeFunc fn first cap).run Try.prog w = .ok (.func fn first cap) w := fun _ _ _ _ => rfl
  have q := hB.cell
  have q5 : w.cell? ⟨lb, 5, none⟩ = some (.slice A l.length c) := hB.get rfl
  have hlt := hB.lt
  have HL := Lib.hid (show lost l r = (r.tx && l.any (hitG r)) from rfl)
  clear q
  obtain ⟨ro, rp, rt, rc⟩ := r
  have hB1 : Blk (w.alloc (.cells #[.int .i64 ro, .int .i64 rp, .bool rt, .string rc.key, .string rc.val, .bool rc.dead] 51)) w.heap.size (rwL ⟨ro, rp, rt, rc⟩) := Blk.new' _ _ rfl
  cases rt
  · go_enter Try.func37, Try.ntmps37
    go_wp2_with fail
    go_ret
    exact ⟨ret_bool (by rw [HL.out]; rfl), bl_alloc (Below.refl _ _) _⟩
  · have HF := Lib.hid (fi_neg l (hitG ⟨ro, rp, true, rc⟩))
    go_enter Try.func37, Try.ntmps37
    go_wp2_with (go_at_call 54; refine (findG_any A c l ⟨ro, rp, true, rc⟩ w.heap.size _ (hl.below (bl_alloc (Below.refl _ _) _)) hll hB1).mono ?_; rintro e w2 ⟨rfl, hb2⟩)
    go_ret
    exact ⟨ret_bool (by rw [HL.out, ← HF.out]; simp), bl_tr (bl_alloc (Below.refl _ _) _) hb2⟩

set_option maxHeartbeats 1000000 in
theorem txn_any (p : Int) (lb tb : Nat) (s f : Int) (rv gv : Value) (A : Option Addr) (c : Nat) (l : List Tx) (w : World) (hB : Blk w lb (lgL tb s f rv (.slice A l.length c) gv)) (hl : LAt w A 2 txL l) (hll : l.length ≤ 4611686018427387904) :
    Calls Try.prog 28 #[.pointer (some ⟨lb, 0, none⟩), .int .i64 p] w fun e w' => e = .returned (.int .i64 (fiI (l.findIdx? (hitT p)))) ∧ Below w.heap.size w w' := by
  have hmf : ∀ (fn : Fn) (first cap : Array Value) (w : World), (Instr.makeFunc fn first cap).run Try.prog w = .ok (.func fn first cap) w := fun _ _ _ _ => rfl
  have q4 : w.cell? ⟨lb, 4, none⟩ = some (.slice A l.length c) := hB.get rfl
  have hlt := hB.lt
  have hB1 : Blk (w.alloc (.cells #[.int .i64 p] 3)) w.heap.size [.int .i64 p] := Blk.new' _ _ rfl
  go_enter Try.func28, Try.ntmps28
  go_wp2_with (go_at_call 46; refine (findT_any A c l p w.heap.size _ (hl.below (bl_alloc (Below.refl _ _) _)) hll hB1).mono ?_; rintro e w2 ⟨rfl, hb2⟩)
  go_ret
  exact ⟨rfl, bl_tr (bl_alloc (Below.refl _ _) _) hb2⟩

/-- Entries in slices of the call's own, as rows that are read. -/
theorem ents_at {w : World} {base : Nat} {v : Value} {l : List Ent} (h : EntsOwn w base v l) : ∃ (A : Option Addr) (c : Nat) (l' : List Ev), v = .slice A l.length c ∧ l'.length = l.length ∧ LAt w A 4 evL l' ∧ ∀ p ep, l'.any (hitE p ep) = l.any fun x => x.p == p && x.ep == ep := by
  obtain ⟨vs, hl, hrow, hin⟩ := h
  obtain ⟨A, c, rfl, htl⟩ := ownsRow_tells hrow
  clear hin htl
  have hlen : ∀ (l : List Ent) (vs : List Value), vs.length = l.length → ((l.zip vs).map fun x => (⟨x.1.p, x.1.ep, x.1.nx, x.2⟩ : Ev)).flatMap evL = entCells l vs := by
    intro l
    induction l with
    | nil => intro vs h; simp [entCells]
    | cons x l ih =>
      intro vs h
      cases vs with
      | nil => simp at h
      | cons v vs => simp only [List.zip_cons_cons, List.map_cons, List.flatMap_cons, entCells]; rw [ih vs (by simpa using h)]; rfl
  refine ⟨A, c, (l.zip vs).map fun x => ⟨x.1.p, x.1.ep, x.1.nx, x.2⟩, rfl, by simp [hl], ?_, fun p ep => ?_⟩
  · refine LAt.of_own evL_len (e := 105) (n := l.length) (c := c) (base := base) ?_ (by simp [hl])
    rw [hlen l vs hl]
    exact hrow
  · clear hrow
    induction l generalizing vs with
    | nil => simp
    | cons x l ih =>
      cases vs with
      | nil => simp at hl
      | cons v vs => simp only [List.zip_cons_cons, List.map_cons, List.any_cons]; rw [ih vs (by simpa using hl)]; rfl

set_option maxHeartbeats 1000000 in
theorem knowsB_any (k p ep s : Int) (t : Bool) (rw_ : Value) (lb tb mb nn : Nat) (m : List (Int × St)) (st f : Int) (rv ov gv : Value) (w : World) (hB : Blk w lb (lgL tb st f rv ov gv)) (hT : Blk w tb [.map (some mb)]) (hM : IM Try.prog 3 w mb nn stV m)
    (hG : GoodM m nn) (hn : nn * 48 ≤ 140737488355328) :
    Calls Try.prog 29 #[.pointer (some ⟨lb, 0, none⟩), .agg #[.int .i64 k, .int .i64 p, .int .i64 ep, .int .i64 s, .bool t, rw_]] w fun e w' => e = .returned (.bool (knowsB m p ep)) ∧ Below w.heap.size w w' := by
  have hmf : ∀ (fn : Fn) (first cap : Array Value) (w : World), (Instr.makeFunc fn first cap).run Try.prog w = .ok (.func fn first cap) w := fun _ _ _ _ => rfl
  have q0 : w.cell? ⟨lb, 0, none⟩ = some (.pointer (some ⟨tb, 0, none⟩)) := hB.get rfl
  have hlt := hB.lt
  have hml := hM.length_le
  have HG := Lib.hid hG
  clear hG
  have hB1 : Blk (w.alloc (.cells #[.int .i64 k, .int .i64 p, .int .i64 ep, .int .i64 s, .bool t, rw_] 30)) w.heap.size [.int .i64 k, .int .i64 p, .int .i64 ep, .int .i64 s, .bool t, rw_] := Blk.new' _ _ rfl
  go_enter Try.func29, Try.ntmps29
  go_wp2_with (go_at_call 49; refine (entries_any tb mb nn m _ (hT.alloc _) (hM.alloc _) hn (fun x hx => by have := HG.out x hx; unfold okI; omega) (fun x hx => by have := HG.out x hx; omega)).mono ?_; rintro e w1 ⟨v, rfl, hE, hb1⟩)
  obtain ⟨A, c, l', rfl, hl', hL, hany⟩ := ents_at hE
  have hll : (m.map entOf).length = l'.length := hl'.symm
  rw [hll]
  have hB2 := hB1.below hb1 hB1.lt
  have HA := Lib.hid (show (0 ≤ fiI (l'.findIdx? (hitE p ep))) = (knowsB m p ep = true) by
    have h1 := fi_neg l' (hitE p ep)
    rw [hany p ep, List.any_map] at h1
    have h2 : knowsB m p ep = decide (0 ≤ fiI (l'.findIdx? (hitE p ep))) := h1.symm
    rw [h2]; simp)
  have hl4 : l'.length ≤ 4611686018427387904 := by rw [hl']; simp; omega
  clear hany hll hl' hE
  go_wp2_with (go_at_call 48; refine (findE_any A c l' k p ep s t rw_ w.heap.size _ hL hl4 hB2).mono ?_; rintro e w2 ⟨rfl, hb2⟩)
  go_ret
  exact ⟨ret_bool (by simp only [HA.out]; simp), bl_tr (bl_tr (bl_alloc (Below.refl _ _) _) hb1) hb2⟩
end Go.Proofs.Ytejjiiakficafaa
