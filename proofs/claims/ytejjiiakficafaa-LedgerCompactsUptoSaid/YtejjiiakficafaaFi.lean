/- The searches: slices.IndexFunc and find, with the closures of txn, lost and knows. -/
import Derived.Test.YtejjiiakficafaaLa
namespace Go.Proofs.Ytejjiiakficafaa
open Go.RowKit Go.Shelf
attribute [local go_sem] Oper.semAt_some
deriving instance DecidableEq for Rec

structure Rw where
  off : Int
  prod : Int
  tx : Bool
  rc : Rec
deriving Inhabited, DecidableEq
structure Tx where
  prod : Int
  first : Int
deriving Inhabited, DecidableEq
structure Gn where
  prod : Int
  first : Int
  last : Int
deriving Inhabited, DecidableEq
structure Ev where
  p : Int
  ep : Int
  nx : Int
  v : Value
deriving Inhabited

def rwL (r : Rw) : List Value := [.int .i64 r.off, .int .i64 r.prod, .bool r.tx, .string r.rc.key, .string r.rc.val, .bool r.rc.dead]
def txL (t : Tx) : List Value := [.int .i64 t.prod, .int .i64 t.first]
def gnL (g : Gn) : List Value := [.int .i64 g.prod, .int .i64 g.first, .int .i64 g.last]
def evL (x : Ev) : List Value := [.int .i64 x.p, .int .i64 x.ep, .int .i64 x.nx, x.v]
theorem rwL_len (r : Rw) : (rwL r).length = 6 := rfl
theorem txL_len (r : Tx) : (txL r).length = 2 := rfl
theorem gnL_len (r : Gn) : (gnL r).length = 3 := rfl
theorem evL_len (r : Ev) : (evL r).length = 4 := rfl
theorem rwL_one (r : Rw) : ∀ u ∈ rwL r, u.oneCell' = true := by intro u hu; simp [rwL] at hu; rcases hu with rfl | rfl | rfl | rfl | rfl | rfl <;> rfl
theorem txL_one (r : Tx) : ∀ u ∈ txL r, u.oneCell' = true := by intro u hu; simp [txL] at hu; rcases hu with rfl | rfl <;> rfl
theorem gnL_one (r : Gn) : ∀ u ∈ gnL r, u.oneCell' = true := by intro u hu; simp [gnL] at hu; rcases hu with rfl | rfl | rfl <;> rfl

def hitG (r : Rw) (g : Gn) : Bool := g.prod == r.prod && decide (g.first ≤ r.off) && decide (r.off ≤ g.last)
def hitE (p ep : Int) (x : Ev) : Bool := x.p == p && x.ep == ep
def hitT (p : Int) (t : Tx) : Bool := t.prod == p

def fiI : Option Nat → Int
  | some i => i
  | none => -1
theorem fi_hit {α : Type} {l : List α} {P : α → Bool} {k : Nat} (h : k < l.length) (ha : ∀ t (q : t < l.length), t < k → P l[t] = false) (hp : P l[k] = true) : fiI (l.findIdx? P) = (k : Int) := by
  rw [List.findIdx?_eq_some_iff_getElem.2 ⟨h, hp, fun j hj => by simp [ha j (by omega) hj]⟩]; rfl
theorem fi_none {α : Type} {l : List α} {P : α → Bool} (ha : ∀ t (q : t < l.length), P l[t] = false) : fiI (l.findIdx? P) = -1 := by
  rw [List.findIdx?_eq_none_iff.2 fun x hx => by obtain ⟨i, hi, rfl⟩ := List.getElem_of_mem hx; exact ha i hi]; rfl
theorem fi_neg {α : Type} (l : List α) (P : α → Bool) : decide (0 ≤ fiI (l.findIdx? P)) = l.any P := by
  cases h : l.findIdx? P with
  | none =>
    have := List.findIdx?_eq_none_iff.1 h
    rw [List.any_eq_false.2 (fun x hx => by simp [this x hx])]; rfl
  | some i =>
    obtain ⟨hi, hp, _⟩ := List.findIdx?_eq_some_iff_getElem.1 h
    rw [List.any_eq_true.2 ⟨_, List.getElem_mem hi, hp⟩]; simp [fiI]

set_option maxHeartbeats 400000 in
theorem txn1_any (x : Tx) (p : Int) (B : Nat) (w : World) (h : Blk w B [.int .i64 p]) :
    Calls Try.prog 47 #[.agg #[.int .i64 x.prod, .int .i64 x.first], .pointer (some ⟨B, 0, none⟩)] w fun e w' => e = .returned (.bool (hitT p x)) ∧ Below w.heap.size w w' := by
  have q := h.cell
  have l := h.lt
  go_enter Try.func47, Try.ntmps47
  go_wp2
  all_goals go_ret
  all_goals exact ⟨ret_bool (by simp_all [hitT]), bl_alloc (Below.refl _ _) _⟩

set_option maxHeartbeats 400000 in
theorem lost1_any (x : Gn) (r : Rw) (B : Nat) (w : World) (h : Blk w B (rwL r)) :
    Calls Try.prog 55 #[.agg #[.int .i64 x.prod, .int .i64 x.first, .int .i64 x.last], .pointer (some ⟨B, 0, none⟩)] w fun e w' => e = .returned (.bool (hitG r x)) ∧ Below w.heap.size w w' := by
  have q := h.cell
  have l := h.lt
  simp only [rwL] at q
  go_enter Try.func55, Try.ntmps55
  go_wp2
  all_goals go_ret
  all_goals exact ⟨ret_bool (by simp_all [hitG] <;> omega), bl_alloc (Below.refl _ _) _⟩

set_option maxHeartbeats 400000 in
theorem knows1_any (x : Ev) (k p ep s : Int) (t : Bool) (r : Value) (B : Nat) (w : World) (h : Blk w B [.int .i64 k, .int .i64 p, .int .i64 ep, .int .i64 s, .bool t, r]) :
    Calls Try.prog 50 #[.agg #[.int .i64 x.p, .int .i64 x.ep, .int .i64 x.nx, x.v], .pointer (some ⟨B, 0, none⟩)] w fun e w' => e = .returned (.bool (hitE p ep x)) ∧ Below w.heap.size w w' := by
  have q := h.cell
  have l := h.lt
  go_enter Try.func50, Try.ntmps50
  go_wp2
  all_goals go_ret
  all_goals exact ⟨ret_bool (by simp_all [hitE]), bl_alloc (Below.refl _ _) _⟩

set_option maxRecDepth 100000 in
set_option maxHeartbeats 1000000 in
theorem indexT_any (A : Option Addr) (c : Nat) (l : List Tx) (p : Int) (B : Nat) (w : World) (hl : LAt w A 2 txL l) (hll : l.length ≤ 4611686018427387904) (hB : Blk w B [.int .i64 p]) :
    Calls Try.prog 64 #[.slice A l.length c, .func (.func 47) #[] #[.pointer (some ⟨B, 0, none⟩)]] w fun e w' => e = .returned (.int .i64 (fiI (l.findIdx? (hitT p)))) ∧ Below w.heap.size w w' := by
  go_enter Try.func64, Try.ntmps64
  go_wp2_with fail
  go_loopw [8] (fun u wr => ∃ i : Nat, u = .int .i64 i ∧ i ≤ l.length ∧ Hid (∀ t (h : t < l.length), t < i → hitT p l[t] = false) ∧ Below w.heap.size w wr) (fun u _ => l.length - (intOf u).toNat)
  case atStart => exact ⟨0, rfl, Nat.zero_le _, Lib.hid (fun t h q => by omega), Below.refl _ _⟩
  case round =>
    obtain ⟨i, rfl, hi, ha, hb⟩ := hrel
    by_cases hlt : i < l.length
    · obtain ⟨b, o, rfl, hbl, ca⟩ := (hl.below hb) i hlt
      have HN := Lib.hid (fun (e : hitT p l[i] = true) => fi_hit hlt ha.out e)
      have HM := Lib.hid (fun (e : hitT p l[i] = false) t (h : t < l.length) (q : t < i + 1) => (if e2 : t = i then by subst e2; exact e else ha.out t h (by omega) : hitT p l[t] = false))
      generalize l[i] = x at ca HN HM
      have a0 : wr.cell? ⟨b, o + i * 2, none⟩ = some (.int .i64 x.prod) := ca 0 _ rfl
      have a1 : wr.cell? ⟨b, o + i * 2 + 1, none⟩ = some (.int .i64 x.first) := ca 1 _ rfl
      have hB1 := hB.below hb hB.lt
      clear ca hl ha
      cases hP : hitT p x with
      | true =>
        have HF := Lib.hid (HN.out hP)
        clear HN HM
        go_wp2_with (go_at_call 47; refine (txn1_any x p B _ hB1).mono ?_; rintro e w2 ⟨rfl, hb2⟩)
        go_ret
        exact ⟨by rw [HF.out]; rfl, bl_tr hb hb2⟩
      | false =>
        have HF := Lib.hid (HM.out hP)
        clear HN HM
        go_wp2_with (go_at_call 47; refine (txn1_any x p B _ hB1).mono ?_; rintro e w2 ⟨rfl, hb2⟩)
        exact ⟨⟨i + 1, by go_num, by omega, HF, bl_tr hb hb2⟩, by simp [intOf]; omega⟩
    · obtain rfl : i = l.length := by omega
      have HF := Lib.hid (fi_none (P := hitT p) (fun t h => ha.out t h h))
      clear ha
      go_wp2_with fail
      go_ret
      exact ⟨by rw [HF.out]; rfl, hb⟩

set_option maxRecDepth 100000 in
set_option maxHeartbeats 1000000 in
theorem findT_any (A : Option Addr) (c : Nat) (l : List Tx) (p : Int) (B : Nat) (w : World) (hl : LAt w A 2 txL l) (hll : l.length ≤ 4611686018427387904) (hB : Blk w B [.int .i64 p]) :
    Calls Try.prog 46 #[.slice A l.length c, .func (.func 47) #[] #[.pointer (some ⟨B, 0, none⟩)]] w fun e w' => e = .returned (.int .i64 (fiI (l.findIdx? (hitT p)))) ∧ Below w.heap.size w w' := by
  go_enter Try.func46, Try.ntmps46
  go_wp2_with (go_at_call 64; refine (indexT_any A c l p B _ hl hll hB).mono ?_; rintro e w2 ⟨rfl, hb2⟩)
  go_ret
  exact ⟨rfl, hb2⟩

set_option maxRecDepth 100000 in
set_option maxHeartbeats 1000000 in
theorem indexG_any (A : Option Addr) (c : Nat) (l : List Gn) (r : Rw) (B : Nat) (w : World) (hl : LAt w A 3 gnL l) (hll : l.length ≤ 4611686018427387904) (hB : Blk w B (rwL r)) :
    Calls Try.prog 70 #[.slice A l.length c, .func (.func 55) #[] #[.pointer (some ⟨B, 0, none⟩)]] w fun e w' => e = .returned (.int .i64 (fiI (l.findIdx? (hitG r)))) ∧ Below w.heap.size w w' := by
  go_enter Try.func70, Try.ntmps70
  go_wp2_with fail
  go_loopw [8] (fun u wr => ∃ i : Nat, u = .int .i64 i ∧ i ≤ l.length ∧ Hid (∀ t (h : t < l.length), t < i → hitG r l[t] = false) ∧ Below w.heap.size w wr) (fun u _ => l.length - (intOf u).toNat)
  case atStart => exact ⟨0, rfl, Nat.zero_le _, Lib.hid (fun t h q => by omega), Below.refl _ _⟩
  case round =>
    obtain ⟨i, rfl, hi, ha, hb⟩ := hrel
    by_cases hlt : i < l.length
    · obtain ⟨b, o, rfl, hbl, ca⟩ := (hl.below hb) i hlt
      have HN := Lib.hid (fun (e : hitG r l[i] = true) => fi_hit hlt ha.out e)
      have HM := Lib.hid (fun (e : hitG r l[i] = false) t (h : t < l.length) (q : t < i + 1) => (if e2 : t = i then by subst e2; exact e else ha.out t h (by omega) : hitG r l[t] = false))
      generalize l[i] = x at ca HN HM
      have a0 : wr.cell? ⟨b, o + i * 3, none⟩ = some (.int .i64 x.prod) := ca 0 _ rfl
      have a1 : wr.cell? ⟨b, o + i * 3 + 1, none⟩ = some (.int .i64 x.first) := ca 1 _ rfl
      have a2 : wr.cell? ⟨b, o + i * 3 + 2, none⟩ = some (.int .i64 x.last) := ca 2 _ rfl
      have hB1 := hB.below hb hB.lt
      clear ca hl ha
      cases hP : hitG r x with
      | true =>
        have HF := Lib.hid (HN.out hP)
        clear HN HM
        go_wp2_with (go_at_call 55; refine (lost1_any x r B _ hB1).mono ?_; rintro e w2 ⟨rfl, hb2⟩)
        go_ret
        exact ⟨by rw [HF.out]; rfl, bl_tr hb hb2⟩
      | false =>
        have HF := Lib.hid (HM.out hP)
        clear HN HM
        go_wp2_with (go_at_call 55; refine (lost1_any x r B _ hB1).mono ?_; rintro e w2 ⟨rfl, hb2⟩)
        exact ⟨⟨i + 1, by go_num, by omega, HF, bl_tr hb hb2⟩, by simp [intOf]; omega⟩
    · obtain rfl : i = l.length := by omega
      have HF := Lib.hid (fi_none (P := hitG r) (fun t h => ha.out t h h))
      clear ha
      go_wp2_with fail
      go_ret
      exact ⟨by rw [HF.out]; rfl, hb⟩

set_option maxRecDepth 100000 in
set_option maxHeartbeats 1000000 in
theorem findG_any (A : Option Addr) (c : Nat) (l : List Gn) (r : Rw) (B : Nat) (w : World) (hl : LAt w A 3 gnL l) (hll : l.length ≤ 4611686018427387904) (hB : Blk w B (rwL r)) :
    Calls Try.prog 54 #[.slice A l.length c, .func (.func 55) #[] #[.pointer (some ⟨B, 0, none⟩)]] w fun e w' => e = .returned (.int .i64 (fiI (l.findIdx? (hitG r)))) ∧ Below w.heap.size w w' := by
  go_enter Try.func54, Try.ntmps54
  go_wp2_with (go_at_call 70; refine (indexG_any A c l r B _ hl hll hB).mono ?_; rintro e w2 ⟨rfl, hb2⟩)
  go_ret
  exact ⟨rfl, hb2⟩

set_option maxRecDepth 100000 in
set_option maxHeartbeats 1000000 in
theorem indexE_any (A : Option Addr) (c : Nat) (l : List Ev) (k p ep s : Int) (t : Bool) (rv : Value) (B : Nat) (w : World) (hl : LAt w A 4 evL l) (hll : l.length ≤ 4611686018427387904) (hB : Blk w B [.int .i64 k, .int .i64 p, .int .i64 ep, .int .i64 s, .bool t, rv]) :
    Calls Try.prog 65 #[.slice A l.length c, .func (.func 50) #[] #[.pointer (some ⟨B, 0, none⟩)]] w fun e w' => e = .returned (.int .i64 (fiI (l.findIdx? (hitE p ep)))) ∧ Below w.heap.size w w' := by
  go_enter Try.func65, Try.ntmps65
  go_wp2_with fail
  go_loopw [8] (fun u wr => ∃ i : Nat, u = .int .i64 i ∧ i ≤ l.length ∧ Hid (∀ t (h : t < l.length), t < i → hitE p ep l[t] = false) ∧ Below w.heap.size w wr) (fun u _ => l.length - (intOf u).toNat)
  case atStart => exact ⟨0, rfl, Nat.zero_le _, Lib.hid (fun t h q => by omega), Below.refl _ _⟩
  case round =>
    obtain ⟨i, rfl, hi, ha, hb⟩ := hrel
    by_cases hlt : i < l.length
    · obtain ⟨b, o, rfl, hbl, ca⟩ := (hl.below hb) i hlt
      have HN := Lib.hid (fun (e : hitE p ep l[i] = true) => fi_hit hlt ha.out e)
      have HM := Lib.hid (fun (e : hitE p ep l[i] = false) t (h : t < l.length) (q : t < i + 1) => (if e2 : t = i then by subst e2; exact e else ha.out t h (by omega) : hitE p ep l[t] = false))
      generalize l[i] = x at ca HN HM
      have a0 : wr.cell? ⟨b, o + i * 4, none⟩ = some (.int .i64 x.p) := ca 0 _ rfl
      have a1 : wr.cell? ⟨b, o + i * 4 + 1, none⟩ = some (.int .i64 x.ep) := ca 1 _ rfl
      have a2 : wr.cell? ⟨b, o + i * 4 + 2, none⟩ = some (.int .i64 x.nx) := ca 2 _ rfl
      have a3 : wr.cell? ⟨b, o + i * 4 + 3, none⟩ = some (x.v) := ca 3 _ rfl
      have hB1 := hB.below hb hB.lt
      clear ca hl ha
      cases hP : hitE p ep x with
      | true =>
        have HF := Lib.hid (HN.out hP)
        clear HN HM
        go_wp2_with (go_at_call 50; refine (knows1_any x k p ep s t rv B _ hB1).mono ?_; rintro e w2 ⟨rfl, hb2⟩)
        go_ret
        exact ⟨by rw [HF.out]; rfl, bl_tr hb hb2⟩
      | false =>
        have HF := Lib.hid (HM.out hP)
        clear HN HM
        go_wp2_with (go_at_call 50; refine (knows1_any x k p ep s t rv B _ hB1).mono ?_; rintro e w2 ⟨rfl, hb2⟩)
        exact ⟨⟨i + 1, by go_num, by omega, HF, bl_tr hb hb2⟩, by simp [intOf]; omega⟩
    · obtain rfl : i = l.length := by omega
      have HF := Lib.hid (fi_none (P := hitE p ep) (fun t h => ha.out t h h))
      clear ha
      go_wp2_with fail
      go_ret
      exact ⟨by rw [HF.out]; rfl, hb⟩

set_option maxRecDepth 100000 in
set_option maxHeartbeats 1000000 in
theorem findE_any (A : Option Addr) (c : Nat) (l : List Ev) (k p ep s : Int) (t : Bool) (rv : Value) (B : Nat) (w : World) (hl : LAt w A 4 evL l) (hll : l.length ≤ 4611686018427387904) (hB : Blk w B [.int .i64 k, .int .i64 p, .int .i64 ep, .int .i64 s, .bool t, rv]) :
    Calls Try.prog 48 #[.slice A l.length c, .func (.func 50) #[] #[.pointer (some ⟨B, 0, none⟩)]] w fun e w' => e = .returned (.int .i64 (fiI (l.findIdx? (hitE p ep)))) ∧ Below w.heap.size w w' := by
  go_enter Try.func48, Try.ntmps48
  go_wp2_with (go_at_call 65; refine (indexE_any A c l k p ep s t rv B _ hl hll hB).mono ?_; rintro e w2 ⟨rfl, hb2⟩)
  go_ret
  exact ⟨rfl, hb2⟩
end Go.Proofs.Ytejjiiakficafaa
