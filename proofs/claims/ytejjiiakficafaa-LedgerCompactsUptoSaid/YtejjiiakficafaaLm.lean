/- A ledger in memory; Start, End, Open, Rows, Aborted, Stable, right. -/
import Derived.Test.YtejjiiakficafaaKe
namespace Go.Proofs.Ytejjiiakficafaa
open Go.RowKit Go.Shelf Go.Maps
attribute [local go_sem] Oper.semAt_some

structure GoodL (L : Lg) (nn : Nat) : Prop where
  m : GoodM L.m nn
  rl : L.rows.length ≤ 64 * nn
  ol : L.opn.length ≤ nn
  gl : L.gone.length ≤ nn
  s0 : 0 ≤ L.start
  sf : L.start ≤ L.fin
  ff : L.fin ≤ 64 * nn
  key : ∀ r ∈ L.rows, r.rc.key.size ≤ 140737488351232
  off : ∀ r ∈ L.rows, 0 ≤ r.off ∧ r.off < L.fin
  fst : ∀ t ∈ L.opn, 0 ≤ t.first ∧ t.first < L.fin

/-- w holds the ledger L in block lb, its table in tb and mb, its rows in slices of its own. -/
structure LgAt (w : World) (n0 lb tb mb nn : Nat) (rA : Option Addr) (rc : Nat) (oA : Option Addr) (oc : Nat) (gA : Option Addr) (gc : Nat) (L : Lg) : Prop where
  blk : Blk w lb (lgL tb L.start L.fin (.slice rA L.rows.length rc) (.slice oA L.opn.length oc) (.slice gA L.gone.length gc))
  lty : TyAt w lb 64
  tab : Blk w tb [.map (some mb)]
  tty : TyAt w tb 88
  im : IM Try.prog 3 w mb nn stV L.m
  rows : w.ownsRow n0 51 6 (.slice rA L.rows.length rc) L.rows.length (L.rows.flatMap rwL)
  opn : w.ownsRow n0 82 2 (.slice oA L.opn.length oc) L.opn.length (L.opn.flatMap txL)
  gone : w.ownsRow n0 79 3 (.slice gA L.gone.length gc) L.gone.length (L.gone.flatMap gnL)
  low : lb < n0 ∧ tb < n0 ∧ mb < n0 ∧ n0 ≤ w.heap.size
  good : GoodL L nn

/-- The blocks of a ledger. -/
def isOf (lb tb mb : Nat) (rA oA gA : Option Addr) (b : Nat) : Prop := b = lb ∨ b = tb ∨ b = mb ∨ rA = some ⟨b, 0, none⟩ ∨ oA = some ⟨b, 0, none⟩ ∨ gA = some ⟨b, 0, none⟩

theorem own_at {w : World} {base : Nat} {e : TypeId} {size n c n' : Nat} {A : Option Addr} {xs : List Value} (h : w.ownsRow base e size (.slice A n c) n' xs) {g : Nat} (hg : (Value.slice A n c).ownBlock = some g) : A = some ⟨g, 0, none⟩ := by
  obtain ⟨_, ⟨e1, _⟩ | ⟨g', cap, cur, e1, _⟩⟩ := h
  · cases e1; cases hg
  · cases e1
    simp [Value.ownBlock] at hg
    rw [hg]
theorem own_block {n c g : Nat} {A : Option Addr} (h : A = some ⟨g, 0, none⟩) : (Value.slice A n c).ownBlock = some g := by rw [h]; rfl

section
variable {w w' : World} {n0 lb tb mb nn rc oc gc : Nat} {rA oA gA : Option Addr} {L : Lg}
theorem LgAt.lt (h : LgAt w n0 lb tb mb nn rA rc oA oc gA gc L) {b : Nat} (hb : isOf lb tb mb rA oA gA b) : b < w.heap.size := by
  rcases hb with rfl | rfl | rfl | hb | hb | hb
  · exact h.blk.lt
  · exact h.tab.lt
  · exact h.im.lt
  · exact ownsRow_lt h.rows (own_block hb)
  · exact ownsRow_lt h.opn (own_block hb)
  · exact ownsRow_lt h.gone (own_block hb)
theorem LgAt.keep (h : LgAt w n0 lb tb mb nn rA rc oA oc gA gc L) (hk : ∀ b, isOf lb tb mb rA oA gA b → w'.heap[b]? = w.heap[b]?) (hs : w.heap.size ≤ w'.heap.size) : LgAt w' n0 lb tb mb nn rA rc oA oc gA gc L :=
  ⟨h.blk.of_heap (hk _ (.inl rfl)), h.lty.of_heap (hk _ (.inl rfl)), h.tab.of_heap (hk _ (.inr (.inl rfl))), h.tty.of_heap (hk _ (.inr (.inl rfl))), h.im.of_heap (hk _ (.inr (.inr (.inl rfl)))),
    ownsRow_keep h.rows (fun _ e => hk _ (.inr (.inr (.inr (.inl (own_at h.rows e)))))), ownsRow_keep h.opn (fun _ e => hk _ (.inr (.inr (.inr (.inr (.inl (own_at h.opn e))))))), ownsRow_keep h.gone (fun _ e => hk _ (.inr (.inr (.inr (.inr (.inr (own_at h.gone e))))))),
    ⟨h.low.1, h.low.2.1, h.low.2.2.1, Nat.le_trans h.low.2.2.2 hs⟩, h.good⟩
theorem LgAt.below (h : LgAt w n0 lb tb mb nn rA rc oA oc gA gc L) (hb : Below w.heap.size w w') : LgAt w' n0 lb tb mb nn rA rc oA oc gA gc L :=
  h.keep (fun b hh => hb.block b (h.lt hh)) hb.size
theorem LgAt.alloc (h : LgAt w n0 lb tb mb nn rA rc oA oc gA gc L) (o : Obj) : LgAt (w.alloc o) n0 lb tb mb nn rA rc oA oc gA gc L := h.below (bl_alloc (Below.refl _ _) _)
theorem LgAt.rowsAt (h : LgAt w n0 lb tb mb nn rA rc oA oc gA gc L) : LAt w rA 6 rwL L.rows := LAt.of_own rwL_len h.rows rfl
theorem LgAt.opnAt (h : LgAt w n0 lb tb mb nn rA rc oA oc gA gc L) : LAt w oA 2 txL L.opn := LAt.of_own txL_len h.opn rfl
theorem LgAt.goneAt (h : LgAt w n0 lb tb mb nn rA rc oA oc gA gc L) : LAt w gA 3 gnL L.gone := LAt.of_own gnL_len h.gone rfl
theorem LgAt.c0 (h : LgAt w n0 lb tb mb nn rA rc oA oc gA gc L) : w.cell? ⟨lb, 0, none⟩ = some (.pointer (some ⟨tb, 0, none⟩)) := h.blk.get rfl
theorem LgAt.c1 (h : LgAt w n0 lb tb mb nn rA rc oA oc gA gc L) : w.cell? ⟨lb, 1, none⟩ = some (.int .i64 L.start) := h.blk.get rfl
theorem LgAt.c2 (h : LgAt w n0 lb tb mb nn rA rc oA oc gA gc L) : w.cell? ⟨lb, 2, none⟩ = some (.int .i64 L.fin) := h.blk.get rfl
theorem LgAt.c3 (h : LgAt w n0 lb tb mb nn rA rc oA oc gA gc L) : w.cell? ⟨lb, 3, none⟩ = some (.slice rA L.rows.length rc) := h.blk.get rfl
theorem LgAt.c4 (h : LgAt w n0 lb tb mb nn rA rc oA oc gA gc L) : w.cell? ⟨lb, 4, none⟩ = some (.slice oA L.opn.length oc) := h.blk.get rfl
theorem LgAt.c5 (h : LgAt w n0 lb tb mb nn rA rc oA oc gA gc L) : w.cell? ⟨lb, 5, none⟩ = some (.slice gA L.gone.length gc) := h.blk.get rfl

set_option maxHeartbeats 400000 in
theorem start_any (h : LgAt w n0 lb tb mb nn rA rc oA oc gA gc L) : Calls Try.prog 17 #[.pointer (some ⟨lb, 0, none⟩)] w fun e w' => e = .returned (.int .i64 L.start) ∧ w = w' := by
  have c0 := h.c0
  have c1 := h.c1
  go_enter Try.func17, Try.ntmps17
  go_wp2_with (go_at_call 24; refine (lnone_any lb tb _ c0).mono ?_; rintro e w' ⟨rfl, rfl⟩)
  go_ret
  exact ⟨rfl, rfl⟩
set_option maxHeartbeats 400000 in
theorem end_any (h : LgAt w n0 lb tb mb nn rA rc oA oc gA gc L) : Calls Try.prog 11 #[.pointer (some ⟨lb, 0, none⟩)] w fun e w' => e = .returned (.int .i64 L.fin) ∧ w = w' := by
  have c0 := h.c0
  have c2 := h.c2
  go_enter Try.func11, Try.ntmps11
  go_wp2_with (go_at_call 24; refine (lnone_any lb tb _ c0).mono ?_; rintro e w' ⟨rfl, rfl⟩)
  go_ret
  exact ⟨rfl, rfl⟩
set_option maxHeartbeats 400000 in
theorem open_any (h : LgAt w n0 lb tb mb nn rA rc oA oc gA gc L) (hn : nn ≤ 1000000000) : Calls Try.prog 19 #[.pointer (some ⟨lb, 0, none⟩)] w fun e w' => ∃ A' c', e = .returned (.slice A' L.opn.length c') ∧ w'.ownsRow w.heap.size 82 2 (.slice A' L.opn.length c') L.opn.length (L.opn.flatMap txL) ∧ Below w.heap.size w w' := by
  have c0 := h.c0
  have c4 := h.c4
  have hl := h.good.ol
  have hA := h.opnAt
  go_enter Try.func19, Try.ntmps19
  go_wp2_with (first | (go_at_call 24; refine (lnone_any lb tb _ c0).mono ?_; rintro e w' ⟨rfl, rfl⟩) | (go_at_call 39; refine (cloneT_any oA oc L.opn _ hA (by omega)).mono ?_; rintro e w2 ⟨A2, c2, rfl, hown, hb⟩))
  go_ret
  exact ⟨A2, c2, rfl, hown, hb⟩
set_option maxHeartbeats 400000 in
theorem rows_any (h : LgAt w n0 lb tb mb nn rA rc oA oc gA gc L) (hn : nn ≤ 1000000000) : Calls Try.prog 18 #[.pointer (some ⟨lb, 0, none⟩)] w fun e w' => ∃ A' c', e = .returned (.slice A' L.rows.length c') ∧ w'.ownsRow w.heap.size 51 6 (.slice A' L.rows.length c') L.rows.length (L.rows.flatMap rwL) ∧ Below w.heap.size w w' := by
  have c0 := h.c0
  have c3 := h.c3
  have hl := h.good.rl
  have hA := h.rowsAt
  go_enter Try.func18, Try.ntmps18
  go_wp2_with (first | (go_at_call 24; refine (lnone_any lb tb _ c0).mono ?_; rintro e w' ⟨rfl, rfl⟩) | (go_at_call 38; refine (cloneR_any rA rc L.rows _ hA (by omega)).mono ?_; rintro e w2 ⟨A2, c2, rfl, hown, hb⟩))
  go_ret
  exact ⟨A2, c2, rfl, hown, hb⟩
set_option maxHeartbeats 400000 in
theorem aborted_any (h : LgAt w n0 lb tb mb nn rA rc oA oc gA gc L) (hn : nn ≤ 1000000000) : Calls Try.prog 20 #[.pointer (some ⟨lb, 0, none⟩)] w fun e w' => ∃ A' c', e = .returned (.slice A' L.gone.length c') ∧ w'.ownsRow w.heap.size 79 3 (.slice A' L.gone.length c') L.gone.length (L.gone.flatMap gnL) ∧ Below w.heap.size w w' := by
  have c0 := h.c0
  have c5 := h.c5
  have hl := h.good.gl
  have hA := h.goneAt
  go_enter Try.func20, Try.ntmps20
  go_wp2_with (first | (go_at_call 24; refine (lnone_any lb tb _ c0).mono ?_; rintro e w' ⟨rfl, rfl⟩) | (go_at_call 40; refine (cloneG_any gA gc L.gone _ hA (by omega)).mono ?_; rintro e w2 ⟨A2, c2, rfl, hown, hb⟩))
  go_ret
  exact ⟨A2, c2, rfl, hown, hb⟩

theorem stableF_snoc (f : Int) (l : List Tx) (i : Nat) (h : i < l.length) : stableF f (l.take (i + 1)) = min (stableF f (l.take i)) l[i].first := by
  rw [List.take_succ_eq_append_getElem h]
  unfold stableF
  rw [List.foldl_append]
  rfl
theorem stableF_in (f a b : Int) : ∀ (l : List Tx), a ≤ f → f ≤ b → (∀ t ∈ l, a ≤ t.first ∧ t.first ≤ b) → a ≤ stableF f l ∧ stableF f l ≤ f := by
  intro l
  induction l generalizing f with
  | nil => intro h1 _ _; exact ⟨h1, Int.le_refl _⟩
  | cons t l ih =>
    intro h1 h2 h3
    obtain ⟨k1, k2⟩ := h3 t (by simp)
    have := ih (min f t.first) (by omega) (by omega) (fun x hx => h3 x (by simp [hx]))
    unfold stableF at *
    rw [List.foldl_cons]
    omega

set_option maxHeartbeats 1000000 in
theorem stable_any (h : LgAt w n0 lb tb mb nn rA rc oA oc gA gc L) (hn : nn ≤ 1000000000) : Calls Try.prog 16 #[.pointer (some ⟨lb, 0, none⟩)] w fun e w' => e = .returned (.int .i64 L.stable) ∧ Below w.heap.size w w' := by
  have hol := h.good.ol
  go_enter Try.func16, Try.ntmps16
  go_wp2_with (first | (go_at_call 11; refine (end_any h).mono ?_; rintro e w' ⟨rfl, rfl⟩) | (go_at_call 19; refine (open_any h hn).mono ?_; rintro e w2 ⟨A2, c2, rfl, hown, hb⟩))
  have hL := LAt.of_own txL_len hown rfl
  go_loopw [3, 11] (fun v u wr => ∃ i : Nat, v = .int .i64 (stableF L.fin (L.opn.take i)) ∧ u = .int .i64 i ∧ i ≤ L.opn.length ∧ Below w2.heap.size w2 wr) (fun _ u _ => L.opn.length - (intOf u).toNat)
  case atStart => exact ⟨0, rfl, rfl, Nat.zero_le _, Below.refl _ _⟩
  case round =>
    obtain ⟨i, rfl, rfl, hi, hb2⟩ := hrel
    by_cases hlt : i < L.opn.length
    · obtain ⟨b, o, rfl, hbl, ca⟩ := (hL.below hb2) i hlt
      have hsn := Lib.hid (stableF_snoc L.fin L.opn i hlt)
      generalize L.opn[i] = x at ca hsn
      have a0 : wr.cell? ⟨b, o + i * 2, none⟩ = some (.int .i64 x.prod) := ca 0 _ rfl
      have a1 : wr.cell? ⟨b, o + i * 2 + 1, none⟩ = some (.int .i64 x.first) := ca 1 _ rfl
      clear ca
      go_wp2_with fail
      exact ⟨⟨i + 1, by rw [hsn.out], by go_num, by omega, bl_alloc hb2 _⟩, by simp [intOf]; omega⟩
    · obtain rfl : i = L.opn.length := by omega
      rw [List.take_length]
      go_wp2_with fail
      go_ret
      exact ⟨rfl, bl_tr hb hb2⟩
end

set_option maxHeartbeats 400000 in
theorem lnew_any (w : World) :
    Calls Try.prog 8 #[] w fun e w' => e = .returned (.pointer (some ⟨w.heap.size + 1 + 1, 0, none⟩)) ∧ w' = ((w.alloc (.map #[] 0)).alloc (.cells #[.map (some w.heap.size)] 88)).alloc (.cells #[.pointer (some ⟨w.heap.size + 1, 0, none⟩), .int .i64 0, .int .i64 0, .slice none 0 0, .slice none 0 0, .slice none 0 0] 64) := by
  go_enter Try.func8, Try.ntmps8
  go_wp2_with (go_at_call 21; refine (new_any _).mono ?_; rintro e w' ⟨rfl, rfl⟩)
  go_ret
  exact ⟨rfl, rfl⟩

theorem goodL0 : GoodL lg0 0 := ⟨GoodM.nil 0, by simp [lg0], by simp [lg0], by simp [lg0], by simp [lg0], by simp [lg0], by simp [lg0], by simp [lg0], by simp [lg0], by simp [lg0]⟩
/-- A new ledger. -/
theorem LgAt.new {w : World} {n0 : Nat} (h0 : n0 = w.heap.size + 3) :
    LgAt (((w.alloc (.map #[] 0)).alloc (.cells #[.map (some w.heap.size)] 88)).alloc (.cells #[.pointer (some ⟨w.heap.size + 1, 0, none⟩), .int .i64 0, .int .i64 0, .slice none 0 0, .slice none 0 0, .slice none 0 0] 64)) n0 (w.heap.size + 1 + 1) (w.heap.size + 1) w.heap.size 0 none 0 none 0 none 0 lg0 := by
  subst h0
  refine ⟨?_, ?_, ?_, ?_, ((IM.made w Try.prog 3 stV).alloc _).alloc _, World.ownsRow_nil _ _ _ _, World.ownsRow_nil _ _ _ _, World.ownsRow_nil _ _ _ _, ⟨by omega, by omega, by omega, by simp⟩, goodL0⟩
  · exact Blk.new' _ _ (by simp)
  · exact ty_new' _ _ (by simp)
  · exact (Blk.new' _ _ (by simp)).alloc _
  · exact (ty_new' _ _ (by simp)).alloc _

def enL (kind n k p ep s : Int) (t : Bool) (A : Option Addr) (m c : Nat) : List Value := [.int .i64 kind, .int .i64 n, .int .i64 k, .int .i64 p, .int .i64 ep, .int .i64 s, .bool t, .slice A m c]

set_option maxHeartbeats 2000000 in
theorem right_any (x : En) (A : Option Addr) (c : Nat) (w : World) (hc : RecsAt w A x.b.rs) (hs : okI x.b.s) :
    Calls Try.prog 25 #[.agg #[.int .i64 x.kind, .int .i64 x.n, .int .i64 x.b.k, .int .i64 x.b.p, .int .i64 x.b.ep, .int .i64 x.b.s, .bool x.b.t, .slice A x.b.rs.length c]] w fun e w' => e = .returned (.bool (rightB x)) ∧ Below w.heap.size w w' := by
  obtain ⟨kind, n, k, p, ep, s, t, rs⟩ := x
  dsimp only at hc hs ⊢
  have hb1 := bl_alloc (bl_alloc (Below.refl w.heap.size w) (.cells #[.int .i64 kind, .int .i64 n, .int .i64 k, .int .i64 p, .int .i64 ep, .int .i64 s, .bool t, .slice A rs.length c] 32)) (.cells #[.int .i64 k, .int .i64 p, .int .i64 ep, .int .i64 s, .bool t, .slice A rs.length c] 30)
  by_cases h1 : kind = 1
  · subst h1
    by_cases hn : n = 0
    · subst hn
      have HR := Lib.hid (show rightB ⟨1, 0, k, p, ep, s, t, rs⟩ = decide (checkE k p ep s t rs = 0) by simp [rightB])
      go_enter Try.func25, Try.ntmps25
      go_wp2_with (go_at_call 42; refine (check_any k p ep s t rs A c _ (hc.below hb1) hs).mono ?_; rintro e w2 ⟨rfl, hb2⟩)
      go_ret
      exact ⟨ret_bool (by rw [HR.out]; rw [beqD]), bl_tr hb1 hb2⟩
    · have HR := Lib.hid (show rightB ⟨1, n, k, p, ep, s, t, rs⟩ = false by simp [rightB, hn])
      go_enter Try.func25, Try.ntmps25
      go_wp2_with fail
      go_ret
      exact ⟨ret_bool (by rw [HR.out]), hb1⟩
  · by_cases h2 : kind = 2 ∨ kind = 3
    · have HR := Lib.hid (show rightB ⟨kind, n, k, p, ep, s, t, rs⟩ = (decide (0 ≤ n) && decide (n ≤ 281474976710656) && decide (rs.length = 0) && decide (k = 0) && decide (p = 0) && decide (ep = 0) && decide (s = 0) && !t) by simp [rightB, h1, h2])
      clear h1
      rcases h2 with h2 | h2
      all_goals
        subst h2
        go_enter Try.func25, Try.ntmps25
        go_wp2_with fail
        all_goals go_ret
        all_goals exact ⟨ret_bool (by rw [HR.out]; clear HR hb1 hc hs; first | (simp_all; done) | (simp_all; omega)), bl_alloc (bl_alloc (Below.refl _ _) _) _⟩
    · have HR := Lib.hid (show rightB ⟨kind, n, k, p, ep, s, t, rs⟩ = false by simp [rightB, h1, h2])
      have h21 : ¬ kind = 2 := fun e => h2 (.inl e)
      have h31 : ¬ kind = 3 := fun e => h2 (.inr e)
      clear h2
      go_enter Try.func25, Try.ntmps25
      go_wp2_with fail
      go_ret
      exact ⟨ret_bool (by rw [HR.out]), hb1⟩
end Go.Proofs.Ytejjiiakficafaa
