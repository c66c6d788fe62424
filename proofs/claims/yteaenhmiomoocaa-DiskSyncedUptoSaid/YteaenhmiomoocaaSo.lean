/- Rows of a law's own beside a disk, told by their type; and what DiskSynced says, as data. -/
import Derived.Test.YteaenhmiomoocaaTr
import Derived.Test.YteaenhmiomoocaaHd
namespace Go.Proofs.Yteaenhmiomoocaa
open Go.RowKit Go.Shelf Go.Maps
attribute [local go_sem] Oper.semAt_some

/-- From A on lie the cells news, of m elements; nothing is asked of A where there is none. -/
def SrcAt (w : World) (A : Option Addr) (m size : Nat) (news : List Value) : Prop :=
  news.length = m * size ∧ (m ≠ 0 → ∃ ad, A = some ad ∧ ∀ j u, news[j]? = some u → w.cell? (ad.add j) = some u)

theorem ownsRow_empty (w : World) (e : TypeId) (size base : Nat) (hb : base ≤ w.heap.size) : (w.alloc (.cells #[] e)).ownsRow base e size (.slice (some ⟨w.heap.size, 0, none⟩) 0 0) 0 [] :=
  ⟨by simp, .inr ⟨w.heap.size, 0, #[], rfl, hb, by show (w.heap.push _)[_]? = _; simp, Nat.le_refl _, Nat.zero_le _, by simp, by simp⟩⟩

theorem append_nothing {P : Program} {w : World} {base : Nat} {t ty e : TypeId} {i : TypeInfo} {size : Nat} (ht : P.underlying t = some (.slice e)) (hi : P.info? e = some i)
    {v : Value} {n : Nat} {xs : List Value} (hown : w.ownsRow base e size v n xs) (c : Nat) : (Builtin.append_ #[t, t] ty #[v, .slice none 0 c]).run P w = .ok v w := by
  obtain ⟨_, h | ⟨g, cap, cur, rfl, _, _, hle, _⟩⟩ := hown
  · obtain ⟨rfl, rfl⟩ := h
    simp [Builtin.append_, run_underlying ht, sizeOf, typeInfo, hi, Builtin.lenOf, Builtin.firstCells]
  · simp [Builtin.append_, run_underlying ht, sizeOf, typeInfo, hi, Builtin.lenOf, Builtin.firstCells, storeCells, hle]

/-- A slice of the call's own that owns a row is nil or begins a block at or beyond base. -/
theorem run_append_src {P : Program} {w : World} (base : Nat) (t ty e : TypeId) (i : TypeInfo) (z : Value) (size bytes : Nat) (ht : P.underlying t = some (.slice e)) (hi : P.info? e = some i) (hz : i.zero = some z)
    (hsize : i.size = size) (hby : i.bytes = bytes) (hzs : z.cells.size = size) (hsz : 0 < size) (v : Value) (n : Nat) (xs : List Value) (hown : w.ownsRow base e size v n xs)
    (A : Option Addr) (m c : Nat) (news : List Value) (hs : SrcAt w A m size news) (h1 : ∀ u ∈ news, u.oneCell' = true) (h63 : n + m ≤ maxLen) (hbytes : (n + m) * bytes ≤ 140737488355328) (hbase : base ≤ w.heap.size) :
    ∃ v' w', (Builtin.append_ #[t, t] ty #[v, .slice A m c]).run P w = .ok v' w' ∧ w'.ownsRow base e size v' (n + m) (xs ++ news) ∧ w.grownBy w' v.ownBlock := by
  have hat : ∀ ad, A = some ad → ∃ v' w', (Builtin.append_ #[t, t] ty #[v, .slice A m c]).run P w = .ok v' w' ∧ w'.ownsRow base e size v' (n + m) (xs ++ news) ∧ w.grownBy w' v.ownBlock := by
    rintro ad rfl
    have hn : ∀ j u, news[j]? = some u → w.cell? (ad.add j) = some u := by
      by_cases hm : m = 0
      · have : news = [] := List.eq_nil_of_length_eq_zero (by rw [hs.1, hm, Nat.zero_mul])
        subst this
        intro j u h; simp at h
      · obtain ⟨a', h, hc⟩ := hs.2 hm
        cases h
        exact hc
    obtain ⟨v', w', hr, ho, hg, _⟩ := run_append_own_at (P := P) w base t ty e i z size bytes ht hi hz hsize hby hzs hsz v n xs hown ad m c news hs.1 hn h1 h63 hbytes hbase
    exact ⟨v', w', hr, ho, hg⟩
  cases A with
  | some ad => exact hat ad rfl
  | none =>
    by_cases hm : m = 0
    · subst hm
      have : news = [] := List.eq_nil_of_length_eq_zero (by rw [hs.1, Nat.zero_mul])
      subst this
      exact ⟨v, w, append_nothing ht hi hown c, by simpa using hown, World.grownBy.refl _ _⟩
    · obtain ⟨_, h, _⟩ := hs.2 hm
      cases h

theorem wpList_append_src {P : Program} {ops : Array Oper} {rest : List Oper} {o : Oper} {a : Act} {w : World} {Q : Exit → Act → World → Prop} (hgd : o.guard = none) (s x : Operand) (t : TypeId)
    (ho : o.op = .call { callee := .builtin .append, args := #[s, x], argTypes := #[t, t] })
    (base : Nat) (e : TypeId) (i : TypeInfo) (z : Value) (size bytes : Nat) (ht : P.underlying t = some (.slice e)) (hi : P.info? e = some i) (hz : i.zero = some z)
    (hsize : i.size = size) (hby : i.bytes = bytes) (hzs : z.cells.size = size) (hsz : 0 < size) (v : Value) (n : Nat) (xs : List Value) (hs : a.eval s = v) (hown : w.ownsRow base e size v n xs)
    (A : Option Addr) (m c : Nat) (news : List Value) (hx : a.eval x = .slice A m c) (hsrc : SrcAt w A m size news) (h1 : ∀ u ∈ news, u.oneCell' = true) (h63 : n + m ≤ maxLen) (hbytes : (n + m) * bytes ≤ 140737488355328) (hbase : base ≤ w.heap.size)
    (h : ∀ v' w', w'.ownsRow base e size v' (n + m) (xs ++ news) → w.grownBy w' v.ownBlock → wpList P ops Q rest (a.put o.dst v') w') : wpList P ops Q (o :: rest) a w := by
  refine wpList_plain hgd fun _ hK => ?_
  obtain ⟨v', w', hr, h2, h3⟩ := run_append_src (P := P) (w := w) base t o.type e i z size bytes ht hi hz hsize hby hzs hsz v n xs hown A m c news hsrc h1 h63 hbytes hbase
  unfold Oper.wp execOp
  simp only [ho, resolve, invoke, builtin, Sem.run_bind, Sem.run_pure, Result.andThen_ok, List.map_toArray, List.map_cons, List.map_nil, hs, hx, hr]
  exact hK _ _ (h v' w' h2 h3)

theorem wpList_append_srcT {P : Program} {ops : Array Oper} {rest : List Oper} {o : Oper} {a : Act} {w : World} {Q : Exit → Act → World → Prop} (hgd : o.guard = none) (s x : Operand) (t : TypeId)
    (ho : o.op = .call { callee := .builtin .append, args := #[s, x], argTypes := #[t, t] })
    (base : Nat) (e : TypeId) (i : TypeInfo) (z : Value) (size bytes : Nat) (ht : P.underlying t = some (.slice e)) (hi : P.info? e = some i) (hz : i.zero = some z)
    (hsize : i.size = size) (hby : i.bytes = bytes) (hzs : z.cells.size = size) (hsz : 0 < size) (v : Value) (n : Nat) (xs : List Value) (hs : a.eval s = v) (hown : w.ownsRow base e size v n xs)
    (A : Option Addr) (m c : Nat) (news : List Value) (hx : a.eval x = .slice A m c) (hsrc : SrcAt w A m size news) (h1 : ∀ u ∈ news, u.oneCell' = true) (h63 : n + m ≤ maxLen) (hbytes : (n + m) * bytes ≤ 140737488355328) (hbase : base ≤ w.heap.size)
    (h : ∀ A' c' w', w'.ownsRow base e size (.slice A' (n + m) c') (n + m) (xs ++ news) → w.grownBy w' v.ownBlock → wpList P ops Q rest (a.put o.dst (.slice A' (n + m) c')) w') : wpList P ops Q (o :: rest) a w :=
  wpList_append_src hgd s x t ho base e i z size bytes ht hi hz hsize hby hzs hsz v n xs hs hown A m c news hx hsrc h1 h63 hbytes hbase fun v' w' h2 h3 => by
    obtain ⟨A', c', rfl, _⟩ := ownsRow_tells h2
    exact h A' c' w' h2 h3
/-- Block b is a row of elements of type T. -/
def TyAt (w : World) (b : Nat) (T : TypeId) : Prop := ∃ cs fz, w.heap[b]? = some (.cells cs T fz)
theorem TyAt.of_heap {w w' : World} {b : Nat} {T : TypeId} (h : TyAt w b T) (hh : w'.heap[b]? = w.heap[b]?) : TyAt w' b T := by
  obtain ⟨cs, fz, e⟩ := h
  exact ⟨cs, fz, hh.trans e⟩
theorem TyAt.lt {w : World} {b : Nat} {T : TypeId} (h : TyAt w b T) : b < w.heap.size := by
  obtain ⟨cs, fz, e⟩ := h
  exact (Array.getElem?_eq_some_iff.1 e).1
theorem TyAt.ne {w : World} {b b' : Nat} {T T' : TypeId} (h : TyAt w b T) (h' : TyAt w b' T') (hne : T ≠ T') : b ≠ b' := by
  rintro rfl
  obtain ⟨cs, fz, e⟩ := h
  obtain ⟨cs', fz', e'⟩ := h'
  rw [e] at e'
  simp only [Option.some.injEq, Obj.cells.injEq] at e'
  exact hne e'.2.1
theorem TyAt.setCell {w : World} {b : Nat} {T : TypeId} (h : TyAt w b T) (a : Addr) (v : Value) : TyAt (w.setCell a v) b T := by
  obtain ⟨cs, fz, e⟩ := h
  by_cases hb : a.block = b
  · subst hb
    refine ⟨if a.spot.isSome then cs else cs.setIfInBounds a.off v, fz, ?_⟩
    simp [World.setCell, Array.getElem?_modify, e]
  · exact ⟨cs, fz, by rw [Below.heap_setCell _ _ _ _ (Ne.symm hb)]; exact e⟩
theorem ownsRow_ty {w : World} {base : Nat} {e : TypeId} {size : Nat} {v : Value} {n : Nat} {xs : List Value} (h : w.ownsRow base e size v n xs) {g : Nat} (hg : v.ownBlock = some g) : TyAt w g e := by
  obtain ⟨_, ⟨rfl, _⟩ | ⟨g', cap, cur, rfl, hb, hh, _⟩⟩ := h
  · cases hg
  · simp [Value.ownBlock] at hg
    subst hg
    exact ⟨_, _, hh⟩

theorem TyAt.new (w : World) (cs : Array Value) (T : TypeId) : TyAt (w.alloc (.cells cs T)) w.heap.size T := ⟨cs, _, by show (w.heap.push _)[_]? = _; simp; rfl⟩
theorem TyAt.below {w w' : World} {b : Nat} {T : TypeId} (h : TyAt w b T) (hb : Below w.heap.size w w') : TyAt w' b T := h.of_heap (hb.block b h.lt)

set_option maxRecDepth 100000 in
set_option maxHeartbeats 1000000 in
theorem full_ty (c : UInt8) (w : World) :
    Calls Try.prog 14 #[.int .u8 c.toNat] w fun e w' => e = .returned (.slice (some ⟨w.heap.size, 0, none⟩) 256 256) ∧ Blk w' w.heap.size (tC (fullT c)) ∧ TyAt w' w.heap.size 5 ∧ Below w.heap.size w w' := by
  have hmk := make30
  go_enter Try.func14, Try.ntmps14
  go_wp2_with fail
  go_loopw [4] (fun i wr => ∃ k : Nat, i = .int .i64 (k : Int) ∧ k ≤ 256 ∧ Blk wr w.heap.size (tC (List.replicate k c ++ List.replicate (256 - k) 0)) ∧ TyAt wr w.heap.size 5 ∧ Below w.heap.size w wr) (fun i _ => 256 - (intOf i).toNat)
  case atStart => exact ⟨0, rfl, by omega, Blk.new' _ _ rfl, TyAt.new _ _ _, bl_alloc (Below.refl _ _) _⟩
  case round =>
    obtain ⟨k, rfl, hk, hB, hT, hb⟩ := hrel
    have hu := hB.unf
    have hl := hB.lt
    by_cases hlt : k < 256
    · have HS := Lib.hid (full_set c k hlt)
      obtain ⟨u0, hu0⟩ : ∃ u0, (tC (List.replicate k c ++ List.replicate (256 - k) 0))[k]? = some u0 := ⟨_, List.getElem?_eq_getElem (by simp; omega)⟩
      have q := hB.get hu0
      go_wp2
      go_roundw
      case rel => exact ⟨k + 1, by go_num, by omega, blk_eq (hB.set_same _ _) HS.out, hT.setCell _ _, bl_set hb (Nat.le_refl _) _⟩
      case measure => simp [intOf]; omega
    · obtain rfl : k = 256 := by omega
      go_wp2
      go_ret
      exact ⟨rfl, blk_eq hB (by rw [Nat.sub_self, List.replicate_zero, List.append_nil]; rfl), hT, hb⟩


/-- Block b is a law's own row of type T, its cells vs; it stands behind the disk's blocks. -/
structure Own (w : World) (h b : Nat) (T : TypeId) (vs : List Value) : Prop where
  blk : Blk w b vs
  ty : TyAt w b T
  lo : h + 4 ≤ b
theorem Own.below {w w' : World} {h b : Nat} {T : TypeId} {vs : List Value} (H : Own w h b T vs) (hb : Below w.heap.size w w') : Own w' h b T vs := ⟨H.blk.below hb H.blk.lt, H.ty.below hb, H.lo⟩
theorem Own.fr {w w' : World} {h nb b : Nat} {T : TypeId} {vs : List Value} {us us' : List (Int × Value)} {d : Dsk} (H : Own w h b T vs) (D : DkAt w h nb us d) (F : FrD w w' h us us') (hT : T ≠ 58) : Own w' h b T vs := by
  have hh : w'.heap[b]? = w.heap[b]? := F.block b H.blk.lt (.inr (by have := H.lo; omega)) fun i v hv e => by
    obtain ⟨l, A, c, _, _, hr⟩ := D.rows i v hv
    exact H.ty.ne (ownsRow_ty hr e) hT rfl
  exact ⟨H.blk.of_heap hh, H.ty.of_heap hh, H.lo⟩
theorem Own.set {w : World} {h b : Nat} {T : TypeId} {vs : List Value} (H : Own w h b T vs) (j : Nat) (v : Value) : Own (w.setCell ⟨b, j, none⟩ v) h b T (vs.set j v) := ⟨H.blk.set_same j v, H.ty.setCell _ _, H.lo⟩
theorem Own.set_ne {w : World} {h b : Nat} {T : TypeId} {vs : List Value} (H : Own w h b T vs) {b' : Nat} (hne : b' ≠ b) (j : Nat) (v : Value) : Own (w.setCell ⟨b', j, none⟩ v) h b T vs := ⟨H.blk.set_ne hne v, H.ty.setCell _ _, H.lo⟩
theorem DkAt.set_hi {w : World} {h nb b : Nat} {us : List (Int × Value)} {d : Dsk} (D : DkAt w h nb us d) {T : TypeId} (hT : TyAt w b T) (hne : T ≠ 58) (hb : h + 4 ≤ b) (j : Nat) (v : Value) : DkAt (w.setCell ⟨b, j, none⟩ v) h nb us d :=
  D.keep fun c hc => Below.heap_setCell w ⟨b, j, none⟩ v c (by
    rcases hc with hc | ⟨i, u, h1, h2⟩
    · simp; omega
    · obtain ⟨l, A, c', _, _, hr⟩ := D.rows i u h1
      intro e
      simp only at e
      rw [e] at h2
      exact hT.ne (ownsRow_ty hr h2) hne rfl)

/-- A slice over a whole block of 256 bytes. -/
def slV (g : Nat) : Value := .slice (some ⟨g, 0, none⟩) 256 256
/-- Each block that gs names holds its text. -/
def Txs (w : World) (h : Nat) (gs : List Nat) (ts : List Tx) : Prop := gs.length = ts.length ∧ ∀ (j : Nat) (g : Nat) (t : Tx), gs[j]? = some g → ts[j]? = some t → Own w h g 5 (tC t)
theorem Txs.below {w w' : World} {h : Nat} {gs : List Nat} {ts : List Tx} (H : Txs w h gs ts) (hb : Below w.heap.size w w') : Txs w' h gs ts := ⟨H.1, fun j g t h1 h2 => (H.2 j g t h1 h2).below hb⟩
theorem Txs.fr {w w' : World} {h nb : Nat} {gs : List Nat} {ts : List Tx} {us us' : List (Int × Value)} {d : Dsk} (H : Txs w h gs ts) (D : DkAt w h nb us d) (F : FrD w w' h us us') : Txs w' h gs ts := ⟨H.1, fun j g t h1 h2 => (H.2 j g t h1 h2).fr D F (by decide)⟩
theorem Txs.setOther {w : World} {h b : Nat} {gs : List Nat} {ts : List Tx} (H : Txs w h gs ts) {T : TypeId} (hT : TyAt w b T) (hne : T ≠ 5) (j : Nat) (v : Value) : Txs (w.setCell ⟨b, j, none⟩ v) h gs ts :=
  ⟨H.1, fun i g t h1 h2 => (H.2 i g t h1 h2).set_ne (fun e => by subst e; exact hT.ne (H.2 i b t h1 h2).ty hne rfl) j v⟩
theorem Txs.set {w : World} {h : Nat} {gs : List Nat} {ts : List Tx} (H : Txs w h gs ts) {k g : Nat} {t : Tx} (ho : Own w h g 5 (tC t)) : Txs w h (gs.set k g) (ts.set k t) := by
  refine ⟨by simp [H.1], fun j g' t' h1 h2 => ?_⟩
  rw [List.getElem?_set] at h1 h2
  by_cases e : k = j
  · subst e
    simp only [if_true] at h1 h2
    have hl := H.1
    by_cases hk : k < gs.length
    · rw [if_pos hk] at h1
      rw [if_pos (by omega)] at h2
      cases h1
      cases h2
      exact ho
    · rw [if_neg hk] at h1
      cases h1
  · rw [if_neg e] at h1 h2
    exact H.2 j g' t' h1 h2
theorem Txs.snoc {w : World} {h : Nat} {gs : List Nat} {ts : List Tx} (H : Txs w h gs ts) {g : Nat} {t : Tx} (ho : Own w h g 5 (tC t)) : Txs w h (gs ++ [g]) (ts ++ [t]) := by
  refine ⟨by simp [H.1], fun j g' t' h1 h2 => ?_⟩
  have hl := H.1
  by_cases hj : j < gs.length
  · rw [List.getElem?_append_left hj] at h1
    rw [List.getElem?_append_left (by omega)] at h2
    exact H.2 j g' t' h1 h2
  · rw [List.getElem?_append_right (by omega)] at h1 h2
    rw [hl] at h1
    have h0 : j - ts.length = 0 := by
      have := (List.getElem?_eq_some_iff.1 h2).1
      simp at this; omega
    rw [h0] at h1 h2
    simp at h1 h2
    subst h1 h2
    exact ho

/-- What is sure, what is last, what is dirty, of a disk on which no crash came. -/
structure SyInv (d : Dsk) (sT lT : List Tx) (dT : List Bool) : Prop where
  ls : sT = d.ts
  ll : lT.length = d.ts.length
  ld : dT.length = d.ts.length
  last : ∀ (j : Nat) t, lT[j]? = some t → t = ((lookI d.vs (j : Int)).map lastT).getD (d.ts[j]?.getD [])
  dirty : ∀ (j : Nat) b, dT[j]? = some b → b = (lookI d.vs (j : Int)).isSome
  bad : d.bad = []
theorem lastT_snoc (l : List Tx) (t : Tx) : lastT (l ++ [t]) = t := by simp [lastT]
theorem SyInv.write {d : Dsk} {sT lT : List Tx} {dT : List Bool} (H : SyInv d sT lT dT) (k : Nat) (t : Tx) : SyInv (writeS d (k : Int) t) sT (lT.set k t) (dT.set k true) := by
  refine ⟨H.ls, by simp [H.ll, writeS], by simp [H.ld, writeS], fun j u hj => ?_, fun j b hj => ?_, H.bad⟩
  · rw [List.getElem?_set] at hj
    simp only [writeS, lookI_put]
    by_cases e : k = j
    · subst e
      simp only [if_true] at hj ⊢
      split at hj
      · cases hj; simp [lastT_snoc]
      · cases hj
    · rw [if_neg e] at hj
      rw [if_neg (by omega)]
      exact H.last j u hj
  · rw [List.getElem?_set] at hj
    simp only [writeS, lookI_put]
    by_cases e : k = j
    · subst e
      simp only [if_true] at hj ⊢
      split at hj
      · cases hj; rfl
      · cases hj
    · rw [if_neg e] at hj
      rw [if_neg (by omega)]
      exact H.dirty j b hj
theorem SyInv.sync {d : Dsk} {sT lT : List Tx} {dT : List Bool} (H : SyInv d sT lT dT) : SyInv (syncS d) lT lT (List.replicate dT.length false) := by
  have hts : lT = (syncS d).ts := by
    apply List.ext_getElem
    · simp only [syncS, syncT_length, H.ll]
    · intro j h1 h2
      have h3 := H.last j _ (List.getElem?_eq_getElem h1)
      have h4 : j < d.ts.length := by rw [← H.ll]; exact h1
      rw [h3]
      simp only [syncS, syncT, List.getElem_mapIdx, List.getElem?_eq_getElem h4, Option.getD_some]
      cases lookI d.vs (j : Int) <;> rfl
  refine ⟨hts, by rw [← hts], by simp only [syncS, syncT_length, List.length_replicate, H.ld], fun j u hj => ?_, fun j b hj => ?_, by simp [syncS, syncB, H.bad]⟩
  · have e : lookI (syncS d).vs (j : Int) = none := rfl
    rw [e, ← hts, hj]
    rfl
  · rw [List.getElem?_replicate] at hj
    split at hj
    · cases hj; rfl
    · cases hj
theorem crash1_other {d : Dsk} {p : Int × List Tx} {c : Int} {j : Nat} (hp : 0 ≤ p.1) (hne : p.1 ≠ (j : Int)) : (crash1 d p c).ts[j]? = d.ts[j]? ∧ lookI (crash1 d p c).bad (j : Int) = lookI d.bad (j : Int) := by
  unfold crash1
  split
  · refine ⟨?_, ?_⟩
    · dsimp only
      rw [List.getElem?_set_ne (by omega)]
    · dsimp only
      rw [lookI_delI, if_neg (Ne.symm hne)]
  · split
    · exact ⟨rfl, rfl⟩
    · refine ⟨rfl, ?_⟩
      dsimp only
      rw [lookI_put, if_neg (Ne.symm hne)]
theorem crashL_other : ∀ (l : List (Int × List Tx)) (d : Dsk) (cs : List Int) (j : Nat), (∀ p ∈ l, 0 ≤ p.1 ∧ p.1 ≠ (j : Int)) → (crashL d l cs).ts[j]? = d.ts[j]? ∧ lookI (crashL d l cs).bad (j : Int) = lookI d.bad (j : Int)
  | [], _, _, _, _ => ⟨rfl, rfl⟩
  | p :: l, d, cs, j, h => by
    obtain ⟨h1, h2⟩ := h p (List.mem_cons_self ..)
    obtain ⟨k1, k2⟩ := crash1_other (d := d) (c := cs.head?.getD 0) h1 h2
    obtain ⟨m1, m2⟩ := crashL_other l (crash1 d p (cs.head?.getD 0)) cs.tail j (fun q hq => h q (List.mem_cons_of_mem _ hq))
    exact ⟨m1.trans k1, m2.trans k2⟩
theorem SyInv.crash {d : Dsk} {sT lT : List Tx} {dT : List Bool} {N : Nat} (H : SyInv d sT lT dT) (hO : d.Ok N) (hs : d.vs.Pairwise fun p q => p.1 < q.1) (cs : List Int) (j : Nat) (hj : j < d.ts.length) (hd : dT[j]? = some false) :
    ∃ t, sT[j]? = some t ∧ t.length = 256 ∧ readD (crashD d cs) (j : Int) = (some t, 0) := by
  have h1 := H.dirty j _ hd
  have h2 : lookI d.vs (j : Int) = none := by
    cases hv : lookI d.vs (j : Int) with
    | none => rfl
    | some l => rw [hv] at h1; cases h1
  obtain ⟨e1, e2⟩ := crashL_other d.vs d cs j (fun p hp => by
    have h3 := lookI_mem hs hp
    refine ⟨(hO.vs p.1 p.2 h3).1, fun e => ?_⟩
    rw [e, h2] at h3
    cases h3)
  obtain ⟨_, _, e3, _⟩ := crashL_ok d.vs d cs N hO (fun p hp => (hO.vs p.1 p.2 (lookI_mem hs hp)).2.2.2.2)
  refine ⟨d.ts[j], by rw [H.ls, List.getElem?_eq_getElem hj], hO.tx _ (List.getElem_mem _), ?_⟩
  unfold readD
  rw [if_neg (by simp only [crashD]; omega), if_neg (by simp [crashD])]
  have e4 : lookI (crashD d cs).vs (j : Int) = none := rfl
  have e5 : lookI (crashD d cs).bad (j : Int) = none := by simp only [crashD]; rw [e2, H.bad]; rfl
  have e6 : (crashD d cs).ts[(j : Int).toNat]? = some d.ts[j] := by simp only [crashD, Int.toNat_natCast]; rw [e1, List.getElem?_eq_getElem hj]
  rw [e4, e5, e6]
  rfl
end Go.Proofs.Yteaenhmiomoocaa
