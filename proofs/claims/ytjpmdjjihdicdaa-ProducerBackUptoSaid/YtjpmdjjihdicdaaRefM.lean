/- gazetteref12: Note: what stands ahead of its walk. -/
import Derived.Test.YtjpmdjjihdicdaaRefA
import Derived.Deep.CutRange
import Derived.Test.YtjpmdjjihdicdaaLast
namespace Go.Proofs.Ytjpmdjjihdicdaa
open Go.RowKit Go.Shelf

theorem step_append_src {P : Program} {w : World} {ops : Array Oper} {o : Oper} {a : Act} {K : Act → World → Prop} {Q : Exit → Act → World → Prop} {E : Prop} (hgd : o.guard = none) (s x : Operand) (t : TypeId)
    (ho : o.op = .call { callee := .builtin .append, args := #[s, x], argTypes := #[t, t] })
    (base : Nat) (e : TypeId) (i : TypeInfo) (z : Value) (size bytes : Nat) (ht : P.underlying t = some (.slice e)) (hi : P.info? e = some i) (hz : i.zero = some z)
    (hsize : i.size = size) (hby : i.bytes = bytes) (hzs : z.cells.size = size) (hsz : 0 < size) (v : Value) (n : Nat) (xs : List Value) (hs : a.eval s = v) (hown : w.ownsRow base e size v n xs)
    (A : Option Addr) (m c : Nat) (news : List Value) (hx : a.eval x = .slice A m c) (hsrc : SrcAt w A m size news) (h1 : ∀ u ∈ news, u.oneCell' = true) (h63 : n + m ≤ maxLen) (hbytes : (n + m) * bytes ≤ 140737488355328) (hbase : base ≤ w.heap.size)
    (h : ∀ A' c' w', w'.ownsRow base e size (.slice A' (n + m) c') (n + m) (xs ++ news) → w.grownBy w' v.ownBlock → K (a.put o.dst (.slice A' (n + m) c')) w') :
    if Region.wanted o (yielded ops a.tmps) = true then Oper.wp P o a w K Q else E := by
  have hw : Region.wanted o (yielded ops a.tmps) = true := by simp [Region.wanted, hgd]
  rw [if_pos hw]
  obtain ⟨v', w', hr, h2, h3⟩ := run_append_src (P := P) (w := w) base t o.type e i z size bytes ht hi hz hsize hby hzs hsz v n xs hown A m c news hsrc h1 h63 hbytes hbase
  obtain ⟨A', c', rfl, _⟩ := ownsRow_tells h2
  unfold Oper.wp execOp
  simp only [ho, resolve, invoke, builtin, Sem.run_bind, Sem.run_pure, Result.andThen_ok, List.map_toArray, List.map_cons, List.map_nil, hs, hx, hr]
  exact h A' c' w' h2 h3

theorem FrR.refl (w : World) (rb : Nat) (gL : Option Nat) : FrR w w rb gL := ⟨rfl, rfl, rfl, Nat.le_refl _, fun _ _ _ _ => rfl⟩
theorem FrR.of_below {w w' : World} (hb : Below w.heap.size w w') (rb : Nat) (gL : Option Nat) : FrR w w' rb gL := ⟨hb.os, hb.tape, hb.output, hb.size, fun b h _ _ => hb.block b h⟩

/-- What Note leaves: the table r', and nothing else written. -/
def NoteAt (w w' : World) (n0 rb : Nat) (gL : Option Nat) (r' : List Ent) : Prop := ∃ gL' A' c' vs', RefAt w' n0 rb gL' r' A' c' vs' ∧ (gL' = gL ∨ ∃ g, gL' = some g ∧ w.heap.size ≤ g) ∧ FrR w w' rb gL

/-- Which entry 'at' gives, and what it becomes. -/
theorem at_find {r : List Ent} (hs : r.Pairwise fun a b => a.p < b.p) {k : Nat} {p : Int} (h1 : ∀ j (h : j < r.length), j < k → r[j].p < p) (h2 : ∀ h : k < r.length, p ≤ r[k].p) :
    r.find? (fun x => x.p == p) = if h : k < r.length then (if r[k].p = p then some r[k] else none) else none := by
  have hpre : (r.take k).find? (fun x => x.p == p) = none := by
    rw [List.find?_eq_none]
    intro x hx
    obtain ⟨j, hj, rfl⟩ := List.getElem_of_mem hx
    rw [List.length_take] at hj
    have := h1 j (by omega) (by omega)
    simp
    omega
  by_cases hk : k < r.length
  · rw [dif_pos hk]
    by_cases he : r[k].p = p
    · rw [if_pos he]
      exact find_at (f := fun x : Ent => x.p == p) hk hpre (by simpa using he)
    · rw [if_neg he, List.find?_eq_none]
      intro x hx
      obtain ⟨j, hj, rfl⟩ := List.getElem_of_mem hx
      simp
      have := h2 hk
      rcases Nat.lt_trichotomy j k with hlt | rfl | hlt
      · have := h1 j hj hlt; omega
      · exact he
      · have := List.pairwise_iff_getElem.1 hs k j hk hj hlt; omega
  · rw [dif_neg hk]
    rw [List.take_of_length_le (by omega)] at hpre
    exact hpre

/-- The entry that 'at' gives, in the table that it leaves. -/
structure Given (w1 w2 : World) (n0 rb : Nat) (gL : Option Nat) (r r3 : List Ent) (k2 : Nat) (p ep : Int) (x0 : Ent) (gL3 : Option Nat) (A3 : Option Addr) (c3 : Nat) (vs3 : List Value) : Prop where
  ref : RefAt w2 n0 rb gL3 r3 A3 c3 vs3
  gl : gL3 = gL ∨ ∃ g, gL3 = some g ∧ w1.heap.size ≤ g
  fr : FrR w1 w2 rb gL
  at' : r3[k2]? = some x0
  set' : ∀ x : Ent, x.p = p → r3.set k2 x = putE r x
  xp : x0.p = p
  note : ∀ k s n off, noteEnt (r.find? fun x => x.p == p) k p ep s n off = noteEnt (some x0) k p ep s n off
  len : x0.last.length ≤ 5 ∧ 0 ≤ x0.nx ∧ x0.nx ≤ 2147483648
  ep0 : 0 ≤ ep
theorem given_of {w1 w2 : World} {n0 rb : Nat} {gL : Option Nat} {r : List Ent} {A : Option Addr} {c : Nat} {vs : List Value} {k p ep s D1 : Int} {t : Bool} {rs : List Rec} {k2 : Nat} (h : RefAt w1 n0 rb gL r A c vs)
    (hso : r.Pairwise fun a b => a.p < b.p) (hrl : ∀ x ∈ r, x.last.length ≤ 5 ∧ 0 ≤ x.nx ∧ x.nx ≤ 2147483648) (hp : p ≠ -1) (hD : decideR (r.find? fun x => x.p == p) k p ep s t rs = (D1, false, 0))
    (hk : k2 ≤ r.length) (hlow : ∀ j (h : j < r.length), j < k2 → r[j].p < p) (hge : ∀ h : k2 < r.length, p ≤ r[k2].p)
    (hc : ((∃ h : k2 < r.length, r[k2].p = p) ∧ w2 = w1) ∨ ((¬ ∃ h : k2 < r.length, r[k2].p = p) ∧ ∃ g A' c' vs', w1.heap.size ≤ g ∧ RefAt w2 n0 rb (some g) (insE r k2 p) A' c' vs' ∧ FrR w1 w2 rb none)) :
    ∃ r3 x0 gL3 A3 c3 vs3, Given w1 w2 n0 rb gL r r3 k2 p ep x0 gL3 A3 c3 vs3 := by
  have hck : checkE k p ep s t rs = 0 := by
    by_cases hz : checkE k p ep s t rs = 0
    · exact hz
    · unfold decideR at hD
      rw [if_pos (.inl hz)] at hD
      simp at hD
      exact hD.2
  have hep := (checkE_ok hck).1
  have hf := at_find hso hlow hge
  rcases hc with ⟨⟨hlt, he⟩, rfl⟩ | ⟨hno, g, A', c', vs', hg, hR, hF⟩
  · refine ⟨r, r[k2], gL, A, c, vs, h, .inl rfl, FrR.refl _ _ _, by simp [hlt], fun x hx => ?_, he, fun k s n off => ?_, hrl _ (List.getElem_mem _), hep⟩
    · rw [putE_at x r k2 hk (fun j hj hjk => by rw [hx]; exact hlow j hj hjk) (fun hj => by rw [hx]; exact hge hj), if_pos ⟨hlt, he.trans hx.symm⟩]
    · rw [hf, dif_pos hlt, if_pos he]
  · refine ⟨insE r k2 p, newE p, some g, A', c', vs', hR, .inr ⟨g, rfl, hg⟩, ⟨hF.os, hF.tape, hF.output, hF.size, fun b h1 h2 _ => hF.block b h1 h2 (by simp)⟩, ?_, fun x hx => ?_, rfl, fun k s n off => ?_, by simp [newE], hep⟩
    · simp [insE, hk]
    · rw [putE_at x r k2 hk (fun j hj hjk => by rw [hx]; exact hlow j hj hjk) (fun hj => by rw [hx]; exact hge hj), if_neg (fun ⟨h1, h2⟩ => hno ⟨h1, h2.trans hx⟩)]
      unfold insE
      rw [List.set_append_right _ _ (by simp; omega)]
      simp [hk]
    · have : r.find? (fun x => x.p == p) = none := by
        rw [hf]
        split
        · rw [if_neg (fun e => hno ⟨‹_›, e⟩)]
        · rfl
      rw [this]
      unfold noteEnt
      simp [newE, show ¬ (-1 : Int) = ep by omega]

theorem RefAt.entry {w : World} {n0 rb : Nat} {gL : Option Nat} {r : List Ent} {A : Option Addr} {c : Nat} {vs : List Value} (h : RefAt w n0 rb gL r A c vs) {k : Nat} {x : Ent} (hx : r[k]? = some x) :
    ∃ g Az cz, A = some ⟨g, 0, none⟩ ∧ gL = some g ∧ n0 ≤ g ∧ g < w.heap.size ∧ vs[k]? = some (.slice Az x.last.length cz) ∧ DnsT w Az x.last ∧ w.cell? ⟨g, k * 4, none⟩ = some (.int .i64 x.p) ∧ w.cell? ⟨g, k * 4 + 1, none⟩ = some (.int .i64 x.ep) ∧
      w.cell? ⟨g, k * 4 + 2, none⟩ = some (.int .i64 x.nx) ∧ w.cell? ⟨g, k * 4 + 3, none⟩ = some (.slice Az x.last.length cz) := by
  obtain ⟨hk, rfl⟩ := List.getElem?_eq_some_iff.1 hx
  obtain ⟨A2, c2, e2, htl⟩ := ownsRow_tells h.row
  cases e2
  obtain ⟨g, rfl, hg, hlt, hc⟩ := htl (by omega)
  obtain ⟨u, hu⟩ : ∃ u, vs[k]? = some u := ⟨vs[k]'(by rw [h.vsl]; exact hk), by simp [h.vsl, hk]⟩
  obtain ⟨A', c', rfl, hd⟩ := h.dns k hk u hu
  have hcK : ∀ j x, (entL r[k] (.slice A' r[k].last.length c'))[j]? = some x → w.cell? ⟨g, k * 4 + j, none⟩ = some x := fun j x hx => hc _ _ (entCells_get r vs h.vsl.symm k hk _ hu j x hx)
  exact ⟨g, A', c', rfl, h.own.symm, hg, hlt, hu, hd, hcK 0 _ rfl, hcK 1 _ rfl, hcK 2 _ rfl, hcK 3 _ rfl⟩

theorem info93 : (Try.prog.info? 93).map (fun i => (i.zero, i.size, i.bytes)) = some (some (.agg #[.int .i64 0, .int .i64 0, .int .i64 0]), 3, 24) := by kernel_rfl
theorem keep_alloc {w W : World} (h : (∀ b o, b < w.heap.size → W.cell? ⟨b, o, none⟩ = w.cell? ⟨b, o, none⟩) ∧ Below w.heap.size w W) (ob : Obj) :
    (∀ b o, b < w.heap.size → (W.alloc ob).cell? ⟨b, o, none⟩ = w.cell? ⟨b, o, none⟩) ∧ Below w.heap.size w (W.alloc ob) := keep_step h (bl_alloc (Below.refl _ _) ob)
theorem keep_ad (w : World) (ob : Obj) : (∀ b o, b < w.heap.size → (w.alloc ob).drew.cell? ⟨b, o, none⟩ = w.cell? ⟨b, o, none⟩) ∧ Below w.heap.size w (w.alloc ob).drew :=
  keep_step (keep_alloc ⟨fun _ _ _ => rfl, Below.refl _ _⟩ ob) (Below.refl _ _).drew
theorem keep_own {w W W' : World} (h : (∀ b o, b < w.heap.size → W.cell? ⟨b, o, none⟩ = w.cell? ⟨b, o, none⟩) ∧ Below w.heap.size w W) {row : Option Nat} (hg : W.grownBy W' row) (hr : ∀ g, row = some g → w.heap.size ≤ g) :
    (∀ b o, b < w.heap.size → W'.cell? ⟨b, o, none⟩ = w.cell? ⟨b, o, none⟩) ∧ Below w.heap.size w W' :=
  ⟨(bcell (h.2.grown hg h.2.size hr)).1, h.2.grown hg h.2.size hr⟩
theorem dnCells_length (ds : List Dn) : (dnCells ds).length = ds.length * 3 := by
  induction ds with
  | nil => rfl
  | cons d l ih => simp only [dnCells, List.flatMap_cons, List.length_append, dnL, List.length_cons, List.length_nil] at *; omega
theorem dnCells_at : ∀ (ds : List Dn) j u, (dnCells ds)[j]? = some u → ∃ i, ∃ h : i < ds.length, (j = i * 3 ∧ u = .int .i64 ds[i].seq) ∨ (j = i * 3 + 1 ∧ u = .int .i64 ds[i].len) ∨ (j = i * 3 + 2 ∧ u = .int .i64 ds[i].off)
  | [], j, u, h => by simp [dnCells] at h
  | d :: l, 0, u, h => by simp [dnCells, dnL] at h; exact ⟨0, by simp, .inl ⟨rfl, h.symm⟩⟩
  | d :: l, 1, u, h => by simp [dnCells, dnL] at h; exact ⟨0, by simp, .inr (.inl ⟨rfl, h.symm⟩)⟩
  | d :: l, 2, u, h => by simp [dnCells, dnL] at h; exact ⟨0, by simp, .inr (.inr ⟨rfl, h.symm⟩)⟩
  | d :: l, j + 3, u, h => by
    obtain ⟨i, hi, hc⟩ := dnCells_at l j u (by simpa [dnCells, dnL] using h)
    refine ⟨i + 1, by simpa using hi, ?_⟩
    simp only [List.getElem_cons_succ]
    rcases hc with ⟨e, h⟩ | ⟨e, h⟩ | ⟨e, h⟩
    · exact .inl ⟨by omega, h⟩
    · exact .inr (.inl ⟨by omega, h⟩)
    · exact .inr (.inr ⟨by omega, h⟩)
theorem dnCells_one (ds : List Dn) : ∀ u ∈ dnCells ds, u.oneCell' = true := by
  intro u hu
  obtain ⟨j, hj, rfl⟩ := List.getElem_of_mem hu
  obtain ⟨i, hi, ⟨_, e⟩ | ⟨_, e⟩ | ⟨_, e⟩⟩ := dnCells_at ds j _ (List.getElem?_eq_getElem hj) <;> rw [e] <;> rfl
theorem DnsT.src {w : World} {A : Option Addr} {ds : List Dn} (h : DnsT w A ds) : SrcAt w A ds.length 3 (dnCells ds) := by
  refine ⟨dnCells_length ds, fun hne => ?_⟩
  obtain ⟨b, o, hA, _, _⟩ := h 0 (by omega)
  subst hA
  refine ⟨_, rfl, fun j u hu => ?_⟩
  rw [Addr.add_mid]
  obtain ⟨i, hi, hc⟩ := dnCells_at ds j u hu
  obtain ⟨b', o', e, _, c1, c2, c3⟩ := h i hi
  cases e
  rcases hc with ⟨rfl, rfl⟩ | ⟨rfl, rfl⟩ | ⟨rfl, rfl⟩
  · exact c1
  · exact c2
  · exact c3
theorem src_keep {w w' : World} {A : Option Addr} {m size : Nat} {xs : List Value} (h : SrcAt w A m size xs) (hsz : 0 < size) (hk : (∀ b o, b < w.heap.size → w'.cell? ⟨b, o, none⟩ = w.cell? ⟨b, o, none⟩) ∧ Below w.heap.size w w') : SrcAt w' A m size xs := by
  refine ⟨h.1, fun hne => ?_⟩
  obtain ⟨ad, e, hc⟩ := h.2 hne
  refine ⟨ad, e, fun j u hu => ?_⟩
  have hj := hc j u hu
  have hlt : (ad.add j).block < w.heap.size := by
    simp only [World.cell?] at hj
    rcases Nat.lt_or_ge (ad.add j).block w.heap.size with h1 | h1
    · exact h1
    · rw [Array.getElem?_eq_none h1] at hj; cases hj
  exact (hk.2.cell hlt).trans hj

theorem grown_at {w w' : World} {g k c : Nat} (h : w.grownBy w' (Value.slice (some ⟨g, 0, none⟩) k c).ownBlock) : w.grownBy w' (some g) := h
theorem keep_here (w : World) : (∀ b o, b < w.heap.size → w.cell? ⟨b, o, none⟩ = w.cell? ⟨b, o, none⟩) ∧ Below w.heap.size w w := ⟨fun _ _ _ => rfl, Below.refl _ _⟩
theorem stopW {P : Program} {md : Region.Mode} {ops : Array Oper} {Q : Exit → Act → World → Prop} {S : World → Prop} {L n : Nat} {dn : Array Bool} {a : Act} {w : World} (hW : WaitsAll md ops L) (h : WaitsAll md ops L → anyBut P md ops Q S L n dn a w) : anyBut P md ops Q S L n dn a w := h hW
theorem src_of_blk {w : World} {d m size : Nat} {cs : List Value} (h : Blk w d cs) (hl : cs.length = m * size) : SrcAt w (some ⟨d, 0, none⟩) m size cs :=
  ⟨hl, fun _ => ⟨_, rfl, fun j u hu => by rw [Addr.add_mid, Nat.zero_add]; exact h.get hu⟩⟩
theorem keep_bat {w W W' : World} {b : Nat} (h : (∀ o, W.cell? ⟨b, o, none⟩ = w.cell? ⟨b, o, none⟩) ∧ b < W.heap.size) (hh : W'.heap[b]? = W.heap[b]?) : (∀ o, W'.cell? ⟨b, o, none⟩ = w.cell? ⟨b, o, none⟩) ∧ b < W'.heap.size := by
  refine ⟨fun o => (World.cell?_of_block (w := W) (a := ⟨b, o, none⟩) hh).trans (h.1 o), ?_⟩
  have := h.2
  rw [Array.getElem?_eq_getElem this] at hh
  exact (Array.getElem?_eq_some_iff.1 hh).1
theorem bat_alloc {w W : World} {b : Nat} (h : (∀ o, W.cell? ⟨b, o, none⟩ = w.cell? ⟨b, o, none⟩) ∧ b < W.heap.size) (ob : Obj) : (∀ o, (W.alloc ob).cell? ⟨b, o, none⟩ = w.cell? ⟨b, o, none⟩) ∧ b < (W.alloc ob).heap.size := keep_bat h (Below.heap_alloc W ob b h.2)
theorem bat_set {w W : World} {b : Nat} (h : (∀ o, W.cell? ⟨b, o, none⟩ = w.cell? ⟨b, o, none⟩) ∧ b < W.heap.size) (a : Addr) (v : Value) (hne : b ≠ a.block) : (∀ o, (W.setCell a v).cell? ⟨b, o, none⟩ = w.cell? ⟨b, o, none⟩) ∧ b < (W.setCell a v).heap.size := keep_bat h (Below.heap_setCell W a v b hne)
theorem bat_here (w : World) {b : Nat} (hb : b < w.heap.size) : (∀ o, w.cell? ⟨b, o, none⟩ = w.cell? ⟨b, o, none⟩) ∧ b < w.heap.size := ⟨fun _ => rfl, hb⟩
theorem bat_drew {w W : World} {b : Nat} (h : (∀ o, W.cell? ⟨b, o, none⟩ = w.cell? ⟨b, o, none⟩) ∧ b < W.heap.size) : (∀ o, W.drew.cell? ⟨b, o, none⟩ = w.cell? ⟨b, o, none⟩) ∧ b < W.drew.heap.size := h
theorem bat_of {w W : World} {b : Nat} (h : (∀ b o, b < w.heap.size → W.cell? ⟨b, o, none⟩ = w.cell? ⟨b, o, none⟩) ∧ Below w.heap.size w W) (hb : b < w.heap.size) : (∀ o, W.cell? ⟨b, o, none⟩ = w.cell? ⟨b, o, none⟩) ∧ b < W.heap.size :=
  ⟨fun o => h.1 b o hb, Nat.lt_of_lt_of_le hb h.2.size⟩
theorem dnsT_of_own {w : World} {base n c : Nat} {A : Option Addr} {ds : List Dn} (h : w.ownsRow base 93 3 (.slice A n c) n (dnCells ds)) (hn : n = ds.length) : DnsT w A ds := by
  subst hn
  obtain ⟨A2, c2, e2, htl⟩ := ownsRow_tells h
  cases e2
  intro i hi
  obtain ⟨g, rfl, _, _, hc⟩ := htl (by omega)
  have hg : ∀ m u, (dnL ds[i])[m]? = some u → w.cell? ⟨g, i * 3 + m, none⟩ = some u := fun m u hu => hc _ _ (by
    have : ∀ (l : List Dn) (i : Nat) (h : i < l.length), (dnL l[i])[m]? = some u → (dnCells l)[i * 3 + m]? = some u := by
      intro l
      induction l with
      | nil => intro i h; simp at h
      | cons d l ih =>
        intro i h hu
        have hm : m < 3 := by have := (List.getElem?_eq_some_iff.1 hu).1; simpa [dnL] using this
        simp only [dnCells, List.flatMap_cons]
        cases i with
        | zero => rw [List.getElem?_append_left (by simp [dnL]; omega)]; simpa using hu
        | succ i =>
          rw [List.getElem?_append_right (by simp [dnL]; omega)]
          have := ih i (by simpa using h) (by simpa using hu)
          rw [← this]
          simp only [dnCells]
          congr 1
          simp [dnL]; omega
    exact this ds i hi hu)
  refine ⟨g, 0, rfl, ownsRow_ty h rfl, ?_, ?_, ?_⟩
  · rw [Nat.zero_add]; exact hg 0 _ rfl
  · rw [Nat.zero_add]; exact hg 1 _ rfl
  · rw [Nat.zero_add]; exact hg 2 _ rfl

/-- What region 12 leaves: the entry's box with its batches, one more. -/
def Noted (w2 : World) (X bB : Nat) (bat : List Value) (p ep nx : Int) (ds : List Dn) (wx : World) : Prop :=
  ∃ A c, Blk wx X [.int .i64 p, .int .i64 ep, .int .i64 nx, .slice A ds.length c] ∧ DnsT wx A ds ∧ Blk wx bB bat ∧ Below w2.heap.size w2 wx
theorem noted_leaf {w2 WX w6 : World} {X bB : Nat} {bat : List Value} {p ep nx : Int} {ds : List Dn} {v : Value} {A6 : Option Addr} {n c6 : Nat} (hXX : Blk WX X [.int .i64 p, .int .i64 ep, .int .i64 nx, v]) (hB : Blk WX bB bat) (hne : bB ≠ X)
    (h2 : Below w2.heap.size w2 WX) (hX2 : w2.heap.size ≤ X) (S6 : (∀ b o, b < WX.heap.size → w6.cell? ⟨b, o, none⟩ = WX.cell? ⟨b, o, none⟩) ∧ Below WX.heap.size WX w6)
    (hown : w6.ownsRow WX.heap.size 93 3 (.slice A6 n c6) n (dnCells ds)) (hn : n = ds.length) : Noted w2 X bB bat p ep nx ds (w6.setCell ⟨X, 3, none⟩ (.slice A6 n c6)) := by
  subst hn
  refine ⟨A6, c6, ?_, ?_, ?_, ?_⟩
  · simpa using (hXX.of_heap (S6.2.block _ hXX.lt)).set_same 3 (.slice A6 ds.length c6)
  · exact dnsT_of_own (ownsRow_setCell_below hown hXX.lt _) rfl
  · exact (hB.of_heap (S6.2.block _ hB.lt)).set_ne (by simpa using hne.symm) _
  · exact bl_set (h2.trans (S6.2.mono h2.size)) hX2 _

theorem ownsRow_unf {w : World} {base : Nat} {e : TypeId} {size g n n' c : Nat} {xs : List Value} (h : w.ownsRow base e size (.slice (some ⟨g, 0, none⟩) n c) n' xs) : ∀ j, w.frozen? ⟨g, j, none⟩ = false := by
  intro j
  obtain ⟨_, ⟨e, _⟩ | ⟨g', cap, cur, e, _, hh, _⟩⟩ := h
  · cases e
  · cases e
    simp [World.frozen?, hh]
/-- An entry, written. -/
def set4 (w : World) (g o : Nat) (a b c d : Value) : World := (((w.setCell ⟨g, o, none⟩ a).setCell ⟨g, o + 1, none⟩ b).setCell ⟨g, o + 2, none⟩ c).setCell ⟨g, o + 3, none⟩ d
theorem heap_set4 (w : World) (g o : Nat) (a b c d : Value) (i : Nat) (h : i ≠ g) : (set4 w g o a b c d).heap[i]? = w.heap[i]? := by
  unfold set4
  rw [Below.heap_setCell _ _ _ _ h, Below.heap_setCell _ _ _ _ h, Below.heap_setCell _ _ _ _ h, Below.heap_setCell _ _ _ _ h]
theorem size_set4 (w : World) (g o : Nat) (a b c d : Value) : (set4 w g o a b c d).heap.size = w.heap.size := by simp [set4, World.setCell]
theorem os_set4 (w : World) (g o : Nat) (a b c d : Value) : (set4 w g o a b c d).drew.os = w.os := rfl
theorem tape_set4 (w : World) (g o : Nat) (a b c d : Value) : (set4 w g o a b c d).drew.tape = w.tape := rfl
theorem output_set4 (w : World) (g o : Nat) (a b c d : Value) : (set4 w g o a b c d).drew.output = w.output := rfl
theorem entCells_set : ∀ (l : List Ent) (vs : List Value), l.length = vs.length → ∀ k, k < l.length → ∀ (x : Ent) (v : Value),
    ((((entCells l vs).set (k * 4) (.int .i64 x.p)).set (k * 4 + 1) (.int .i64 x.ep)).set (k * 4 + 2) (.int .i64 x.nx)).set (k * 4 + 3) v = entCells (l.set k x) (vs.set k v)
  | a :: l, b :: vs, h, 0, _, x, v => by simp [entCells, entL]
  | a :: l, b :: vs, h, k + 1, hk, x, v => by
    have ih := entCells_set l vs (by simpa using h) k (by simpa using hk) x v
    have e : ∀ (xs : List Value) (j : Nat) (u : Value), (entL a b ++ xs).set ((k + 1) * 4 + j) u = entL a b ++ xs.set (k * 4 + j) u := fun xs j u => by
      rw [List.set_append_right _ _ (by simp [entL]; omega)]
      congr 2
      simp [entL]; omega
    have e0 : ∀ (xs : List Value) (u : Value), (entL a b ++ xs).set ((k + 1) * 4) u = entL a b ++ xs.set (k * 4) u := fun xs u => by simpa using e xs 0 u
    simp only [entCells, List.set_cons_succ]
    rw [e0, e, e, e, ih]
theorem RefAt.setE {w : World} {n0 rb g : Nat} {r : List Ent} {c : Nat} {vs : List Value} (h : RefAt w n0 rb (some g) r (some ⟨g, 0, none⟩) c vs) {k : Nat} (hk : k < r.length) (x : Ent) {fA : Option Addr} {fc : Nat} (hd : DnsT w fA x.last) :
    RefAt (set4 w g (k * 4) (.int .i64 x.p) (.int .i64 x.ep) (.int .i64 x.nx) (.slice fA x.last.length fc)) n0 rb (some g) (r.set k x) (some ⟨g, 0, none⟩) c (vs.set k (.slice fA x.last.length fc)) := by
  have hgT : TyAt w g 92 := ownsRow_ty h.row rfl
  have hk93 : ∀ b, TyAt w b 93 → (set4 w g (k * 4) (.int .i64 x.p) (.int .i64 x.ep) (.int .i64 x.nx) (.slice fA x.last.length fc)).heap[b]? = w.heap[b]? := fun b hb => heap_set4 _ _ _ _ _ _ _ b (hb.ne hgT (by decide))
  have hrb := heap_set4 w g (k * 4) (.int .i64 x.p) (.int .i64 x.ep) (.int .i64 x.nx) (.slice fA x.last.length fc) rb (h.tabT.ne hgT (by decide))
  refine ⟨?_, h.tabT.of_heap hrb, ?_, by simp [Value.ownBlock], by simp [h.vsl], fun i hi u hu => ?_⟩
  · rw [List.length_set]; exact h.tab.of_heap hrb
  · rw [List.length_set, ← entCells_set r vs h.vsl.symm k hk]
    exact ownsRow_set (ownsRow_set (ownsRow_set (ownsRow_set h.row _ _) _ _) _ _) _ _
  · by_cases hik : i = k
    · subst hik
      rw [List.getElem?_set_self (by rw [h.vsl]; exact hk)] at hu
      cases hu
      simp only [List.getElem_set_self]
      exact ⟨fA, fc, rfl, hd.keep hk93⟩
    · rw [List.getElem?_set_ne (fun e => hik e.symm)] at hu
      obtain ⟨A', c', e, hd'⟩ := h.dns i (by simpa using hi) u hu
      simp only [List.getElem_set_ne (fun e => hik e.symm)]
      exact ⟨A', c', e, hd'.keep hk93⟩

/-- The end of Note: the entry written into the table that 'at' left. -/
theorem note_end {w w1 w2 wc : World} {n0 rb : Nat} {gL : Option Nat} {r r3 : List Ent} {k2 g3 c3 : Nat} {vs3 : List Value} {xp ep xe xn fn zn : Int} {xl fl zl : List Dn} {fA : Option Addr} {fc : Nat} {k s off : Int} {n : Nat}
    (G : Given w1 w2 n0 rb gL r r3 k2 xp ep ⟨xp, xe, xn, xl⟩ (some g3) (some ⟨g3, 0, none⟩) c3 vs3) (hbb : Below w.heap.size w w1) (hb2 : Below w2.heap.size w2 wc) (hk3 : k2 < r3.length)
    (hz : zl = (if xe ≠ ep then [] else xl) ∧ zn = (if xe ≠ ep then 0 else xn))
    (hf : fl = (if k = 1 then (if 5 < (zl ++ [(⟨s, n, off⟩ : Dn)]).length then (zl ++ [(⟨s, n, off⟩ : Dn)]).drop 1 else zl ++ [⟨s, n, off⟩]) else zl) ∧ fn = (if k = 1 then zn + n else zn)) (hd : DnsT wc fA fl) :
    NoteAt w (set4 wc g3 (k2 * 4) (.int .i64 xp) (.int .i64 ep) (.int .i64 fn) (.slice fA fl.length fc)).drew n0 rb gL (putE r (noteEnt (r.find? fun x => x.p == xp) k xp ep s n off)) := by
  have hx : noteEnt (r.find? fun x => x.p == xp) k xp ep s n off = ⟨xp, ep, fn, fl⟩ := by
    rw [G.note]
    obtain ⟨rfl, rfl⟩ := hz
    obtain ⟨rfl, rfl⟩ := hf
    unfold noteEnt
    by_cases h1 : xe = ep
    · by_cases h2 : k = 1 <;> simp [h1, h2]
    · by_cases h2 : k = 1 <;> simp [h1, h2]
  rw [hx, ← G.set' ⟨xp, ep, fn, fl⟩ rfl]
  have hgl : (some g3 = gL ∨ ∃ g, some g3 = some g ∧ w.heap.size ≤ g) := G.gl.imp id (fun ⟨g, e, h⟩ => ⟨g, e, Nat.le_trans hbb.size h⟩)
  refine ⟨some g3, some ⟨g3, 0, none⟩, c3, _, ((G.ref.below hb2).setE hk3 ⟨xp, ep, fn, fl⟩ hd).keep (fun _ _ => rfl), hgl, ?_, ?_, ?_, ?_, fun b h1 h2 h3 => ?_⟩
  · rw [os_set4]; exact hb2.os.trans (G.fr.os.trans hbb.os)
  · rw [tape_set4]; exact hb2.tape.trans (G.fr.tape.trans hbb.tape)
  · rw [output_set4]; exact hb2.output.trans (G.fr.output.trans hbb.output)
  · show _ ≤ (set4 _ _ _ _ _ _ _).heap.size
    rw [size_set4]
    have := hbb.size; have := G.fr.size; have := hb2.size
    omega
  · have hs1 := hbb.size
    have hs2 := G.fr.size
    have hne : b ≠ g3 := by
      rintro rfl
      rcases hgl with e | ⟨g, e, h⟩
      · exact h3 e
      · cases e; omega
    exact (heap_set4 wc g3 _ _ _ _ _ b hne).trans ((hb2.block b (by omega)).trans ((G.fr.block b (by omega) h2 h3).trans (hbb.block b h1)))

end Go.Proofs.Ytjpmdjjihdicdaa
