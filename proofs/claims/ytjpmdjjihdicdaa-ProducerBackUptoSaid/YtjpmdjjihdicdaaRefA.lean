/- gazetteref12: at: an entry, made, if it is not there. -/
import Derived.Test.YtjpmdjjihdicdaaRefT
import Derived.Test.YtjpmdjjihdicdaaLawFns
namespace Go.Proofs.Ytjpmdjjihdicdaa
open Go.RowKit Go.Shelf

theorem entCells_append : ∀ (l : List Ent) (vs : List Value), l.length = vs.length → ∀ l' vs', entCells (l ++ l') (vs ++ vs') = entCells l vs ++ entCells l' vs'
  | [], [], _, l', vs' => by simp [entCells]
  | a :: l, b :: vs, h, l', vs' => by simp [entCells, entCells_append l vs (by simpa using h)]
theorem entCells_length : ∀ (l : List Ent) (vs : List Value), l.length = vs.length → (entCells l vs).length = l.length * 4
  | [], [], _ => rfl
  | a :: l, b :: vs, h => by simp [entCells, entCells_length l vs (by simpa using h), entL]; omega
theorem entCells_drop : ∀ (l : List Ent) (vs : List Value), l.length = vs.length → ∀ k, (entCells l vs).drop (k * 4) = entCells (l.drop k) (vs.drop k)
  | [], [], _, k => by simp [entCells]
  | a :: l, b :: vs, h, 0 => by simp
  | a :: l, b :: vs, h, k + 1 => by
    rw [show (k + 1) * 4 = 4 + k * 4 by omega, ← List.drop_drop]
    simp [entCells, entL, entCells_drop l vs (by simpa using h)]
theorem entCells_take : ∀ (l : List Ent) (vs : List Value), l.length = vs.length → ∀ k, (entCells l vs).take (k * 4) = entCells (l.take k) (vs.take k)
  | [], [], _, k => by simp [entCells]
  | a :: l, b :: vs, h, 0 => by simp [entCells]
  | a :: l, b :: vs, h, k + 1 => by
    rw [show (k + 1) * 4 = 4 + k * 4 by omega, List.take_add]
    simp [entCells, entL, entCells_take l vs (by simpa using h)]
theorem entCells_one : ∀ (l : List Ent) (vs : List Value), (∀ u ∈ vs, u.oneCell' = true) → ∀ u ∈ entCells l vs, u.oneCell' = true
  | [], _, _, u, hu => by simp [entCells] at hu
  | _ :: _, [], _, u, hu => by simp [entCells] at hu
  | a :: l, b :: vs, h, u, hu => by
    simp only [entCells, List.mem_append, entL] at hu
    rcases hu with hu | hu
    · simp at hu
      rcases hu with rfl | rfl | rfl | rfl
      · rfl
      · rfl
      · rfl
      · exact h _ (List.mem_cons_self ..)
    · exact entCells_one l vs (fun v hv => h v (List.mem_cons_of_mem _ hv)) u hu

theorem info92 : (Try.prog.info? 92).map (fun i => (i.zero, i.size, i.bytes)) = some (some (.agg #[.int .i64 0, .int .i64 0, .int .i64 0, .slice none 0 0]), 4, 48) := by kernel_rfl

theorem RefAt.one {w : World} {n0 rb : Nat} {gL : Option Nat} {r : List Ent} {A : Option Addr} {c : Nat} {vs : List Value} (h : RefAt w n0 rb gL r A c vs) : ∀ u ∈ vs, u.oneCell' = true := by
  intro u hu
  obtain ⟨i, hi, rfl⟩ := List.getElem_of_mem hu
  obtain ⟨A', c', e, _⟩ := h.dns i (by rw [← h.vsl]; exact hi) vs[i] (by simp [hi])
  rw [e]; rfl

theorem sz_alloc (w : World) (o : Obj) : (w.alloc o).heap.size = w.heap.size + 1 := by simp

theorem app_kept {w w1 : World} {row : Option Nat} {N : Nat} (hN : N ≤ w.heap.size) (hg : w.grownBy w1 row) (hr : ∀ g, row = some g → N ≤ g) : ∀ b, b < N → w1.heap[b]? = w.heap[b]? :=
  fun b hb => hg.block b (by omega) (by intro e; have := hr b e.symm; omega)
theorem app_kept' {w w1 : World} {o : Obj} {row : Option Nat} {N : Nat} (hN : N ≤ w.heap.size) (hg : (w.alloc o).grownBy w1 row) (hr : ∀ g, row = some g → N ≤ g) : ∀ b, b < N → w1.heap[b]? = w.heap[b]? :=
  fun b hb => (app_kept (by rw [sz_alloc]; omega) hg hr b hb).trans (Below.heap_alloc w _ b (by omega))
theorem own_at {g k c N : Nat} (h : N ≤ g) : ∀ x, (Value.slice (some ⟨g, 0, none⟩) k c).ownBlock = some x → N ≤ x := by
  intro x e; cases e; exact h

theorem ownsRow_cap {w : World} {base : Nat} {e : TypeId} {size : Nat} {A : Option Addr} {n n' c : Nat} {xs : List Value} (h : w.ownsRow base e size (.slice A n c) n' xs) : n' ≤ c := by
  obtain ⟨_, ⟨e, rfl⟩ | ⟨g, cap, cur, e, _, _, hn, _⟩⟩ := h
  · exact Nat.zero_le _
  · cases e; exact hn

def newE (p : Int) : Ent := ⟨p, -1, 0, []⟩
def insE (r : List Ent) (k : Nat) (p : Int) : List Ent := r.take k ++ newE p :: r.drop k
theorem insE_length (r : List Ent) (k : Nat) (hk : k ≤ r.length) (p : Int) : (insE r k p).length = k + 1 + (r.length - k) := by simp [insE]; omega

theorem FrR.of {wr w3 : World} {rb : Nat} (hb : Below wr.heap.size wr w3) (v : Value) : FrR wr (w3.setCell ⟨rb, 0, none⟩ v) rb none :=
  ⟨hb.os, hb.tape, hb.output, by simpa [World.setCell] using hb.size, fun b h1 h2 _ => (Below.heap_setCell w3 _ _ b h2).trans (hb.block b h1)⟩

/-- The table with a new entry, in its new row. -/
theorem RefAt.ins {wr w3 : World} {n0 rb : Nat} {gL : Option Nat} {r : List Ent} {A : Option Addr} {c : Nat} {vs : List Value} (h : RefAt wr n0 rb gL r A c vs) (hn : n0 ≤ wr.heap.size) (hrb : rb < n0) {k : Nat} (hk : k ≤ r.length) (p : Int)
    (hb : Below wr.heap.size wr w3) {A3 : Option Addr} {n3 c3 : Nat} (hn3 : n3 = k + 1 + (r.length - k))
    (hown : w3.ownsRow wr.heap.size 92 4 (.slice A3 n3 c3) n3 (entCells (r.take k) (vs.take k) ++ entL (newE p) (.slice none 0 0) ++ entCells (r.drop k) (vs.drop k))) :
    ∃ g A' c' vs', wr.heap.size ≤ g ∧ RefAt (w3.setCell ⟨rb, 0, none⟩ (.slice A3 n3 c3)) n0 rb (some g) (insE r k p) A' c' vs' ∧ FrR wr (w3.setCell ⟨rb, 0, none⟩ (.slice A3 n3 c3)) rb none := by
  have hlen := insE_length r k hk p
  obtain ⟨A4, c4, e4, htl⟩ := ownsRow_tells hown
  cases e4
  obtain ⟨g, rfl, hg, hgl, _⟩ := htl (by omega)
  have hlB := h.tab.lt
  have hd : ∀ b, TyAt wr b 93 → (w3.setCell ⟨rb, 0, none⟩ (.slice (some ⟨g, 0, none⟩) n3 c3)).heap[b]? = wr.heap[b]? := fun b ht =>
    (Below.heap_setCell w3 _ _ b (h.tabT.ne ht (by decide)).symm).trans (hb.block b ht.lt)
  refine ⟨g, some ⟨g, 0, none⟩, c3, vs.take k ++ .slice none 0 0 :: vs.drop k, hg, ⟨?_, ?_, ?_, rfl, ?_, fun i hi u hu => ?_⟩, FrR.of hb _⟩
  · rw [hlen, ← hn3]
    simpa using (h.tab.of_heap (hb.block rb hlB)).set_same 0 (.slice (some ⟨g, 0, none⟩) n3 c3)
  · exact (h.tabT.of_heap (hb.block rb hlB)).setCell _ _
  · rw [hlen, ← hn3]
    have e : entCells (insE r k p) (vs.take k ++ .slice none 0 0 :: vs.drop k) = entCells (r.take k) (vs.take k) ++ entL (newE p) (.slice none 0 0) ++ entCells (r.drop k) (vs.drop k) := by
      unfold insE
      rw [entCells_append _ _ (by simp [h.vsl])]
      simp [entCells]
    rw [e]
    exact ownsRow_le (ownsRow_setCell_below hown (by simpa using hlB) _) hn
  · rw [hlen]; simp [h.vsl]; omega
  · have hv := h.vsl
    by_cases h1 : i < k
    · rw [List.getElem?_append_left (by simp; omega), List.getElem?_take, if_pos h1] at hu
      obtain ⟨A', c', e, hd'⟩ := h.dns i (by omega) u hu
      simp only [insE, List.getElem_append_left (show i < (r.take k).length by simp; omega), List.getElem_take]
      exact ⟨A', c', e, hd'.keep hd⟩
    · by_cases h2 : i = k
      · subst h2
        rw [List.getElem?_append_right (by simp; omega)] at hu
        simp [show min i vs.length = i by omega] at hu
        subst hu
        refine ⟨none, 0, ?_, ?_⟩
        · simp [insE, List.getElem_append_right, show min i r.length = i by omega, newE]
        · intro j hj
          exfalso
          simp [insE, List.getElem_append_right, show min i r.length = i by omega, newE] at hj
      · obtain ⟨j, rfl⟩ : ∃ j, i = k + 1 + j := ⟨i - (k + 1), by omega⟩
        rw [List.getElem?_append_right (by simp; omega)] at hu
        rw [show k + 1 + j - (vs.take k).length = j + 1 by simp; omega, List.getElem?_cons_succ, List.getElem?_drop] at hu
        have hj : k + j < r.length := by rw [hlen] at hi; omega
        obtain ⟨A', c', e, hd'⟩ := h.dns (k + j) hj u hu
        have ee : (insE r k p)[k + 1 + j]'hi = r[k + j] := by
          simp only [insE]
          rw [List.getElem_append_right (by simp; omega)]
          have : k + 1 + j - (r.take k).length = j + 1 := by simp; omega
          simp only [this, List.getElem_cons_succ, List.getElem_drop]
        rw [ee]
        exact ⟨A', c', e, hd'.keep hd⟩

set_option maxRecDepth 100000 in
set_option maxHeartbeats 2000000 in
theorem at_any (n0 rb : Nat) (gL : Option Nat) (r : List Ent) (A : Option Addr) (c : Nat) (vs : List Value) (p : Int) (w : World) (h : RefAt w n0 rb gL r A c vs) (hn : n0 ≤ w.heap.size) (hrb : rb < n0) (hr : r.length ≤ 2932031007400) :
    Calls Try.prog 36 #[.pointer (some ⟨rb, 0, none⟩), .int .i64 p] w fun e w' => ∃ k : Nat, e = .returned (.int .i64 k) ∧ k ≤ r.length ∧ (∀ j (h : j < r.length), j < k → r[j].p < p) ∧ (∀ h : k < r.length, p ≤ r[k].p) ∧
      (((∃ h : k < r.length, r[k].p = p) ∧ w' = w) ∨
        ((¬ ∃ h : k < r.length, r[k].p = p) ∧ ∃ g A' c' vs', w.heap.size ≤ g ∧ RefAt w' n0 rb (some g) (insE r k p) A' c' vs' ∧ FrR w w' rb none)) := by
  have hE := h.ents
  have qB := h.tab.cell
  have hlB := h.tab.lt
  obtain ⟨i0, hi0, hz0, hz1, hz2⟩ := info_parts info92
  replace h := Lib.hid h
  go_enter Try.func36, Try.ntmps36
  go_wp2_with fail
  go_loopw [5] (fun u ws => ws = w ∧ ∃ k : Nat, k ≤ r.length ∧ u = .int .i64 k ∧ Hid (∀ j (h : j < r.length), j < k → r[j].p < p)) (fun u _ => r.length - (intOf u).toNat)
  case atStart => exact ⟨rfl, 0, Nat.zero_le _, rfl, Lib.hid (by intro j _ h; omega)⟩
  case round =>
    obtain ⟨rfl, k, hk, rfl, hlow⟩ := hrel
    have hcase : (∃ h : k < r.length, r[k].p < p) ∨ ¬ (∃ h : k < r.length, r[k].p < p) := Decidable.em _
    rcases hcase with ⟨hlt, he⟩ | hex
    · obtain ⟨b, o, A', c', rfl, hl, d0, d1, d2, d3, hD⟩ := hE k hlt
      have hlow2 := Lib.hid (show ∀ j (h : j < r.length), j < k + 1 → r[j].p < p from fun j hj hjk => by
        by_cases hjk' : j < k
        · exact hlow.out j hj hjk'
        · obtain rfl : j = k := by omega
          exact he)
      generalize r[k].p = x at he d0
      go_wp2_with fail
      go_roundw
      case rel => exact ⟨trivial, k + 1, by omega, by go_num, hlow2⟩
      case measure => simp [intOf]; omega
    · have hge : ∀ h : k < r.length, p ≤ r[k].p := fun h => by
        have : ¬ r[k].p < p := fun h2 => hex ⟨h, h2⟩
        omega
      by_cases hlt : k < r.length
      · obtain ⟨b, o, A', c', rfl, hl, d0, d1, d2, d3, hD⟩ := hE k hlt
        by_cases he : r[k].p = p
        · have he' := Lib.hid he
          have hge' := Lib.hid hge
          rw [he] at d0
          clear he hge hex
          go_wp2_with fail
          go_ret
          exact ⟨k, rfl, hk, hlow.out, hge'.out, .inl ⟨⟨hlt, he'.out⟩, rfl⟩⟩
        · have hge' := Lib.hid hge
          have hgt : p < r[k].p := by have := hge hlt; omega
          have he' := Lib.hid he
          clear he hge hex
          have e1 : (r[k].p == p) = false := by rw [beq_eq_false_iff_ne]; omega
          have e2 : (r[k].p != p) = true := by rw [bne_iff_ne]; omega
          generalize hx : r[k].p = x at d0 e1 e2 hgt
          replace hx := Lib.hid hx
          obtain ⟨Ag, cg, eg, htl⟩ := ownsRow_tells h.out.row
          cases eg
          obtain ⟨g, eg, hg, hgl, hcell⟩ := htl (by omega)
          cases eg
          have hvl := h.out.vsl
          have hc1 := h.out.one
          have hsk : SrcAt wr (some ⟨b, 0, none⟩) k 4 (entCells (r.take k) (vs.take k)) := ⟨by rw [entCells_length _ _ (by simp [hvl]), List.length_take]; omega, fun _ => ⟨_, rfl, fun j u hu => by
            rw [Addr.add_mid, Nat.zero_add]
            rw [← entCells_take _ _ hvl.symm, List.getElem?_take] at hu
            split at hu
            · exact hcell j u hu
            · cases hu⟩⟩
          replace hsk := Lib.hid hsk
          replace hcell := Lib.hid hcell
          replace hc1 := Lib.hid hc1
          clear htl
          rw [Nat.zero_add] at d0
          have HRA := h
          have hcap := ownsRow_cap h.out.row
          have hck : (c == k) = false := by rw [beq_eq_false_iff_ne]; omega
          have hsd : SrcAt wr (some ⟨b, k * 4, none⟩) (r.length - k) 4 (entCells (r.drop k) (vs.drop k)) := ⟨by rw [entCells_length _ _ (by simp [hvl]), List.length_drop], fun _ => ⟨_, rfl, fun j u hu => by
            rw [Addr.add_mid]
            rw [← entCells_drop _ _ hvl.symm, List.getElem?_drop] at hu
            exact hcell.out _ u hu⟩⟩
          replace hsd := Lib.hid hsd
          clear h
          go_wp2_with (first
            | (at_builtin; refine wpList_append_srcT rfl _ _ 42 rfl wr.heap.size 92 i0 _ 4 48 Try.underlying42 hi0 hz0 hz1 hz2 rfl (by omega) (.slice A2 (k + 1) c2) (k + 1) _ rfl hown2 (some ⟨b, k * 4, none⟩) (r.length - k) (c - k) (entCells (r.drop k) (vs.drop k)) rfl ?hsrc3 ?hone3 ?h633 ?hby3 ?hbase3 ?nxt3; case' nxt3 => intro A3 c3 w3 hown3 hg3; have hk3 := (fun b (hb : b < wr.heap.size) => (app_kept (by omega) hg3 (fun g e => ownsRow_base hown2 e) b hb).trans (hk2.out b hb)); have hT3 := HRA.out.tab.of_heap (hk3 rb hlB); have q3 := hT3.cell; have u3 := hT3.unf; replace hk3 := Lib.hid hk3)
            | (at_builtin; refine wpList_append_srcT rfl _ _ 42 rfl wr.heap.size 92 i0 _ 4 48 Try.underlying42 hi0 hz0 hz1 hz2 rfl (by omega) (.slice A1 k c1) k _ rfl (hown1.alloc _) (some ⟨w1.heap.size, 0, none⟩) 1 1 (entL (newE p) (.slice none 0 0)) rfl (src_new w1 (entL (newE p) (.slice none 0 0)) 92 1 4 rfl) ?hone2 ?h632 ?hby2 ?hbase2 ?nxt2; case' nxt2 => intro A2 c2 w2 hown2 hg2; have hl2 := hg2.size; rw [sz_alloc] at hl2; have hk2 := (fun b (hb : b < wr.heap.size) => (app_kept' (by omega) hg2 (fun g e => ownsRow_base hown1 e) b hb).trans (hk1.out b hb)); have hT2 := HRA.out.tab.of_heap (hk2 rb hlB); have q2 := hT2.cell; replace hk2 := Lib.hid hk2)
            | (at_builtin; refine wpList_append_srcT rfl _ _ 42 rfl wr.heap.size 92 i0 _ 4 48 Try.underlying42 hi0 hz0 hz1 hz2 rfl (by omega) (.slice (some ⟨wr.heap.size, 0, none⟩) 0 0) 0 [] rfl (ownsRow_empty wr 92 4 wr.heap.size (Nat.le_refl _)) (some ⟨b, 0, none⟩) k c (entCells (r.take k) (vs.take k)) rfl ?hsrc ?hone ?h63 ?hby ?hbase ?nxt; case' nxt => intro A1 c1 w1 hown1 hg1; have hl1 := hg1.size; rw [sz_alloc] at hl1; rw [Nat.zero_add, List.nil_append] at hown1; have hk1 := app_kept' (Nat.le_refl _) hg1 (own_at (Nat.le_refl _)); replace hk1 := Lib.hid hk1))
          case hsrc3 =>
            refine ⟨hsd.out.1, fun hne => ?_⟩
            obtain ⟨ad, e, hc⟩ := hsd.out.2 hne
            cases e
            exact ⟨_, rfl, fun j u hu => by have hj := hc j u hu; rw [Addr.add_mid] at hj ⊢; exact (World.cell?_of_block (w := wr) (a := ⟨b, _, none⟩) (hk2.out b hl)).trans hj⟩
          case hone3 => exact entCells_one _ _ fun u hu => hc1.out u (List.mem_of_mem_drop hu)
          case h633 => simp only [maxLen]; omega
          case hby3 => omega
          case hbase3 => omega
          case hone2 => intro u hu; simp [entL] at hu; rcases hu with rfl | rfl | rfl | rfl <;> rfl
          case h632 => simp only [maxLen]; omega
          case hby2 => omega
          case hbase2 => rw [sz_alloc]; omega
          case hsrc =>
            refine ⟨hsk.out.1, fun hne => ?_⟩
            obtain ⟨ad, e, hc⟩ := hsk.out.2 hne
            cases e
            exact ⟨_, rfl, fun j u hu => by have hj := hc j u hu; rw [Addr.add_mid] at hj ⊢; exact (World.cell?_of_block (w := wr) (a := ⟨b, _, none⟩) (Below.heap_alloc wr _ b hl)).trans hj⟩
          case hone => exact entCells_one _ _ fun u hu => hc1.out u (List.mem_of_mem_take hu)
          case h63 => simp only [maxLen]; omega
          case hby => omega
          case hbase => rw [sz_alloc]; omega
          go_ret
          refine ⟨k, rfl, hk, hlow.out, hge'.out, .inr ⟨fun ⟨_, e⟩ => he'.out e, ?_⟩⟩
          exact HRA.out.ins hn hrb hk p ⟨hg3.os.trans (hg2.os.trans hg1.os), hg3.tape.trans (hg2.tape.trans hg1.tape), hg3.output.trans (hg2.output.trans hg1.output), by have := hg3.size; omega, hk3.out⟩ rfl (by simpa using hown3)
      · have hkl : k = r.length := by omega
        have hge' := Lib.hid hge
        have hcap := ownsRow_cap h.out.row
        have hvl := h.out.vsl
        have hc1 := Lib.hid h.out.one
        have HRA := h
        have hcs : (r.length = 0 ∧ A = none ∧ c = 0) ∨ (∃ g, A = some ⟨g, 0, none⟩ ∧ g < wr.heap.size ∧ c = k) ∨ (∃ g, A = some ⟨g, 0, none⟩ ∧ g < wr.heap.size ∧ k < c) := by
          obtain ⟨_, ⟨e, h0⟩ | ⟨g, cap, cur, e, _, hh, hn, _⟩⟩ := h.out.row
          · simp only [Value.slice.injEq] at e
            exact .inl ⟨h0, e.1, e.2.2⟩
          · cases e
            rcases Nat.lt_or_ge k c with h1 | h1
            · exact .inr (.inr ⟨g, rfl, (Array.getElem?_eq_some_iff.1 hh).1, h1⟩)
            · exact .inr (.inl ⟨g, rfl, (Array.getElem?_eq_some_iff.1 hh).1, by omega⟩)
        have hdr : r.drop k = [] := by rw [hkl]; simp
        have hsk : SrcAt wr A k 4 (entCells (r.take k) (vs.take k)) := by
          obtain ⟨Ag, cg, eg, htl⟩ := ownsRow_tells h.out.row
          cases eg
          refine ⟨by rw [entCells_length _ _ (by simp [hvl]), List.length_take]; omega, fun hne => ?_⟩
          obtain ⟨g, eg, hg, hgl, hcell⟩ := htl (by omega)
          cases eg
          refine ⟨_, rfl, fun j u hu => ?_⟩
          rw [Addr.add_mid, Nat.zero_add]
          rw [← entCells_take _ _ hvl.symm, List.getElem?_take] at hu
          split at hu
          · exact hcell j u hu
          · cases hu
        replace hsk := Lib.hid hsk
        replace hdr := Lib.hid hdr
        replace hcap := Lib.hid hcap
        clear h hex hge
        rcases hcs with ⟨hr0, rfl, rfl⟩ | ⟨g, rfl, hgl, hck⟩ | ⟨g, rfl, hgl, hkc⟩
        · obtain rfl : k = 0 := by omega
          obtain rfl : r = [] := List.eq_nil_of_length_eq_zero hr0
          obtain rfl : vs = [] := List.eq_nil_of_length_eq_zero (by simpa using hvl)
          clear hkl hr0 hvl hr
          go_wp2_with (first
            | (at_builtin; refine wpList_append_srcT rfl _ _ 42 rfl wr.heap.size 92 i0 _ 4 48 Try.underlying42 hi0 hz0 hz1 hz2 rfl (by omega) (.slice A2 (0 + 1) c2) (0 + 1) _ rfl hown2 none 0 0 (entCells (([] : List Ent)) (([] : List Value))) rfl ?hsrc3i ?hone3i ?h633i ?hby3i ?hbase3i ?nxt3i; case' nxt3i => intro A3 c3 w3 hown3 hg3; have hk3 := (fun b (hb : b < wr.heap.size) => (app_kept (by omega) hg3 (fun g e => ownsRow_base hown2 e) b hb).trans (hk2.out b hb)); have hT3 := HRA.out.tab.of_heap (hk3 rb hlB); have q3 := hT3.cell; have u3 := hT3.unf; replace hk3 := Lib.hid hk3)
            | (at_builtin; refine wpList_append_srcT rfl _ _ 42 rfl wr.heap.size 92 i0 _ 4 48 Try.underlying42 hi0 hz0 hz1 hz2 rfl (by omega) (.slice A1 0 c1) 0 _ rfl (hown1.alloc _) (some ⟨w1.heap.size, 0, none⟩) 1 1 (entL (newE p) (.slice none 0 0)) rfl (src_new w1 (entL (newE p) (.slice none 0 0)) 92 1 4 rfl) ?hone2i ?h632i ?hby2i ?hbase2i ?nxt2i; case' nxt2i => intro A2 c2 w2 hown2 hg2; have hl2 := hg2.size; rw [sz_alloc] at hl2; have hk2 := (fun b (hb : b < wr.heap.size) => (app_kept' (by omega) hg2 (fun g e => ownsRow_base hown1 e) b hb).trans (hk1.out b hb)); have hT2 := HRA.out.tab.of_heap (hk2 rb hlB); have q2 := hT2.cell; replace hk2 := Lib.hid hk2)
            | (at_builtin; refine wpList_append_srcT rfl _ _ 42 rfl wr.heap.size 92 i0 _ 4 48 Try.underlying42 hi0 hz0 hz1 hz2 rfl (by omega) (.slice (some ⟨wr.heap.size, 0, none⟩) 0 0) 0 [] rfl (ownsRow_empty wr 92 4 wr.heap.size (Nat.le_refl _)) none 0 0 (entCells (([] : List Ent)) (([] : List Value))) rfl ?hsrci ?honei ?h63i ?hbyi ?hbasei ?nxti; case' nxti => intro A1 c1 w1 hown1 hg1; have hl1 := hg1.size; rw [sz_alloc] at hl1; rw [Nat.zero_add, List.nil_append] at hown1; have hk1 := app_kept' (Nat.le_refl _) hg1 (own_at (Nat.le_refl _)); replace hk1 := Lib.hid hk1))
          case hsrc3i => exact ⟨rfl, fun h => absurd rfl h⟩
          case hone3i => exact entCells_one _ _ fun u hu => by simp at hu
          case h633i => simp only [maxLen]; omega
          case hby3i => omega
          case hbase3i => omega
          case hone2i => intro u hu; simp [entL] at hu; rcases hu with rfl | rfl | rfl | rfl <;> rfl
          case h632i => simp only [maxLen]; omega
          case hby2i => omega
          case hbase2i => rw [sz_alloc]; omega
          case hsrci => exact ⟨rfl, fun h => absurd rfl h⟩
          case honei => exact entCells_one _ _ fun u hu => by simp at hu
          case h63i => simp only [maxLen]; omega
          case hbyi => omega
          case hbasei => rw [sz_alloc]; omega
          go_ret
          refine ⟨0, rfl, hk, hlow.out, hge'.out, .inr ⟨fun ⟨h, _⟩ => by simp at h, ?_⟩⟩
          exact HRA.out.ins hn hrb hk p ⟨hg3.os.trans (hg2.os.trans hg1.os), hg3.tape.trans (hg2.tape.trans hg1.tape), hg3.output.trans (hg2.output.trans hg1.output), by have := hg3.size; omega, hk3.out⟩ rfl (by simpa using hown3)
        · clear hkl
          go_wp2_with (first
            | (at_builtin; refine wpList_append_srcT rfl _ _ 42 rfl wr.heap.size 92 i0 _ 4 48 Try.underlying42 hi0 hz0 hz1 hz2 rfl (by omega) (.slice A2 (k + 1) c2) (k + 1) _ rfl hown2 _ _ _ (entCells (r.drop k) (vs.drop k)) rfl ?hsrc3j ?hone3j ?h633j ?hby3j ?hbase3j ?nxt3j; case' nxt3j => intro A3 c3 w3 hown3 hg3; have hk3 := (fun b (hb : b < wr.heap.size) => (app_kept (by omega) hg3 (fun g e => ownsRow_base hown2 e) b hb).trans (hk2.out b hb)); have hT3 := HRA.out.tab.of_heap (hk3 rb hlB); have q3 := hT3.cell; have u3 := hT3.unf; replace hk3 := Lib.hid hk3)
            | (at_builtin; refine wpList_append_srcT rfl _ _ 42 rfl wr.heap.size 92 i0 _ 4 48 Try.underlying42 hi0 hz0 hz1 hz2 rfl (by omega) (.slice A1 k c1) k _ rfl (hown1.alloc _) (some ⟨w1.heap.size, 0, none⟩) 1 1 (entL (newE p) (.slice none 0 0)) rfl (src_new w1 (entL (newE p) (.slice none 0 0)) 92 1 4 rfl) ?hone2j ?h632j ?hby2j ?hbase2j ?nxt2j; case' nxt2j => intro A2 c2 w2 hown2 hg2; have hl2 := hg2.size; rw [sz_alloc] at hl2; have hk2 := (fun b (hb : b < wr.heap.size) => (app_kept' (by omega) hg2 (fun g e => ownsRow_base hown1 e) b hb).trans (hk1.out b hb)); have hT2 := HRA.out.tab.of_heap (hk2 rb hlB); have q2 := hT2.cell; replace hk2 := Lib.hid hk2)
            | (at_builtin; refine wpList_append_srcT rfl _ _ 42 rfl wr.heap.size 92 i0 _ 4 48 Try.underlying42 hi0 hz0 hz1 hz2 rfl (by omega) (.slice (some ⟨wr.heap.size, 0, none⟩) 0 0) 0 [] rfl (ownsRow_empty wr 92 4 wr.heap.size (Nat.le_refl _)) (some ⟨g, 0, none⟩) k k (entCells (r.take k) (vs.take k)) rfl ?hsrcj ?honej ?h63j ?hbyj ?hbasej ?nxtj; case' nxtj => intro A1 c1 w1 hown1 hg1; have hl1 := hg1.size; rw [sz_alloc] at hl1; rw [Nat.zero_add, List.nil_append] at hown1; have hk1 := app_kept' (Nat.le_refl _) hg1 (own_at (Nat.le_refl _)); replace hk1 := Lib.hid hk1))
          case hsrc3j => exact ⟨by rw [hdr.out]; simp [entCells]; omega, fun h => absurd (by omega) h⟩
          case hone3j => exact entCells_one _ _ fun u hu => hc1.out u (List.mem_of_mem_drop hu)
          case h633j => simp only [maxLen]; omega
          case hby3j => omega
          case hbase3j => omega
          case hone2j => intro u hu; simp [entL] at hu; rcases hu with rfl | rfl | rfl | rfl <;> rfl
          case h632j => simp only [maxLen]; omega
          case hby2j => omega
          case hbase2j => rw [sz_alloc]; omega
          case hsrcj =>
            refine ⟨hsk.out.1, fun hne => ?_⟩
            obtain ⟨ad, e, hc⟩ := hsk.out.2 hne
            cases e
            exact ⟨_, rfl, fun j u hu => by have hj := hc j u hu; rw [Addr.add_mid] at hj ⊢; exact (World.cell?_of_block (w := wr) (a := ⟨g, _, none⟩) (Below.heap_alloc wr _ g hgl)).trans hj⟩
          case honej => exact entCells_one _ _ fun u hu => hc1.out u (List.mem_of_mem_take hu)
          case h63j => simp only [maxLen]; omega
          case hbyj => omega
          case hbasej => rw [sz_alloc]; omega
          go_ret
          refine ⟨k, rfl, hk, hlow.out, hge'.out, .inr ⟨fun ⟨h, _⟩ => by omega, ?_⟩⟩
          exact HRA.out.ins hn hrb hk p ⟨hg3.os.trans (hg2.os.trans hg1.os), hg3.tape.trans (hg2.tape.trans hg1.tape), hg3.output.trans (hg2.output.trans hg1.output), by have := hg3.size; omega, hk3.out⟩ rfl (by simpa using hown3)
        · have hck : (c == k) = false := by rw [beq_eq_false_iff_ne]; omega
          clear hkl
          go_wp2_with (first
            | (at_builtin; refine wpList_append_srcT rfl _ _ 42 rfl wr.heap.size 92 i0 _ 4 48 Try.underlying42 hi0 hz0 hz1 hz2 rfl (by omega) (.slice A2 (k + 1) c2) (k + 1) _ rfl hown2 _ _ _ (entCells (r.drop k) (vs.drop k)) rfl ?hsrc3k ?hone3k ?h633k ?hby3k ?hbase3k ?nxt3k; case' nxt3k => intro A3 c3 w3 hown3 hg3; have hk3 := (fun b (hb : b < wr.heap.size) => (app_kept (by omega) hg3 (fun g e => ownsRow_base hown2 e) b hb).trans (hk2.out b hb)); have hT3 := HRA.out.tab.of_heap (hk3 rb hlB); have q3 := hT3.cell; have u3 := hT3.unf; replace hk3 := Lib.hid hk3)
            | (at_builtin; refine wpList_append_srcT rfl _ _ 42 rfl wr.heap.size 92 i0 _ 4 48 Try.underlying42 hi0 hz0 hz1 hz2 rfl (by omega) (.slice A1 k c1) k _ rfl (hown1.alloc _) (some ⟨w1.heap.size, 0, none⟩) 1 1 (entL (newE p) (.slice none 0 0)) rfl (src_new w1 (entL (newE p) (.slice none 0 0)) 92 1 4 rfl) ?hone2k ?h632k ?hby2k ?hbase2k ?nxt2k; case' nxt2k => intro A2 c2 w2 hown2 hg2; have hl2 := hg2.size; rw [sz_alloc] at hl2; have hk2 := (fun b (hb : b < wr.heap.size) => (app_kept' (by omega) hg2 (fun g e => ownsRow_base hown1 e) b hb).trans (hk1.out b hb)); have hT2 := HRA.out.tab.of_heap (hk2 rb hlB); have q2 := hT2.cell; replace hk2 := Lib.hid hk2)
            | (at_builtin; refine wpList_append_srcT rfl _ _ 42 rfl wr.heap.size 92 i0 _ 4 48 Try.underlying42 hi0 hz0 hz1 hz2 rfl (by omega) (.slice (some ⟨wr.heap.size, 0, none⟩) 0 0) 0 [] rfl (ownsRow_empty wr 92 4 wr.heap.size (Nat.le_refl _)) (some ⟨g, 0, none⟩) k c (entCells (r.take k) (vs.take k)) rfl ?hsrck ?honek ?h63k ?hbyk ?hbasek ?nxtk; case' nxtk => intro A1 c1 w1 hown1 hg1; have hl1 := hg1.size; rw [sz_alloc] at hl1; rw [Nat.zero_add, List.nil_append] at hown1; have hk1 := app_kept' (Nat.le_refl _) hg1 (own_at (Nat.le_refl _)); replace hk1 := Lib.hid hk1))
          case hsrc3k => exact ⟨by rw [hdr.out]; simp [entCells]; omega, fun h => absurd (by omega) h⟩
          case hone3k => exact entCells_one _ _ fun u hu => hc1.out u (List.mem_of_mem_drop hu)
          case h633k => simp only [maxLen]; omega
          case hby3k => omega
          case hbase3k => omega
          case hone2k => intro u hu; simp [entL] at hu; rcases hu with rfl | rfl | rfl | rfl <;> rfl
          case h632k => simp only [maxLen]; omega
          case hby2k => omega
          case hbase2k => rw [sz_alloc]; omega
          case hsrck =>
            refine ⟨hsk.out.1, fun hne => ?_⟩
            obtain ⟨ad, e, hc⟩ := hsk.out.2 hne
            cases e
            exact ⟨_, rfl, fun j u hu => by have hj := hc j u hu; rw [Addr.add_mid] at hj ⊢; exact (World.cell?_of_block (w := wr) (a := ⟨g, _, none⟩) (Below.heap_alloc wr _ g hgl)).trans hj⟩
          case honek => exact entCells_one _ _ fun u hu => hc1.out u (List.mem_of_mem_take hu)
          case h63k => simp only [maxLen]; omega
          case hbyk => omega
          case hbasek => rw [sz_alloc]; omega
          go_ret
          refine ⟨k, rfl, hk, hlow.out, hge'.out, .inr ⟨fun ⟨h, _⟩ => by omega, ?_⟩⟩
          exact HRA.out.ins hn hrb hk p ⟨hg3.os.trans (hg2.os.trans hg1.os), hg3.tape.trans (hg2.tape.trans hg1.tape), hg3.output.trans (hg2.output.trans hg1.output), by have := hg3.size; omega, hk3.out⟩ rfl (by simpa using hown3)
end Go.Proofs.Ytjpmdjjihdicdaa
