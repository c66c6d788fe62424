/- The walk of ProducerPlays. -/
import Derived.Test.YtjpmdjjihdicdaaSt
namespace Go.Proofs.Ytjpmdjjihdicdaa
open Go.RowKit Go.Shelf

section
variable {w w' : World} {n0 n0' tb mb nn rb tb' mb' nn' rb' : Nat} {gL gL' : Option Nat} {m m' : List (Int × St)}
/-- A step on one pair leaves another one as it was. -/
theorem Both.other (h : Both w n0 tb mb nn rb gL m) (k : Both w n0' tb' mb' nn' rb' gL' m') (hf : FrS w w' mb rb gL) (h1 : tb' ≠ mb ∧ tb' ≠ rb ∧ tb' < n0) (h2 : mb' ≠ mb ∧ mb' ≠ rb ∧ mb' < n0) (h3 : rb' ≠ mb ∧ rb' ≠ rb ∧ rb' < n0)
    (h4 : mb < n0' ∧ rb < n0') (hg : ∀ g, gL = some g → gL' ≠ some g) : Both w' n0' tb' mb' nn' rb' gL' m' := by
  have hgl : ∀ g, gL = some g → n0 ≤ g := fun g e => (h.gl e).1
  have hgl' : ∀ g, gL' = some g → n0' ≤ g := fun g e => (k.gl e).1
  refine k.keep (fun b hb => ?_) hf.size
  have hlt := k.lt hb
  obtain ⟨A, c, vs, hr⟩ := h.ref
  rcases hb with rfl | rfl | rfl | hb | hb
  · exact hf.block _ hlt h1.1 h1.2.1 (fun e => by have := hgl _ e.symm; omega)
  · exact hf.block _ hlt h2.1 h2.2.1 (fun e => by have := hgl _ e.symm; omega)
  · exact hf.block _ hlt h3.1 h3.2.1 (fun e => by have := hgl _ e.symm; omega)
  · have := hgl' _ hb.symm
    exact hf.block _ hlt (by omega) (by omega) (fun e => hg _ e.symm hb.symm)
  · refine hf.block _ hlt (h.im.ne_ty hb) (hb.ne hr.tabT (by decide)) (fun e => ?_)
    exact hb.ne (hr.rowTy e.symm) (by decide) rfl
theorem NewOr.apart (hn : NewOr w gL gL') {g2 : Option Nat} (hg : ∀ g, gL = some g → g2 ≠ some g) (hlt : ∀ g, g2 = some g → g < w.heap.size) : ∀ g, gL' = some g → g2 ≠ some g := by
  intro g e e2
  rcases hn with rfl | ⟨g', rfl, hg'⟩
  · exact hg g e e2
  · cases e
    have := hlt g e2
    omega
end

/-- A new table beside a new one of the document. -/
theorem Both.new {w : World} {n0 tb mb rb : Nat} (hT : Blk w tb [.map (some mb)]) (hM : IM Try.prog 3 w mb 0 stV []) (hR : Blk w rb [.slice none 0 0]) (hRT : TyAt w rb 44) (h1 : tb < n0) (h2 : mb < n0) (h3 : rb < n0) (h4 : n0 ≤ w.heap.size) (h5 : tb ≠ rb) :
    Both w n0 tb mb 0 rb none [] :=
  ⟨hT, hM, ⟨none, 0, [], ⟨hR, hRT, World.ownsRow_nil _ _ _ _, rfl, rfl, fun i hi => by simp at hi⟩⟩, h1, h2, h3, h4, h5, GoodM.nil 0⟩

/-- An operation's records lie below what the call has made. -/
theorem OpsAt.low {w : World} {A : Option Addr} {l : List OpD} (h : OpsAt w A l) (i : Nat) (hi : i < l.length) : ∃ b o A' c', A = some ⟨b, o, none⟩ ∧ b < w.heap.size ∧ RecsAt w A' l[i].rs ∧ l[i].fits ∧ (∀ b' o', l[i].rs ≠ [] → A' = some ⟨b', o', none⟩ → b' < w.heap.size) ∧
    w.cell? ⟨b, o + i * 8, none⟩ = some (.bool l[i].note) ∧ w.cell? ⟨b, o + i * 8 + 1, none⟩ = some (.int .i64 l[i].k) ∧ w.cell? ⟨b, o + i * 8 + 2, none⟩ = some (.int .i64 l[i].p) ∧
    w.cell? ⟨b, o + i * 8 + 3, none⟩ = some (.int .i64 l[i].ep) ∧ w.cell? ⟨b, o + i * 8 + 4, none⟩ = some (.int .i64 l[i].s) ∧ w.cell? ⟨b, o + i * 8 + 5, none⟩ = some (.bool l[i].t) ∧
    w.cell? ⟨b, o + i * 8 + 6, none⟩ = some (.slice A' l[i].rs.length c') ∧ w.cell? ⟨b, o + i * 8 + 7, none⟩ = some (.int .i64 l[i].off) := by
  obtain ⟨b, o, A', c', hA, hlt, hr, hf, c0, c1, c2, c3, c4, c5, c6, c7⟩ := h.2 i hi
  refine ⟨b, o, A', c', hA, hlt, hr, hf, fun b' o' hn e => ?_, c0, c1, c2, c3, c4, c5, c6, c7⟩
  obtain ⟨b2, o2, e2, h2, _⟩ := hr.2 0 (by cases hh : l[i].rs with | nil => exact absurd hh hn | cons => simp)
  rw [e] at e2
  cases e2
  exact h2

/-- The same in a later world. -/
theorem OpsAt.later {w wr : World} {A : Option Addr} {l : List OpD} (h : OpsAt w A l) (hb : Below w.heap.size w wr) (i : Nat) (hi : i < l.length) : ∃ b o A' c', A = some ⟨b, o, none⟩ ∧ b < wr.heap.size ∧ RecsAt wr A' l[i].rs ∧ l[i].fits ∧ (∀ b' o', l[i].rs ≠ [] → A' = some ⟨b', o', none⟩ → b' < w.heap.size) ∧
    wr.cell? ⟨b, o + i * 8, none⟩ = some (.bool l[i].note) ∧ wr.cell? ⟨b, o + i * 8 + 1, none⟩ = some (.int .i64 l[i].k) ∧ wr.cell? ⟨b, o + i * 8 + 2, none⟩ = some (.int .i64 l[i].p) ∧
    wr.cell? ⟨b, o + i * 8 + 3, none⟩ = some (.int .i64 l[i].ep) ∧ wr.cell? ⟨b, o + i * 8 + 4, none⟩ = some (.int .i64 l[i].s) ∧ wr.cell? ⟨b, o + i * 8 + 5, none⟩ = some (.bool l[i].t) ∧
    wr.cell? ⟨b, o + i * 8 + 6, none⟩ = some (.slice A' l[i].rs.length c') ∧ wr.cell? ⟨b, o + i * 8 + 7, none⟩ = some (.int .i64 l[i].off) := by
  obtain ⟨b, o, A', c', hA, hlt, hr, hf, hlo, c0, c1, c2, c3, c4, c5, c6, c7⟩ := h.low i hi
  have e : ∀ j, wr.cell? ⟨b, j, none⟩ = w.cell? ⟨b, j, none⟩ := fun j => hb.cell (p := ⟨b, j, none⟩) hlt
  exact ⟨b, o, A', c', hA, Nat.lt_of_lt_of_le hlt hb.size, hr.below hb, hf, hlo, by rw [e]; exact c0, by rw [e]; exact c1, by rw [e]; exact c2, by rw [e]; exact c3, by rw [e]; exact c4, by rw [e]; exact c5, by rw [e]; exact c6, by rw [e]; exact c7⟩

theorem TyAt.alloc {w : World} {b : Nat} {T : TypeId} (h : TyAt w b T) (o : Obj) : TyAt (w.alloc o) b T := h.of_heap (Below.heap_alloc w o b h.lt)
theorem ty_new' {w : World} {b : Nat} (cs : Array Value) (T : TypeId) (hb : b = w.heap.size) : TyAt (w.alloc (.cells cs T)) b T := by rw [hb]; exact ty_new _ _ _
/-- Two new tables, and two new ones of the document. -/
def six (w : World) : World := ((((((w.alloc (.map #[] 0)).alloc (.cells #[.map (some w.heap.size)] 65)).alloc (.map #[] 0)).alloc (.cells #[.map (some (w.heap.size + 1 + 1))] 65)).alloc (.cells #[.slice none 0 0] 44)).alloc (.cells #[.slice none 0 0] 44))
theorem six_two (w : World) : Both (six w) (w.heap.size + 6) (w.heap.size + 1) w.heap.size 0 (w.heap.size + 1 + 1 + 1 + 1) none [] ∧ Both (six w) (w.heap.size + 6) (w.heap.size + 1 + 1 + 1) (w.heap.size + 1 + 1) 0 (w.heap.size + 1 + 1 + 1 + 1 + 1) none [] ∧ Below w.heap.size w (six w) := by
  unfold six
  refine ⟨Both.new ?_ ?_ ?_ ?_ (by omega) (by omega) (by omega) (by simp) (by omega), Both.new ?_ ?_ ?_ ?_ (by omega) (by omega) (by omega) (by simp) (by omega), ?_⟩
  · repeat' (first | (refine Blk.new' _ _ ?_; (simp; done)) | apply Blk.alloc)
  · exact (((((IM.made w Try.prog 3 stV).alloc _).alloc _).alloc _).alloc _).alloc _
  · repeat' (first | (refine Blk.new' _ _ ?_; (simp; done)) | apply Blk.alloc)
  · repeat' (first | (refine ty_new' _ _ ?_; (simp; done)) | apply TyAt.alloc)
  · repeat' (first | (refine Blk.new' _ _ ?_; (simp; done)) | apply Blk.alloc)
  · have h := (((IM.made ((w.alloc (.map #[] 0)).alloc (.cells #[.map (some w.heap.size)] 65)) Try.prog 3 stV).alloc (.cells #[.map (some (w.heap.size + 1 + 1))] 65)).alloc (.cells #[.slice none 0 0] 44)).alloc (.cells #[.slice none 0 0] 44)
    simpa only [sz_alloc] using h
  · repeat' (first | (refine Blk.new' _ _ ?_; (simp; done)) | apply Blk.alloc)
  · repeat' (first | (refine ty_new' _ _ ?_; (simp; done)) | apply TyAt.alloc)
  · exact bl_alloc (bl_alloc (bl_alloc (bl_alloc (bl_alloc (bl_alloc (Below.refl _ _) _) _) _) _) _) _

set_option maxRecDepth 100000 in
set_option maxHeartbeats 2000000 in
theorem plays_any (A B : Option Addr) (ca cb : Nat) (la lb : List OpD) (w : World) (hA : OpsAt w A la) (hB : OpsAt w B lb) :
    Calls Try.prog 4 #[.slice A la.length ca, .slice B lb.length cb] w fun e w' => e = .returned (.bool true) ∧ Below w.heap.size w w' := by
  obtain ⟨h1, h2, hb⟩ := six_two w
  have hla := hA.1
  have hlb := hB.1
  go_enter Try.func4, Try.ntmps4
  go_wp2_with (go_at_call 9; refine (new_any _).mono ?_; rintro e w' ⟨rfl, rfl⟩)
  have H6 := Lib.hid (show six w = ((((((w.alloc (.map #[] 0)).alloc (.cells #[.map (some w.heap.size)] 65)).alloc (.map #[] 0)).alloc (.cells #[.map (some (w.heap.size + 1 + 1))] 65)).alloc (.cells #[.slice none 0 0] 44)).alloc (.cells #[.slice none 0 0] 44)) from rfl)
  rw [← H6.out]
  refine (knows_any _).mono ?_
  rintro e w1 ⟨rfl, hk⟩
  replace h1 := h1.below hk
  replace h2 := h2.below hk
  replace hb := bl_tr hb hk
  clear hk H6
  go_wp2_with fail
  go_loopw [9] (fun u wr => ∃ (i : Nat) (g1 g2 : Option Nat) (m1 m2 : List (Int × St)), u = .int .i64 i ∧ Both wr (w.heap.size + 6) (w.heap.size + 1) w.heap.size i (w.heap.size + 1 + 1 + 1 + 1) g1 m1 ∧
      Both wr (w.heap.size + 6) (w.heap.size + 1 + 1 + 1) (w.heap.size + 1 + 1) i (w.heap.size + 1 + 1 + 1 + 1 + 1) g2 m2 ∧ Below w.heap.size w wr ∧ Hid (∀ g, g1 = some g → g2 ≠ some g))
    (fun u _ => la.length + lb.length - (intOf u).toNat)
  case atStart => exact ⟨0, none, none, [], [], rfl, h1, h2, hb, Lib.hid (by intro g h; cases h)⟩
  case round =>
    obtain ⟨i, g1, g2, m1, m2, rfl, k1, k2, kb, kg⟩ := hrel
    clear h1 h2 hb
    have hi0 : (0 : Int) ≤ (i : Int) := by omega
    by_cases hia : i < la.length
    · obtain ⟨b, oo, A', c', rfl, hbl, hR, hF, hlo, c0, c1, c2, c3, c4, c5, c6, c7⟩ := hA.later kb i hia
      generalize la[i] = x at *
      replace hF := Lib.hid hF
      replace hlo := Lib.hid hlo
      have hgl1 := Lib.hid (fun g (e : g1 = some g) => (k1.gl e).1)
      go_wp2_with fail
      refine (step_any _ _ _ _ _ _ _ _ k1 x A' c' hR hF.out (by omega) (fun b' o' hn e => by have := hlo.out b' o' hn e; refine ⟨by omega, by omega, fun e2 => ?_⟩; have := hgl1.out _ e2.symm; omega)).mono ?_
      rintro e w2 ⟨rfl, g1', k1', hn1, hf1⟩
      have k2' := k1.other k2 hf1 ⟨by omega, by omega, by omega⟩ ⟨by omega, by omega, by omega⟩ ⟨by omega, by omega, by omega⟩ ⟨by omega, by omega⟩ kg.out
      have kg' := Lib.hid (hn1.apart kg.out (fun g e => (k2.gl e).2))
      have kb' := hf1.below kb (Nat.le_refl _) (by omega) (fun g e => by have := (k1.gl e).1; omega) kb.size
      clear c0 c1 c2 c3 c4 c5 c6 c7 hR k1 k2 kg hn1 hf1 hgl1 hbl hlo
      by_cases hib : i < lb.length
      · obtain ⟨b2, oo2, A2', c2', rfl, hbl, hR, hF2, hlo, c0, c1, c2, c3, c4, c5, c6, c7⟩ := hB.later kb' i hib
        generalize lb[i] = y at *
        replace hF2 := Lib.hid hF2
        replace hlo := Lib.hid hlo
        have hgl1 := Lib.hid (fun g (e : g2 = some g) => (k2'.gl e).1)
        go_wp2_with fail
        refine (step_any _ _ _ _ _ _ _ _ k2' y A2' c2' hR hF2.out (by omega) (fun b' o' hn e => by have := hlo.out b' o' hn e; refine ⟨by omega, by omega, fun e2 => ?_⟩; have := hgl1.out _ e2.symm; omega)).mono ?_
        rintro e w3 ⟨rfl, g2', k2'', hn2, hf2⟩
        have k1'' := k2'.other k1' hf2 ⟨by omega, by omega, by omega⟩ ⟨by omega, by omega, by omega⟩ ⟨by omega, by omega, by omega⟩ ⟨by omega, by omega⟩ (fun g e e2 => kg'.out g e2 e)
        have kg'' := Lib.hid (hn2.apart (fun g e e2 => kg'.out g e2 e) (fun g e => (k1'.gl e).2))
        have kb'' := hf2.below kb' (by omega) (by omega) (fun g e => by have := (k2'.gl e).1; omega) kb'.size
        clear c0 c1 c2 c3 c4 c5 c6 c7 hR hn2 hf2 hgl1 hbl hlo kb kb' k1' k2' kg'
        go_wp2_with fail
        go_roundw
        case rel => exact ⟨i + 1, g1', g2', _, _, by go_num, k1'', k2'', kb'', Lib.hid (fun g e e2 => kg''.out g e2 e)⟩
        case measure => simp [intOf]; omega
      · clear kb
        go_wp2_with fail
        go_roundw
        case rel => exact ⟨i + 1, g1', g2, _, m2, by go_num, k1', k2'.mono' (by omega), kb', kg'⟩
        case measure => simp [intOf]; omega
    · by_cases hib : i < lb.length
      · obtain ⟨b2, oo2, A2', c2', rfl, hbl, hR, hF2, hlo, c0, c1, c2, c3, c4, c5, c6, c7⟩ := hB.later kb i hib
        generalize lb[i] = y at *
        replace hF2 := Lib.hid hF2
        replace hlo := Lib.hid hlo
        have hgl1 := Lib.hid (fun g (e : g2 = some g) => (k2.gl e).1)
        go_wp2_with fail
        refine (step_any _ _ _ _ _ _ _ _ k2 y A2' c2' hR hF2.out (by omega) (fun b' o' hn e => by have := hlo.out b' o' hn e; refine ⟨by omega, by omega, fun e2 => ?_⟩; have := hgl1.out _ e2.symm; omega)).mono ?_
        rintro e w3 ⟨rfl, g2', k2'', hn2, hf2⟩
        have k1'' := k2.other k1 hf2 ⟨by omega, by omega, by omega⟩ ⟨by omega, by omega, by omega⟩ ⟨by omega, by omega, by omega⟩ ⟨by omega, by omega⟩ (fun g e e2 => kg.out g e2 e)
        have kg'' := Lib.hid (hn2.apart (fun g e e2 => kg.out g e2 e) (fun g e => (k1.gl e).2))
        have kb'' := hf2.below kb (by omega) (by omega) (fun g e => by have := (k2.gl e).1; omega) kb.size
        clear c0 c1 c2 c3 c4 c5 c6 c7 hR hn2 hf2 hgl1 hbl hlo kb k1 k2 kg
        go_wp2_with fail
        go_roundw
        case rel => exact ⟨i + 1, g1, g2', m1, _, by go_num, k1''.mono' (by omega), k2'', kb'', Lib.hid (fun g e e2 => kg''.out g e2 e)⟩
        case measure => simp [intOf]; omega
      · go_wp2_with fail
        go_ret
        exact ⟨rfl, kb⟩
end Go.Proofs.Ytjpmdjjihdicdaa
