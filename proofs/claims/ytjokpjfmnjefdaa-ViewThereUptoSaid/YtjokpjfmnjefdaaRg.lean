/- slices.Clone, slices.IndexFunc, slices.DeleteFunc as Range calls them; a slice cleared. -/
import Derived.Test.YtjokpjfmnjefdaaSp
import Derived.Test.YtjokpjfmnjefdaaOw
import Derived.Test.YtjokpjfmnjefdaaRa
namespace Go.Proofs.Ytjokpjfmnjefdaa
open Go.RowKit Go.Shelf
attribute [local go_sem] Oper.semAt_some

/-- Is a pair outside? -/
def outB (f t : ByteArray) (x : Pr) : Bool := sb x.key f || (!decide (t = ⟨#[]⟩) && !sb x.key t)

theorem nil_eq (t : ByteArray) : (t.toList == ([] : List UInt8)) = decide (t = ⟨#[]⟩) := by
  have h : (⟨#[]⟩ : ByteArray).toList = [] := by rw [Lib.toList_data]
  rw [← str_eq t ⟨#[]⟩, h]

set_option maxRecDepth 100000 in
set_option maxHeartbeats 400000 in
theorem closureR_any (x : Pr) (f t : ByteArray) (Bf Bt : Nat) (w : World) (hf : Blk w Bf [.string f]) (ht : Blk w Bt [.string t]) :
    Calls Try.prog 42 #[.agg #[.string x.key, .string x.val, .int .i64 x.off], .pointer (some ⟨Bf, 0, none⟩), .pointer (some ⟨Bt, 0, none⟩)] w fun e w' => e = .returned (.bool (outB f t x)) ∧ Below w.heap.size w w' := by
  have qf := hf.get (j := 0) rfl
  have qt := ht.get (j := 0) rfl
  have lf := hf.lt
  have lt := ht.lt
  have h1 : outB f t x = (sb x.key f || (!decide (t = ⟨#[]⟩) && !sb x.key t)) := rfl
  have e1 := str_lt x.key f
  have e2 := str_lt x.key t
  have e3 := nil_eq t
  replace h1 := Lib.hid h1
  cases c1 : sb x.key f with
  | true =>
    rw [c1] at e1
    have h2 := Lib.hid (show outB f t x = true by rw [h1.out, c1]; rfl)
    clear e2 e3 c1
    go_enter Try.func42, Try.ntmps42
    go_wp2_with fail
    go_ret
    exact ⟨ret_bool h2.out.symm, bl_alloc (Below.refl _ _) _⟩
  | false =>
    rw [c1] at e1
    cases c2 : decide (t = ⟨#[]⟩) with
    | true =>
      rw [c2] at e3
      have h2 := Lib.hid (show outB f t x = false by rw [h1.out, c1, c2]; rfl)
      clear e2 c1 c2
      go_enter Try.func42, Try.ntmps42
      go_wp2_with fail
      go_ret
      exact ⟨ret_bool h2.out.symm, bl_alloc (Below.refl _ _) _⟩
    | false =>
      rw [c2] at e3
      have h2 := Lib.hid (show outB f t x = !sb x.key t by rw [h1.out, c1, c2]; rfl)
      clear c1 c2
      go_enter Try.func42, Try.ntmps42
      go_wp2_with fail
      go_ret
      exact ⟨ret_bool (by rw [h2.out]), bl_alloc (Below.refl _ _) _⟩

set_option maxRecDepth 100000 in
set_option maxHeartbeats 1000000 in
theorem indexR_any (A : Option Addr) (c : Nat) (l : List Pr) (f t : ByteArray) (Bf Bt : Nat) (w : World) (hl : LAt w A 3 prL l) (hll : l.length ≤ 4611686018427387904) (hf : Blk w Bf [.string f]) (ht : Blk w Bt [.string t]) :
    Calls Try.prog 60 #[.slice A l.length c, .func (.func 42) #[] #[.pointer (some ⟨Bf, 0, none⟩), .pointer (some ⟨Bt, 0, none⟩)]] w fun e w' => ∃ k : Int, e = .returned (.int .i64 k) ∧
      ((k = -1 ∧ ∀ x ∈ l, outB f t x = false) ∨ ∃ i : Nat, k = i ∧ i < l.length ∧ (∀ j (h : j < l.length), j < i → outB f t l[j] = false) ∧ ∀ h : i < l.length, outB f t l[i] = true) ∧ Below w.heap.size w w' := by
  go_enter Try.func60, Try.ntmps60
  go_wp2_with fail
  go_loopw [8] (fun u wr => ∃ i : Nat, u = .int .i64 i ∧ i ≤ l.length ∧ (∀ j (h : j < l.length), j < i → outB f t l[j] = false) ∧ Below w.heap.size w wr) (fun u _ => l.length - (intOf u).toNat)
  case atStart => exact ⟨0, rfl, Nat.zero_le _, fun j h hj => by omega, Below.refl _ _⟩
  case round =>
    obtain ⟨i, rfl, hi, hr, hb⟩ := hrel
    have hf2 := hf.below hb hf.lt
    have ht2 := ht.below hb ht.lt
    by_cases hlt : i < l.length
    · obtain ⟨b, o, rfl, hbl, ca⟩ := (hl.below hb) i hlt
      have hs : outB f t l[i] = false → ∀ j (h : j < l.length), j < i + 1 → outB f t l[j] = false := fun hh j h hj => by
        by_cases e : j = i
        · subst e; exact hh
        · exact hr j h (by omega)
      have hy : outB f t l[i] = true → ∀ h : i < l.length, outB f t l[i] = true := fun h _ => h
      replace hr := Lib.hid hr
      have hc := closureR_any l[i] f t Bf Bt wr hf2 ht2
      cases hx : outB f t l[i] with
      | true =>
        rw [hx] at hc
        have hy2 := Lib.hid (hy hx)
        clear hs hy hx
        generalize l[i] = x at ca hc
        have a0 : wr.cell? ⟨b, o + i * 3, none⟩ = some (.string x.key) := ca 0 _ rfl
        have a1 : wr.cell? ⟨b, o + i * 3 + 1, none⟩ = some (.string x.val) := ca 1 _ rfl
        have a2 : wr.cell? ⟨b, o + i * 3 + 2, none⟩ = some (.int .i64 x.off) := ca 2 _ rfl
        have hltI : (i : Int) < (l.length : Int) := by omega
        clear ca
        replace hc := Lib.hid hc
        go_wp2_with (go_at_call 42; refine hc.out.mono ?_; rintro e w2 ⟨rfl, b2⟩)
        go_ret
        exact ⟨i, rfl, .inr ⟨i, rfl, hlt, hr.out, hy2.out⟩, bl_tr hb b2⟩
      | false =>
        rw [hx] at hc
        have hs2 := Lib.hid (hs hx)
        clear hs hy hx
        generalize l[i] = x at ca hc
        have a0 : wr.cell? ⟨b, o + i * 3, none⟩ = some (.string x.key) := ca 0 _ rfl
        have a1 : wr.cell? ⟨b, o + i * 3 + 1, none⟩ = some (.string x.val) := ca 1 _ rfl
        have a2 : wr.cell? ⟨b, o + i * 3 + 2, none⟩ = some (.int .i64 x.off) := ca 2 _ rfl
        have hltI : (i : Int) < (l.length : Int) := by omega
        clear ca
        replace hc := Lib.hid hc
        go_wp2_with (go_at_call 42; refine hc.out.mono ?_; rintro e w2 ⟨rfl, b2⟩)
        exact ⟨⟨i + 1, by go_num, by omega, hs2.out, bl_tr hb b2⟩, by simp [intOf]; omega⟩
    · obtain rfl : i = l.length := by omega
      replace hr := Lib.hid hr
      go_wp2_with fail
      go_ret
      exact ⟨-1, rfl, .inl ⟨rfl, fun x hx => by obtain ⟨j, hj, rfl⟩ := List.getElem_of_mem hx; exact hr.out j hj hj⟩, hb⟩

set_option maxRecDepth 100000 in
set_option maxHeartbeats 400000 in
theorem clone_any (A : Option Addr) (c : Nat) (l : List Pr) (w : World) (hl : LAt w A 3 prL l) (hll : l.length ≤ 3518437208800) :
    Calls Try.prog 41 #[.slice A l.length c] w fun e w' => ∃ A' c', e = .returned (.slice A' l.length c') ∧ PRow w' w.heap.size A' c' l ∧ Below w.heap.size w w' := by
  obtain ⟨i0, hi0, hz0, hz1, hz2⟩ := info_parts info56
  cases A with
  | none =>
    obtain rfl : l = [] := by
      cases l with
      | nil => rfl
      | cons x r => obtain ⟨b, o, e, _⟩ := hl 0 (by simp); cases e
    have hn : ∀ (c : Nat) (w : World), (binOp .eql 26 (.slice none 0 c) (.slice none 0 0)).run Try.prog w = .ok (.bool true) w := fun c w => Lib.run_eql_slice_nil w 26 56 none 0 c 0 0 Try.underlying26
    go_enter Try.func41, Try.ntmps41
    go_wp2_with fail
    go_ret
    exact ⟨none, 0, rfl, PRow.nil _ _ _, Below.refl _ _⟩
  | some a =>
    have hn : ∀ (n c : Nat) (w : World), (binOp .eql 26 (.slice (some a) n c) (.slice none 0 0)).run Try.prog w = .ok (.bool false) w := fun n c w => Lib.run_eql_slice_nil w 26 56 (some a) n c 0 0 Try.underlying26
    go_enter Try.func41, Try.ntmps41
    have hsrc := LAt.src prL_len (by omega) (hl.below (bl_alloc (Below.refl w.heap.size w) (.cells #[] 56)))
    have hown := ownsRow_empty w 56 3 w.heap.size (Nat.le_refl _)
    go_wp2_with (at_builtin; refine wpList_append_srcT rfl _ _ 26 rfl w.heap.size 56 i0 _ 3 40 Try.underlying26 hi0 hz0 hz1 hz2 rfl (by omega) (.slice (some ⟨w.heap.size, 0, none⟩) 0 0) 0 [] rfl hown (some a) l.length c (l.flatMap prL) rfl hsrc (flat_one prL_one _) ?h63 ?hby ?hbase ?nxl; case' nxl => intro A2 c2 w2 hown2 hg2)
    case h63 => simp only [maxLen]; omega
    case hby => omega
    case hbase => simp
    have hb2 := bl_own (bl_alloc (Below.refl w.heap.size w) _) hown (Nat.le_refl _) hg2
    simp only [Nat.zero_add, List.nil_append] at hown2 ⊢
    go_wp2_with fail
    go_ret
    exact ⟨A2, c2, rfl, PRow.of_own hown2 rfl, hb2⟩

theorem zero56 (w : World) : (zeroValue 56).run Try.prog w = .ok (.agg #[.string ⟨#[]⟩, .string ⟨#[]⟩, .int .i64 0]) w := by kernel_rfl

/-- clear of a slice of pairs. -/
theorem run_clear26 (w : World) (b o n c : Nat) (h : w.there b o (n * 3)) : ∃ zs : List Value, zs.length = n * 3 ∧ ∀ ty : TypeId, (Builtin.clear_ #[26] ty #[.slice (some ⟨b, o, none⟩) n c]).run Try.prog w = .ok (.tuple #[]) (w.setCells b o zs) := by
  cases n with
  | zero =>
    refine ⟨[], rfl, fun ty => ?_⟩
    simp [Builtin.clear_, run_underlying Try.underlying26, World.setCells]
  | succ n =>
    refine ⟨(Builtin.zeroCells #[.string ⟨#[]⟩, .string ⟨#[]⟩, .int .i64 0] (n + 1)).toList, by simp [Builtin.zeroCells], fun ty => ?_⟩
    have h1 := run_storeCells_cells (P := Try.prog) b o (Builtin.zeroCells #[.string ⟨#[]⟩, .string ⟨#[]⟩, .int .i64 0] (n + 1)).toList 0 w (fun j hj => by simpa using (h j (by simpa [Builtin.zeroCells] using hj)).1) (fun j hj => by simpa using (h j (by simpa [Builtin.zeroCells] using hj)).2) (fun v hv => by
      simp only [Builtin.zeroCells, Array.toList_map, List.mem_map] at hv
      obtain ⟨i, _, rfl⟩ := hv
      have h3 : i % 3 = 0 ∨ i % 3 = 1 ∨ i % 3 = 2 := by omega
      rcases h3 with h3 | h3 | h3 <;> simp [h3, Value.oneCell'])
    simp only [Nat.add_zero] at h1
    simp [Builtin.clear_, run_underlying Try.underlying26, zero56, Value.cells, h1]

theorem LAt.set {w : World} {b o : Nat} {M : List Pr} (h : LAt w (some ⟨b, o, none⟩) 3 prL M) (ht : w.there b o (M.length * 3)) (i : Nat) (hi : i < M.length) (v : Pr) : LAt (w.setCells b (o + i * 3) (prL v)) (some ⟨b, o, none⟩) 3 prL (M.set i v) := fun j hj => by
  rw [List.length_set] at hj
  obtain ⟨b', o', e, hlt, hc⟩ := h j hj
  cases e
  refine ⟨b, o, rfl, by rw [setCells_size]; exact hlt, ?_⟩
  by_cases e : i = j
  · subst e
    rw [List.getElem_set_self]
    refine World.rangeAt_setCells_same _ _ _ _ fun k hk => ?_
    have := ht (i * 3 + k) (by rw [prL_len] at hk; omega)
    rwa [show o + (i * 3 + k) = o + i * 3 + k from by omega] at this
  · rw [List.getElem_set_ne e]
    exact World.rangeAt_setCells_apart hc _ _ _ (by rw [prL_len, prL_len]; omega)

theorem PRow.there {w : World} {base c b o : Nat} {l : List Pr} (hP : PRow w base (some ⟨b, o, none⟩) c l) : w.there b o (l.length * 3) := fun j hj => by
  refine ⟨?_, hP.unf _ rfl j hj⟩
  have hd : j / 3 < l.length := by omega
  obtain ⟨b', o', e', _, hc⟩ := hP.row (j / 3) hd
  cases e'
  have h3 : j % 3 < (prL l[j / 3]).length := by rw [prL_len]; omega
  have h1 := hc (j % 3) _ (List.getElem?_eq_getElem h3)
  have he : o + j / 3 * 3 + j % 3 = o + j := by omega
  rw [he] at h1
  rw [h1]; rfl

theorem filter_take_succ {l : List Pr} {p : Pr → Bool} {i : Nat} (hi : i < l.length) : (l.take (i + 1)).filter p = (l.take i).filter p ++ (if p l[i] then [l[i]] else []) := by
  rw [List.take_succ_eq_append_getElem hi, List.filter_append]
  congr 1
  simp [List.filter_cons]
theorem take_filter_none {l : List Pr} {p : Pr → Bool} {i : Nat} (h : ∀ j (h : j < l.length), j < i → p l[j] = true) : (l.take i).filter p = l.take i := by
  rw [List.filter_eq_self]
  intro x hx
  obtain ⟨j, hj, rfl⟩ := List.getElem_of_mem hx
  rw [List.getElem_take]
  exact h j (by simp at hj; omega) (by simp at hj; omega)

theorem below_setCells {B b : Nat} {w0 : World} (hb : B ≤ b) : ∀ (vs : List Value) (o : Nat) (w : World), Below B w0 w → Below B w0 (w.setCells b o vs)
  | [], _, _, h => h
  | v :: vs, o, w, h => below_setCells hb vs (o + 1) _ (h.setCell (p := ⟨b, o, none⟩) hb v)
def keptL (f t : ByteArray) (l : List Pr) : List Pr := l.filter fun x => !outB f t x
/-- What is kept so far lies in front; from j on all is as it was. -/
def Half (l : List Pr) (p : Pr → Bool) (j : Nat) (M : List Pr) : Prop := M.length = l.length ∧ M.take ((l.take j).filter p).length = (l.take j).filter p ∧ M.drop j = l.drop j
theorem Half.skip {l M : List Pr} {p : Pr → Bool} {j : Nat} (h : Half l p j M) (hj : j < l.length) (hp : p l[j] = false) : Half l p (j + 1) M ∧ (l.take (j + 1)).filter p = (l.take j).filter p := by
  have e : (l.take (j + 1)).filter p = (l.take j).filter p := by rw [filter_take_succ hj, hp]; simp
  refine ⟨⟨h.1, by rw [e]; exact h.2.1, ?_⟩, e⟩
  rw [← List.drop_drop, h.2.2, List.drop_drop]
theorem kept_le (l : List Pr) (p : Pr → Bool) (j : Nat) : ((l.take j).filter p).length ≤ j := Nat.le_trans (List.length_filter_le _ _) (List.length_take_le _ _)
theorem Half.keep {l M : List Pr} {p : Pr → Bool} {j : Nat} (h : Half l p j M) (hj : j < l.length) (hp : p l[j] = true) : Half l p (j + 1) (M.set ((l.take j).filter p).length l[j]) ∧ ((l.take (j + 1)).filter p).length = ((l.take j).filter p).length + 1 := by
  have e : (l.take (j + 1)).filter p = (l.take j).filter p ++ [l[j]] := by rw [filter_take_succ hj, hp]; simp
  have hk := kept_le l p j
  have e2 : ((l.take (j + 1)).filter p).length = ((l.take j).filter p).length + 1 := by rw [e]; simp
  refine ⟨⟨by rw [List.length_set]; exact h.1, ?_, ?_⟩, e2⟩
  · rw [e2, e]
    have hM : ((l.take j).filter p).length < (M.set ((l.take j).filter p).length l[j]).length := by rw [List.length_set, h.1]; omega
    rw [List.take_succ_eq_append_getElem hM, List.getElem_set_self, List.take_set_of_le (Nat.le_refl _), h.2.1]
  · rw [List.drop_set_of_lt (by omega), ← List.drop_drop, h.2.2, List.drop_drop]
theorem Half.get {l M : List Pr} {p : Pr → Bool} {j : Nat} (h : Half l p j M) (hj : j < l.length) (hM : j < M.length) : M[j] = l[j] := by
  have h1 : (M.drop j)[0]? = (l.drop j)[0]? := by rw [h.2.2]
  rw [List.getElem?_drop, List.getElem?_drop, Nat.add_zero, List.getElem?_eq_getElem hM, List.getElem?_eq_getElem hj] at h1
  exact Option.some.inj h1

set_option maxRecDepth 100000 in
set_option maxHeartbeats 2000000 in
theorem delete_any (A : Option Addr) (c base : Nat) (l : List Pr) (f t : ByteArray) (Bf Bt : Nat) (w : World) (hP : PRow w base A c l) (hll : l.length ≤ 4611686018427387904) (hbase : base ≤ w.heap.size) (hf : Blk w Bf [.string f]) (ht : Blk w Bt [.string t]) (hfb : Bf < base) (htb : Bt < base) :
    Calls Try.prog 40 #[.slice A l.length c, .func (.func 42) #[] #[.pointer (some ⟨Bf, 0, none⟩), .pointer (some ⟨Bt, 0, none⟩)]] w fun e w' => e = .returned (.slice A (keptL f t l).length c) ∧ PRow w' base A c (keptL f t l) ∧ Below base w w' := by
  obtain ⟨L, hL⟩ : ∃ L, L = keptL f t l := ⟨_, rfl⟩
  rw [← hL]
  unfold keptL at hL
  go_enter Try.func40, Try.ntmps40
  go_wp2_with fail
  refine (indexR_any A c l f t Bf Bt w hP.row hll hf ht).mono ?_
  rintro e w1 ⟨k, rfl, hk, hw1⟩
  have hP1 := hP.below hw1
  have hb1 : Below base w w1 := hw1.mono hbase
  have hf1 := hf.below hw1 hf.lt
  have ht1 := ht.below hw1 ht.lt
  have hs1 := hw1.size
  clear hw1 hP hf ht
  rcases hk with ⟨rfl, hno⟩ | ⟨i, rfl, hi, hlo, hhi⟩
  · have hLl : L = l := by
      rw [hL, List.filter_eq_self]
      intro x hx
      rw [hno x hx]; rfl
    clear hno
    subst hLl
    replace hL := Lib.hid hL
    go_wp2_with fail
    go_ret
    exact ⟨rfl, hP1, hb1⟩
  · obtain ⟨b, o, rfl, hbl, _⟩ := hP1.row i hi
    have hth := hP1.there
    have hnew := hP1.new _ rfl
    have hcap := hP1.cap
    have hrow := hP1.row
    obtain ⟨kp, hkp⟩ : ∃ kp : Pr → Bool, kp = fun x => !outB f t x := ⟨_, rfl⟩
    rw [← hkp] at hL
    have hK0 : (l.take (i + 1)).filter kp = l.take i := by
      rw [filter_take_succ hi, take_filter_none (fun j h hj => by rw [hkp]; simp [hlo j h hj])]
      rw [hkp]; simp [hhi hi]
    have hH0 : Half l kp (i + 1) l := ⟨rfl, by rw [hK0]; simp, rfl⟩
    have hl0 : ((l.take (i + 1)).filter kp).length = i := by rw [hK0]; simp; omega
    have hlt0 : L.length < l.length := by
      rw [hL]
      exact List.length_filter_lt_length_iff_exists.2 ⟨l[i], List.getElem_mem _, by rw [hkp]; simp [hhi hi]⟩
    have hkey := Lib.hid (fun x => congrFun hkp x)
    clear hlo hhi hK0 hP1
    replace hL := Lib.hid hL
    replace hkp := Lib.hid hkp
    replace hl0 := Lib.hid hl0
    have hneg : ((i : Int) == -1) = false := by simp
    go_wp2_with fail
    go_loopw [5, 6] (fun u v wr => ∃ (j : Nat) (M : List Pr) (kl : Nat), j ≤ l.length ∧ kl = ((l.take j).filter kp).length ∧ u = .int .i64 kl ∧ v = .int .i64 j ∧ Half l kp j M ∧ LAt wr (some ⟨b, o, none⟩) 3 prL M ∧ wr.there b o (l.length * 3) ∧ Below base w1 wr ∧ w1.heap.size ≤ wr.heap.size) (fun _ v _ => l.length - (intOf v).toNat)
    case atStart => exact ⟨i + 1, l, i, by omega, hl0.out.symm, rfl, by go_num, hH0, hrow, hth, Below.refl _ _, Nat.le_refl _⟩
    case round =>
      clear hH0 hrow hth
      obtain ⟨j, M, kl, hj, hkl, rfl, rfl, hH, hrow, hth, hb, hsz⟩ := hrel
      have hklj : kl ≤ j := by rw [hkl]; exact kept_le _ _ _
      have hMl := hH.1
      have hf2 : Blk wr Bf [.string f] := hf1.of_heap (hb.block Bf hfb)
      have ht2 : Blk wr Bt [.string t] := ht1.of_heap (hb.block Bt htb)
      by_cases hlt : j < l.length
      · obtain ⟨b', o', e', hbl2, ca⟩ := hrow j (by omega)
        cases e'
        rw [hH.get hlt (by omega)] at ca
        have hsk := fun hp => hH.skip hlt hp
        have hkk := fun hp => hH.keep hlt hp
        rw [← hkl] at hkk
        have hc := closureR_any l[j] f t Bf Bt (wr.alloc (.cells #[.string l[j].key, .string l[j].val, .int .i64 l[j].off] 56)) (hf2.alloc _) (ht2.alloc _)
        have hkx := hkey.out l[j]
        have hltI : (j : Int) < (l.length : Int) := by omega
        replace hkl := Lib.hid hkl
        replace hMl := Lib.hid hMl
        cases hx : outB f t l[j] with
        | true =>
          rw [hx] at hc hkx
          obtain ⟨hH2, e2⟩ := hsk (by rw [hkx]; rfl)
          have hkl2 := Lib.hid (show kl = ((l.take (j + 1)).filter kp).length by rw [e2, hkl.out])
          clear hsk hkk hkx hx e2
          generalize l[j] = x at ca hc
          have a0 : wr.cell? ⟨b, o + j * 3, none⟩ = some (.string x.key) := ca 0 _ rfl
          have a1 : wr.cell? ⟨b, o + j * 3 + 1, none⟩ = some (.string x.val) := ca 1 _ rfl
          have a2 : wr.cell? ⟨b, o + j * 3 + 2, none⟩ = some (.int .i64 x.off) := ca 2 _ rfl
          clear ca
          replace hc := Lib.hid hc
          go_wp2_with (go_at_call 42; refine hc.out.mono ?_; rintro e w2 ⟨rfl, b2⟩)
          have hW : Below wr.heap.size wr w2 := bl_tr (bl_alloc (Below.refl _ _) _) b2
          have hth2 : w2.there b o (l.length * 3) := fun q hq => by
            rw [hW.cell (p := ⟨b, o + q, none⟩) hbl2, hW.frozen (p := ⟨b, o + q, none⟩) hbl2]; exact hth q hq
          go_roundw
          case rel => exact ⟨j + 1, M, kl, by omega, hkl2.out, rfl, by go_num, hH2, hrow.below hW, hth2, hb.trans (hW.mono (by omega)), Nat.le_trans hsz hW.size⟩
          case measure => simp [intOf]; omega
        | false =>
          rw [hx] at hc hkx
          obtain ⟨hH2, e2⟩ := hkk (by rw [hkx]; rfl)
          have hkl2 := Lib.hid (show kl + 1 = ((l.take (j + 1)).filter kp).length by rw [e2])
          clear hsk hkk hkx hx e2
          generalize l[j] = x at ca hc hH2
          have a0 : wr.cell? ⟨b, o + j * 3, none⟩ = some (.string x.key) := ca 0 _ rfl
          have a1 : wr.cell? ⟨b, o + j * 3 + 1, none⟩ = some (.string x.val) := ca 1 _ rfl
          have a2 : wr.cell? ⟨b, o + j * 3 + 2, none⟩ = some (.int .i64 x.off) := ca 2 _ rfl
          clear ca
          replace hc := Lib.hid hc
          have hB0 : Blk (wr.alloc (.cells #[.string x.key, .string x.val, .int .i64 x.off] 56)) wr.heap.size [.string x.key, .string x.val, .int .i64 x.off] := Blk.new' _ _ rfl
          have hkI : (kl : Int) < (l.length : Int) := by omega
          go_wp2_with (go_at_call 42; refine hc.out.mono ?_; rintro e w2 ⟨rfl, b2⟩; have hB2 := hB0.below b2 hB0.lt; have q0 := hB2.get (j := 0) rfl; have q1 := hB2.get (j := 1) rfl; have q2 := hB2.get (j := 2) rfl; have hW : Below wr.heap.size wr w2 := bl_tr (bl_alloc (Below.refl _ _) _) b2; have hth2 : w2.there b o (l.length * 3) := fun q hq => by { rw [hW.cell (p := ⟨b, o + q, none⟩) hbl2, hW.frozen (p := ⟨b, o + q, none⟩) hbl2]; exact hth q hq }; obtain ⟨v0, k0⟩ := Option.isSome_iff_exists.1 (hth2 (kl * 3) (by omega)).1; obtain ⟨v1, k1⟩ := Option.isSome_iff_exists.1 (hth2 (kl * 3 + 1) (by omega)).1; obtain ⟨v2, k2⟩ := Option.isSome_iff_exists.1 (hth2 (kl * 3 + 2) (by omega)).1; have u0 := (hth2 (kl * 3) (by omega)).2; have u1 := (hth2 (kl * 3 + 1) (by omega)).2; have u2 := (hth2 (kl * 3 + 2) (by omega)).2; simp only [← Nat.add_assoc] at k1 k2 u1 u2; replace hth2 := Lib.hid hth2)
          have hset := LAt.set (hrow.below hW) (by rw [hMl.out]; exact hth2.out) kl (by rw [hMl.out]; omega) x
          have hth3 := there_set (there_set (there_set hth2.out b (o + kl * 3) (.string x.key)) b (o + kl * 3 + 1) (.string x.val)) b (o + kl * 3 + 2) (.int .i64 x.off)
          have hb3 : Below base w1 (((w2.setCell ⟨b, o + kl * 3, none⟩ (.string x.key)).setCell ⟨b, o + kl * 3 + 1, none⟩ (.string x.val)).setCell ⟨b, o + kl * 3 + 2, none⟩ (.int .i64 x.off)) :=
            (((hb.trans (hW.mono (by omega))).setCell (p := ⟨b, o + kl * 3, none⟩) hnew _).setCell (p := ⟨b, o + kl * 3 + 1, none⟩) hnew _).setCell (p := ⟨b, o + kl * 3 + 2, none⟩) hnew _
          have hWs := hW.size
          go_roundw
          case rel => exact ⟨j + 1, _, kl + 1, by omega, hkl2.out, by go_num, by go_num, hH2, hset, hth3, hb3, by simp [World.setCell]; omega⟩
          case measure => simp [intOf]; omega
      · obtain rfl : j = l.length := by omega
        rw [List.take_length] at hkl
        have hkL : kl = L.length := by rw [hkl, hL.out]
        obtain ⟨zs, hzl, hcl⟩ := run_clear26 wr b (o + kl * 3) (l.length - kl) (c - kl) (fun q hq => by
          have := hth (kl * 3 + q) (by omega)
          rwa [show o + (kl * 3 + q) = o + kl * 3 + q from by omega] at this)
        have hlL : LAt (wr.setCells b (o + kl * 3) zs) (some ⟨b, o, none⟩) 3 prL L := by
          have h1 := hH.2.1
          rw [List.take_length, ← hkl, ← hL.out] at h1
          have h2 := hrow.take kl
          rw [h1] at h2
          intro q hq
          obtain ⟨b', o', e', hlt', hc'⟩ := h2 q hq
          cases e'
          exact ⟨b, o, rfl, by rw [setCells_size]; exact hlt', World.rangeAt_setCells_apart hc' _ _ _ (by rw [prL_len]; omega)⟩
        have hun : ∀ q, q < L.length * 3 → (wr.setCells b (o + kl * 3) zs).frozen? ⟨b, o + q, none⟩ = false := fun q hq => by
          rw [World.frozen?_setCells]; exact (hth q (by omega)).2
        have hbF : Below base w1 (wr.setCells b (o + kl * 3) zs) := below_setCells hnew zs _ wr hb
        have hk1 : (0 : Int) ≤ (kl : Int) := by omega
        have hk2 : (kl : Int) ≤ (l.length : Int) := by omega
        have hk3 : (kl : Int) ≤ (c : Int) := by omega
        have hck : ¬ c = kl := by omega
        obtain rfl : L.length = kl := hkL.symm
        clear hrow hth hH hkl hzl
        go_wp2_with fail
        go_ret
        exact ⟨rfl, ⟨hlL, by omega, fun a e => by cases e; exact hnew, fun a e q hq => by cases e; exact hun q hq⟩, hb1.trans hbF⟩
end Go.Proofs.Ytjokpjfmnjefdaa
