/- same, and cmp.Compare at strings. -/
import Derived.Test.YtjokpjfmnjefdaaGt
namespace Go.Proofs.Ytjokpjfmnjefdaa
open Go.RowKit Go.Shelf
attribute [local go_sem] Oper.semAt_some

/-- cmp.Compare. -/
def cmpS (x y : ByteArray) : Int := if sb x y then -1 else if x = y then 0 else 1

set_option maxHeartbeats 1000000 in
theorem isNaN_any (x : ByteArray) (w : World) : Calls Try.prog 61 #[.string x] w fun e w' => e = .returned (.bool false) ∧ w' = w := by
  have hd : (x.toList == x.toList) = true := by simp
  go_enter Try.func61, Try.ntmps61
  go_wp2_with fail
  go_ret
  exact ⟨rfl, rfl⟩
set_option maxHeartbeats 1000000 in
theorem compare_any (x y : ByteArray) (w : World) : Calls Try.prog 47 #[.string x, .string y] w fun e w' => e = .returned (.int .i64 (cmpS x y)) ∧ w' = w := by
  have hc : ∃ b1 b2 : Bool, Op.bytesLess x.toList y.toList = b1 ∧ (x.toList == y.toList) = b2 ∧ cmpS x y = (if b1 then -1 else if b2 then 0 else 1) := ⟨_, _, rfl, rfl, by rw [str_lt, str_eq]; simp [cmpS]⟩
  obtain ⟨b1, b2, h1, h2, h3⟩ := hc
  rw [h3]
  clear h3
  cases b1 with
  | true =>
    go_enter Try.func47, Try.ntmps47
    go_wp2_with (go_at_call 61; refine (isNaN_any _ _).mono ?_; rintro e w' ⟨rfl, rfl⟩)
    go_ret
    exact ⟨rfl, rfl⟩
  | false =>
    cases b2 with
    | true =>
      go_enter Try.func47, Try.ntmps47
      go_wp2_with (go_at_call 61; refine (isNaN_any _ _).mono ?_; rintro e w' ⟨rfl, rfl⟩)
      go_ret
      exact ⟨rfl, rfl⟩
    | false =>
      go_enter Try.func47, Try.ntmps47
      go_wp2_with (go_at_call 61; refine (isNaN_any _ _).mono ?_; rintro e w' ⟨rfl, rfl⟩)
      go_ret
      exact ⟨rfl, rfl⟩

set_option maxHeartbeats 1000000 in
theorem closure_any (x y : Pr) (w : World) : Calls Try.prog 54 #[.agg #[.string x.key, .string x.val, .int .i64 x.off], .agg #[.string y.key, .string y.val, .int .i64 y.off]] w fun e w' => e = .returned (.int .i64 (cmpS x.key y.key)) ∧ ∃ o1 o2, w' = (w.alloc o1).alloc o2 := by
  go_enter Try.func54, Try.ntmps54
  go_wp2_with (go_at_call 47; refine (compare_any _ _ _).mono ?_; rintro e w' ⟨rfl, rfl⟩)
  go_ret
  exact ⟨rfl, _, _, rfl⟩

set_option maxRecDepth 100000 in
set_option maxHeartbeats 2000000 in
theorem same_any (A B : Option Addr) (c d : Nat) (l m : List Pr) (w : World) (hl : LAt w A 3 prL l) (hm : LAt w B 3 prL m) (hll : l.length ≤ 4611686018427387904) (hml : m.length ≤ 4611686018427387904) :
    Calls Try.prog 13 #[.slice A l.length c, .slice B m.length d] w fun e w' => ∃ b : Bool, e = .returned (.bool b) ∧ (b = true ↔ l = m) ∧ Below w.heap.size w w' := by
  by_cases hlen : l.length = m.length
  · rw [← hlen] at hml ⊢
    go_enter Try.func13, Try.ntmps13
    go_wp2_with fail
    go_loopw [5] (fun u wr => ∃ i : Nat, u = .int .i64 i ∧ i ≤ l.length ∧ (∀ j (h : j < l.length), j < i → l[j] = m[j]'(by omega)) ∧ Below w.heap.size w wr) (fun u _ => l.length - (intOf u).toNat)
    case atStart => exact ⟨0, rfl, Nat.zero_le _, fun j h hj => by omega, Below.refl _ _⟩
    case round =>
      obtain ⟨i, rfl, hi, hr, hb⟩ := hrel
      by_cases hlt : i < l.length
      · obtain ⟨b, o, rfl, hbl, ca⟩ := (hl.below hb) i hlt
        obtain ⟨b', o', rfl, hbl', cb⟩ := (hm.below hb) i (by omega)
        have hmm := Lib.hid (show ∀ x y, l[i] = x → m[i]'(by omega) = y → (x = y → ∀ j (h : j < l.length), j < i + 1 → l[j] = m[j]'(by omega)) ∧ (x ≠ y → l ≠ m) from fun x y hx hy => by
          subst hx hy
          refine ⟨fun he j h hj => ?_, fun hn he => hn (by subst he; rfl)⟩
          by_cases e : j = i
          · subst e; exact he
          · exact hr j h (by omega))
        have hm2 := Lib.hid (hmm.out l[i] (m[i]'(by omega)) rfl rfl)
        generalize l[i] = x at ca hm2
        generalize m[i]'(by omega) = y at cb hm2
        obtain ⟨xk, xv, xo⟩ := x
        obtain ⟨yk, yv, yo⟩ := y
        have a0 : wr.cell? ⟨b, o + i * 3, none⟩ = some (.string xk) := ca 0 _ rfl
        have a1 : wr.cell? ⟨b, o + i * 3 + 1, none⟩ = some (.string xv) := ca 1 _ rfl
        have a2 : wr.cell? ⟨b, o + i * 3 + 2, none⟩ = some (.int .i64 xo) := ca 2 _ rfl
        have b0 : wr.cell? ⟨b', o' + i * 3, none⟩ = some (.string yk) := cb 0 _ rfl
        have b1 : wr.cell? ⟨b', o' + i * 3 + 1, none⟩ = some (.string yv) := cb 1 _ rfl
        have b2 : wr.cell? ⟨b', o' + i * 3 + 2, none⟩ = some (.int .i64 yo) := cb 2 _ rfl
        have hltI : (i : Int) < (l.length : Int) := by omega
        clear ca cb hmm hr hl hm
        by_cases hk : xk = yk
        · have hd1 : (xk.toList == yk.toList) = true := by rw [str_eq]; simpa using hk
          have hk2 := Lib.hid hk
          clear hk
          by_cases hv : xv = yv
          · have hd2 : (xv.toList == yv.toList) = true := by rw [str_eq]; simpa using hv
            have hv2 := Lib.hid hv
            clear hv
            by_cases ho : xo = yo
            · have hd3 : (xo == yo) = true := by simpa using ho
              have hg := Lib.hid (hm2.out.1 (by rw [hk2.out, hv2.out, ho]))
              clear ho hm2
              go_wp2_with fail
              go_quiet (fail)
              go_wp2_with fail
              exact ⟨⟨i + 1, by go_num, by omega, hg.out, bl_drewN hb _⟩, by simp [intOf]; omega⟩
            · have hd3 : (xo == yo) = false := by simpa using ho
              have hg := Lib.hid (hm2.out.2 (by intro e; injection e; contradiction))
              clear ho hm2
              go_wp2_with fail
              go_quiet (fail)
              go_wp2_with fail
              go_ret
              exact ⟨false, rfl, by simp [hg.out], bl_drewN hb _⟩
          · have hd2 : (xv.toList == yv.toList) = false := by rw [str_eq]; simpa using hv
            have hg := Lib.hid (hm2.out.2 (by intro e; injection e; contradiction))
            clear hv hm2
            go_wp2_with fail
            go_quiet (fail)
            go_wp2_with fail
            go_ret
            exact ⟨false, rfl, by simp [hg.out], bl_drewN hb _⟩
        · have hd1 : (xk.toList == yk.toList) = false := by rw [str_eq]; simpa using hk
          have hg := Lib.hid (hm2.out.2 (by intro e; injection e; contradiction))
          clear hk hm2
          go_wp2_with fail
          go_quiet (fail)
          go_wp2_with fail
          go_ret
          exact ⟨false, rfl, by simp [hg.out], bl_drewN hb _⟩
      · obtain rfl : i = l.length := by omega
        have hg := Lib.hid (show l = m from List.ext_getElem hlen fun j h h' => hr j h h)
        clear hr
        go_wp2_with fail
        go_ret
        exact ⟨true, rfl, by simp [hg.out], hb⟩
  · have hd : ((l.length : Int) == (m.length : Int)) = false := by rw [beq_eq_false_iff_ne]; omega
    have hg := Lib.hid (show l ≠ m from fun e => hlen (by rw [e]))
    generalize l.length = n at hd hll ⊢
    generalize m.length = n' at hd hml ⊢
    clear hlen
    go_enter Try.func13, Try.ntmps13
    go_wp2_with fail
    go_ret
    exact ⟨false, rfl, by simp [hg.out], Below.refl _ _⟩
end Go.Proofs.Ytjokpjfmnjefdaa
