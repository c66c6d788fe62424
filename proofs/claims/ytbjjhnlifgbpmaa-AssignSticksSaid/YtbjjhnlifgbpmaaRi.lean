/- The document's sorted (22). -/
import Derived.Test.YtbjjhnlifgbpmaaRa
import Derived.Test.YtbjjhnlifgbpmaaSq
import Derived.Test.YtbjjhnlifgbpmaaSy
namespace Go.Proofs.Ytbjjhnlifgbpmaa
open Go.RowKit Go.Shelf
attribute [local go_sem] Oper.semAt_some

theorem ownsRow_take {w : World} {base : Nat} {e : TypeId} {A : Option Addr} {n c k : Nat} {xs : List Value} (h : w.ownsRow base e 1 (.slice A n c) n xs) (hk : k ≤ n) : w.ownsRow base e 1 (.slice A k c) k (xs.take k) := by
  obtain ⟨h1, ⟨e1, h2⟩ | ⟨g, cap, cur, e1, hb, hh, hle, hcl, hcs, htk⟩⟩ := h
  · simp only [Value.slice.injEq] at e1
    obtain ⟨rfl, rfl, rfl⟩ := e1
    obtain rfl : k = 0 := by omega
    exact ⟨by simp, .inl ⟨rfl, rfl⟩⟩
  · simp only [Value.slice.injEq] at e1
    obtain ⟨rfl, _, rfl⟩ := e1
    refine ⟨by rw [List.length_take, h1]; omega, .inr ⟨g, c, cur, rfl, hb, hh, by omega, hcl, hcs, ?_⟩⟩
    rw [← htk, List.take_take, Nat.mul_one, Nat.mul_one, Nat.min_eq_left hk]
theorem flatS_take (l : List ByteArray) (k : Nat) : (l.flatMap encS).take k = (l.take k).flatMap encS := by rw [encS_map, encS_map, List.map_take]
theorem flatS_drop (l : List ByteArray) (k : Nat) : (l.flatMap encS).drop k = (l.drop k).flatMap encS := by rw [encS_map, encS_map, List.map_drop]

theorem src_of {w : World} {B d : Nat} {A : Option Addr} {c : Nat} {l : List ByteArray} (h : w.ownsRow B 9 1 (.slice A d c) d (l.flatMap encS)) (hl : l.length = d) : SrcAt w A d 1 (l.flatMap encS) := by
  subst hl; exact (LAt.of_own encS_len h rfl).src encS_len (by omega)
theorem rows_ne {w : World} {B n : Nat} {e : TypeId} {v v' : Value} {xs : List Value} (h : w.ownsRow B e 1 v n xs) (hlt : ∀ b, v'.ownBlock = some b → b < B) : v.ownBlock = none ∨ v.ownBlock ≠ v'.ownBlock := by
  cases hv : v.ownBlock with
  | none => exact .inl rfl
  | some b => exact .inr fun e => by have := hlt b e.symm; have := ownsRow_base h hv; omega
/-- What is put in behind all that is not above it. -/
theorem ins_ok {L : List ByteArray} {x : ByteArray} {k : Nat} (hk : k ≤ L.length) (hs : L.Pairwise fun a b => sb b a = false) (hup : ∀ j (h : j < L.length), k ≤ j → sb x L[j] = true) (hdn : ∀ h : 0 < k, sb x (L[k - 1]'(by omega)) = false) :
    (L.take k ++ [x] ++ L.drop k).Pairwise (fun a b => sb b a = false) ∧ (L.take k ++ [x] ++ L.drop k).Perm (L ++ [x]) := by
  have asym : ∀ a b, sb a b = true → sb b a = false := fun a b h => by
    cases h2 : sb b a with
    | false => rfl
    | true => have := sb_trans h h2; rw [sb_irrefl] at this; cases this
  refine ⟨?_, ?_⟩
  · rw [List.append_assoc, List.pairwise_append]
    refine ⟨hs.sublist (List.take_sublist ..), ?_, ?_⟩
    · rw [List.singleton_append, List.pairwise_cons]
      refine ⟨fun y hy => ?_, hs.sublist (List.drop_sublist ..)⟩
      obtain ⟨j, hj, rfl⟩ := List.getElem_of_mem hy
      rw [List.getElem_drop]
      exact asym _ _ (hup (k + j) (by simp at hj; omega) (by omega))
    · intro a ha b hb
      obtain ⟨i, hi, rfl⟩ := List.getElem_of_mem ha
      have hi' : i < k := by simp at hi; omega
      rw [List.getElem_take]
      rcases List.mem_cons.1 (by simpa using hb) with rfl | hb
      · have h1 := hdn (by omega)
        by_cases e : i = k - 1
        · subst e; exact h1
        · have h2 := List.pairwise_iff_getElem.1 hs i (k - 1) (by omega) (by omega) (by omega)
          cases h3 : sb b L[i] with
          | false => rfl
          | true =>
            by_cases e2 : L[i]'(by omega) = L[k - 1]'(by omega)
            · rw [e2] at h3; rw [h3] at h1; cases h1
            · rcases sb_total e2 with h4 | h4
              · have := sb_trans h3 h4; rw [this] at h1; cases h1
              · rw [h4] at h2; cases h2
      · obtain ⟨j, hj, rfl⟩ := List.getElem_of_mem hb
        rw [List.getElem_drop]
        exact List.pairwise_iff_getElem.1 hs i (k + j) (by omega) (by simp at hj; omega) (by omega)
  · have h1 : (L.take k ++ [x] ++ L.drop k).Perm (L.take k ++ (L.drop k ++ [x])) := by
      rw [List.append_assoc]
      exact List.Perm.append_left _ List.perm_append_comm
    rw [← List.append_assoc, List.take_append_drop] at h1
    exact h1

set_option maxRecDepth 100000 in
set_option maxHeartbeats 8000000 in
theorem sorted_any (A : Option Addr) (c : Nat) (ml : List ByteArray) (w : World) (hm : LAt w A 1 encS ml) (hml : ml.length * 16 ≤ 140737488351232) :
    Calls Try.prog 22 #[.slice A ml.length c] w fun e w' => ∃ A' c', e = .returned (.slice A' ml.length c') ∧ LAt w' A' 1 encS (sortS ml) ∧ Below w.heap.size w w' := by
  obtain ⟨k0, hk0i, hkzi, hk1, hk2⟩ := info_parts infoS
  go_enter Try.func22, Try.ntmps22
  go_wp2_with fail
  go_loopw [3, 4] (fun v u wr => ∃ (i : Nat) (A1 : Option Addr) (c1 : Nat) (L : List ByteArray), i ≤ ml.length ∧ L.length = i ∧ v = .slice A1 i c1 ∧ u = .int .i64 i ∧ L.Perm (ml.take i) ∧ (L.Pairwise fun a b => sb b a = false) ∧ wr.ownsRow w.heap.size 9 1 (.slice A1 i c1) i (L.flatMap encS) ∧ Below w.heap.size w wr) (fun _ u _ => ml.length - (intOf u).toNat)
  case atStart => exact ⟨0, none, 0, [], Nat.zero_le _, rfl, rfl, rfl, by simp, List.Pairwise.nil, World.ownsRow_nil _ _ _ _, Below.refl _ _⟩
  case round =>
    obtain ⟨i, A1, c1, L, hi, hLi, rfl, rfl, hperm, hsrt, hown, hb⟩ := hrel
    by_cases hlt : i < ml.length
    · obtain ⟨g, o, rfl, hg, hc⟩ := (hm.low (n := w.heap.size) hb hm.bel) i hlt
      have hgw : g < w.heap.size := by obtain ⟨g', o', e, h1, _⟩ := hm i hlt; cases e; exact h1
      have q0 := hc 0 _ rfl
      simp only [Nat.mul_one, Nat.add_zero] at q0
      have hpn : (ml.take (i + 1)) = ml.take i ++ [ml[i]] := List.take_succ_eq_append_getElem hlt
      generalize ml[i] = x at *
      have hi0' : (0 : Int) ≤ (i : Int) := by omega
      have hilt : (i : Int) < (ml.length : Int) := by omega
      replace hperm := Lib.hid hperm
      replace hpn := Lib.hid hpn
      replace hsrt := Lib.hid hsrt
      have hlat := LAt.of_own encS_len hown hLi.symm
      have hbs := hb.size
      clear hc
      go_wp2_with fail
      go_loopw [5] (fun u wi => ∃ k : Nat, k ≤ i ∧ u = .int .i64 k ∧ (∀ j (h : j < L.length), k ≤ j → sb x L[j] = true) ∧ Below wr.heap.size wr wi) (fun u _ => (intOf u).toNat)
      case atStart => exact ⟨i, Nat.le_refl _, rfl, fun j h hj => by omega, Below.refl _ _⟩
      case round =>
        obtain ⟨k, hk, rfl, hup, hbw⟩ := hrel
        have hbw' := hbw
        replace hown := ownsRow_below hown hbw
        replace hb := hb.trans (hbw.mono hb.size)
        replace hlat := hlat.below hbw
        replace q0 := (hbw.cell (p := ⟨g, o + i, none⟩) hg).trans q0
        replace hg := Nat.lt_of_lt_of_le hg hbw.size
        replace hbs := hb.size
        replace hbw' := Lib.hid hbw'
        clear hbw
        have hk0 : (0 : Int) ≤ (k : Int) := by omega
        have hcase : (A1 = none ∧ i = 0 ∧ c1 = 0) ∨ ∃ gA, A1 = some ⟨gA, 0, none⟩ := by
          rcases hown.2 with ⟨e, h0⟩ | ⟨g', cap, cur, e, _⟩
          · simp only [Value.slice.injEq] at e; exact .inl ⟨e.1, h0, e.2.2⟩
          · simp only [Value.slice.injEq] at e; exact .inr ⟨g', e.1⟩
        rcases hcase with ⟨rfl, rfl, rfl⟩ | ⟨gA, rfl⟩
        · obtain rfl : k = 0 := by omega
          have hdn : ∀ h : 0 < 0, sb x (L[0 - 1]'(by omega)) = false := fun h => absurd h (by omega)
          replace hdn := Lib.hid hdn
          replace hup := Lib.hid hup
          have hown := hown.drew
          have hlat : LAt wr.drew _ 1 encS L := hlat
          have q0 : wr.drew.cell? _ = _ := q0
          have hg : g < wr.drew.heap.size := hg
          have hb := hb.drew
          go_wp2_with fail
          go_region
          generalize wr.drew = wr at *
          have hbs := hb.size
          go_wp2_with (refine wpList_append_srcT rfl _ _ 22 rfl wr.heap.size 9 k0 _ 1 16 Try.underlying22 hk0i hkzi hk1 hk2 rfl (by omega) (.slice (some ⟨wr.heap.size, 0, none⟩) 0 0) 0 [] rfl (ownsRow_empty wr 9 1 wr.heap.size (Nat.le_refl _)) none 0 0 ((L.drop 0).flatMap encS) rfl (by exact ⟨by rw [flat_length encS_len]; simp [hLi], fun h => absurd rfl h⟩) (flat_one encS_one _) (by simp only [maxLen]; omega) (by omega) (by simp) ?_; intro A2 c2 w2 hown2 hg2)
          have hb2 := bl_gr (bl_alloc (Below.refl wr.heap.size wr) (.cells #[] 9)) hg2 (Nat.le_refl _)
          have ho1 := ownsRow_below (ownsRow_take hown hk) hb2
          rw [flatS_take] at ho1
          have q2 := (hb2.cell (p := ⟨g, o + 0, none⟩) hg).trans q0
          try simp only [Nat.add_zero] at q2
          have hg2' : g < w2.heap.size := Nat.lt_of_lt_of_le hg hb2.size
          have hbb2 := bl_tr hb hb2
          rw [Nat.zero_add, List.nil_append] at hown2
          try simp only [Nat.zero_add]
          have hne : some g ≠ (Value.slice none 0 0).ownBlock := by intro e; have := ownsRow_base ho1 e.symm; omega
          have hne2 : ∀ b, (Value.slice none 0 0).ownBlock = some b → b < wr.heap.size := fun b e => ownsRow_lt (ownsRow_take hown hk) e
          have hbs2 := hb2.size
          have hdl : (L.drop 0).length = 0 := by simp [hLi]
          have hki : (0 : Int) ≤ (0 : Int) := by omega
          have hkc : 0 ≤ 0 := by have := ownsRow_cap hown; omega
          try go_wp2_with fail
          go_region_held3 (fun w' => (∀ o, w'.cell? ⟨g, o, none⟩ = w2.cell? ⟨g, o, none⟩) ∧ g < w'.heap.size) (first | exact bat_drew (bat_here w2 hg2') | exact bat_alloc ‹_› _ | exact bat_grown ‹_› ‹_› hne | exact bat_grown ‹_› ‹_› (by intro e; have := ownsRow_base hown3 e.symm; omega)) (first | (refine step_append_src rfl _ _ 22 rfl w.heap.size 9 k0 _ 1 16 Try.underlying22 hk0i hkzi hk1 hk2 rfl (by omega) (.slice none 0 0) 0 _ rfl (ho1.drew.alloc _) (some ⟨w2.heap.size, 0, none⟩) 1 1 (encS x) rfl (src_new w2.drew (encS x) 9 1 1 rfl) (encS_one _) (by simp only [maxLen]; omega) (by omega) (by simp; omega) ?_; intro A3 c3 w3 hown3 hg3; have hrow3 := (hown2.drew.alloc (.cells #[.string x] 9)).kept hg3 (rows_ne hown2 hne2)) | (refine step_append_src rfl _ _ 22 rfl w.heap.size 9 k0 _ 1 16 Try.underlying22 hk0i hkzi hk1 hk2 rfl (by omega) (.slice A3 1 c3) 1 _ rfl hown3 A2 0 c2 ((L.drop 0).flatMap encS) rfl (src_of hrow3 hdl) (flat_one encS_one _) (by simp only [maxLen]; omega) (by omega) (by have := hg3.size; simp at this; omega) ?_; intro A4 c4 w4 hown4 hg4))
          have hins := ins_ok (L := L) (x := x) (by omega : 0 ≤ L.length) hsrt.out hup.out hdn.out
          have e1 : 0 + 1 + 0 = 0 + 1 := by omega
          try rw [e1] at hown4
          try rw [e1]
          have hb3 := bl_own (bl_drew (bl_alloc hbb2 _)) ((ho1.alloc _).drew) (Nat.le_refl _) hg3
          have hb4 := bl_own hb3 hown3 (Nat.le_refl _) hg4
          replace hins := Lib.hid hins
          go_wp2_with fail
          refine ⟨⟨0 + 1, A4, c4, L.take 0 ++ [x] ++ L.drop 0, by omega, by simp [hLi], rfl, by go_num, by rw [hpn.out]; exact hins.out.2.trans (hperm.out.append_right _), hins.out.1, ?_, hb4⟩, by simp [intOf]; omega⟩
          simpa [List.flatMap_append, encS] using hown4
        · have hA0 := Lib.hid (show ¬ c1 = k → SrcAt (wr.alloc (.cells #[] 9)) (some ⟨gA, k, none⟩) (i - k) 1 ((L.drop k).flatMap encS) from fun _ => by
            have h1 := (hlat.below (bl_alloc (Below.refl _ _) (.cells #[] 9))).drop k
            rw [Nat.mul_one, Nat.zero_add] at h1
            have h2 := h1.src encS_len (by omega)
            rwa [List.length_drop, hLi] at h2)
          by_cases hkz : 0 < k
          · obtain ⟨m, hmk⟩ : ∃ m, m + 1 = k := ⟨k - 1, by omega⟩
            have hmL : m < L.length := by omega
            obtain ⟨ga, oa, e, hga, hca⟩ := hlat m hmL
            cases e
            have qm := hca 0 _ rfl
            simp only [Nat.mul_one, Nat.add_zero, Nat.zero_add] at qm
            have hup2 : sb x L[m] = true → ∀ j (h : j < L.length), m ≤ j → sb x L[j] = true := fun h j hj hm => by
              by_cases e : j = m
              · subst e; exact h
              · exact hup j hj (by omega)
            replace hup2 := Lib.hid hup2
            have hdn : sb x L[m] = false → ∀ h : 0 < k, sb x (L[k - 1]'(by omega)) = false := fun h _ => by subst hmk; exact h
            replace hdn := Lib.hid hdn
            generalize L[m] = y at *
            have hm0 : (0 : Int) ≤ (m : Int) := by omega
            have hmi : (m : Int) < (i : Int) := by omega
            have hkz' : decide ((0 : Int) < (k : Int)) = true := by simp; omega
            have hw1 : IntKind.i64.wrap ((k : Int) - 1) = m := by rw [IntKind.wrap_i64]; omega
            have hw2 : wrap64 ((k : Int) - 1) = m := (IntWalk.i64_left _).symm.trans hw1
            clear hca
            by_cases hxy : sb x y = true
            · have hle : (Op.bytesLess y.toList x.toList || y.toList == x.toList) = false := by rw [str_lt, str_eq, le_false hxy]
              have hup' := Lib.hid (hup2.out hxy)
              replace hup := Lib.hid hup
              replace hxy := Lib.hid hxy
              go_wp2_with fail
              go_region
              go_wp2_with fail
              exact ⟨⟨m, by omega, by go_num, hup'.out, hbw'.out.drew⟩, by simp [intOf]; omega⟩
            · have hle : (Op.bytesLess y.toList x.toList || y.toList == x.toList) = true := by rw [str_lt, str_eq, le_true hxy]
              replace hdn := Lib.hid (hdn.out (by simpa using hxy))
              replace hup := Lib.hid hup
              replace hxy := Lib.hid hxy
              clear hup2
              by_cases hck : c1 = k
              · obtain rfl : i = k := by have := ownsRow_cap hown; omega
                obtain rfl : i = c1 := hck.symm
                have hown := hown.drew
                have hlat : LAt wr.drew _ 1 encS L := hlat
                have q0 : wr.drew.cell? _ = _ := q0
                have hg : g < wr.drew.heap.size := hg
                have hb := hb.drew
                go_wp2_with fail
                go_region
                generalize wr.drew = wr at *
                have hbs := hb.size
                go_wp2_with (refine wpList_append_srcT rfl _ _ 22 rfl wr.heap.size 9 k0 _ 1 16 Try.underlying22 hk0i hkzi hk1 hk2 rfl (by omega) (.slice (some ⟨wr.heap.size, 0, none⟩) 0 0) 0 [] rfl (ownsRow_empty wr 9 1 wr.heap.size (Nat.le_refl _)) (some ⟨gA, 0, none⟩) 0 0 ((L.drop i).flatMap encS) rfl (by exact ⟨by rw [flat_length encS_len]; simp [hLi], fun h => absurd rfl h⟩) (flat_one encS_one _) (by simp only [maxLen]; omega) (by omega) (by simp) ?_; intro A2 c2 w2 hown2 hg2)
                have hb2 := bl_gr (bl_alloc (Below.refl wr.heap.size wr) (.cells #[] 9)) hg2 (Nat.le_refl _)
                have ho1 := ownsRow_below (ownsRow_take hown hk) hb2
                rw [flatS_take] at ho1
                have q2 := (hb2.cell (p := ⟨g, o + i, none⟩) hg).trans q0
                try simp only [Nat.add_zero] at q2
                have hg2' : g < w2.heap.size := Nat.lt_of_lt_of_le hg hb2.size
                have hbb2 := bl_tr hb hb2
                rw [Nat.zero_add, List.nil_append] at hown2
                try simp only [Nat.zero_add]
                have hne : some g ≠ (Value.slice (some ⟨gA, 0, none⟩) i i).ownBlock := by intro e; have := ownsRow_base ho1 e.symm; omega
                have hne2 : ∀ b, (Value.slice (some ⟨gA, 0, none⟩) i i).ownBlock = some b → b < wr.heap.size := fun b e => ownsRow_lt (ownsRow_take hown hk) e
                have hbs2 := hb2.size
                have hdl : (L.drop i).length = 0 := by simp [hLi]
                have hki : (i : Int) ≤ (i : Int) := by omega
                have hkc : i ≤ i := by have := ownsRow_cap hown; omega
                try go_wp2_with fail
                go_region_held3 (fun w' => (∀ o, w'.cell? ⟨g, o, none⟩ = w2.cell? ⟨g, o, none⟩) ∧ g < w'.heap.size) (first | exact bat_drew (bat_here w2 hg2') | exact bat_alloc ‹_› _ | exact bat_grown ‹_› ‹_› hne | exact bat_grown ‹_› ‹_› (by intro e; have := ownsRow_base hown3 e.symm; omega)) (first | (refine step_append_src rfl _ _ 22 rfl w.heap.size 9 k0 _ 1 16 Try.underlying22 hk0i hkzi hk1 hk2 rfl (by omega) (.slice (some ⟨gA, 0, none⟩) i i) i _ rfl (ho1.drew.alloc _) (some ⟨w2.heap.size, 0, none⟩) 1 1 (encS x) rfl (src_new w2.drew (encS x) 9 1 1 rfl) (encS_one _) (by simp only [maxLen]; omega) (by omega) (by simp; omega) ?_; intro A3 c3 w3 hown3 hg3; have hrow3 := (hown2.drew.alloc (.cells #[.string x] 9)).kept hg3 (rows_ne hown2 hne2)) | (refine step_append_src rfl _ _ 22 rfl w.heap.size 9 k0 _ 1 16 Try.underlying22 hk0i hkzi hk1 hk2 rfl (by omega) (.slice A3 (i + 1) c3) (i + 1) _ rfl hown3 A2 0 c2 ((L.drop i).flatMap encS) rfl (src_of hrow3 hdl) (flat_one encS_one _) (by simp only [maxLen]; omega) (by omega) (by have := hg3.size; simp at this; omega) ?_; intro A4 c4 w4 hown4 hg4))
                have hins := ins_ok (L := L) (x := x) (by omega : i ≤ L.length) hsrt.out hup.out hdn.out
                have e1 : i + 1 + 0 = i + 1 := by omega
                try rw [e1] at hown4
                try rw [e1]
                have hb3 := bl_own (bl_drew (bl_alloc hbb2 _)) ((ho1.alloc _).drew) (Nat.le_refl _) hg3
                have hb4 := bl_own hb3 hown3 (Nat.le_refl _) hg4
                replace hins := Lib.hid hins
                go_wp2_with fail
                refine ⟨⟨i + 1, A4, c4, L.take i ++ [x] ++ L.drop i, by omega, by simp [hLi], rfl, by go_num, by rw [hpn.out]; exact hins.out.2.trans (hperm.out.append_right _), hins.out.1, ?_, hb4⟩, by simp [intOf]; omega⟩
                simpa [List.flatMap_append, encS] using hown4
              · have hsrc := hA0.out hck
                clear hA0
                have hown := hown.drew
                have hlat : LAt wr.drew _ 1 encS L := hlat
                have q0 : wr.drew.cell? _ = _ := q0
                have hg : g < wr.drew.heap.size := hg
                have hb := hb.drew
                have hsrc : SrcAt (wr.drew.alloc (.cells #[] 9)) _ (i - k) 1 _ := hsrc
                go_wp2_with fail
                go_region
                generalize wr.drew = wr at *
                have hbs := hb.size
                go_wp2_with (refine wpList_append_srcT rfl _ _ 22 rfl wr.heap.size 9 k0 _ 1 16 Try.underlying22 hk0i hkzi hk1 hk2 rfl (by omega) (.slice (some ⟨wr.heap.size, 0, none⟩) 0 0) 0 [] rfl (ownsRow_empty wr 9 1 wr.heap.size (Nat.le_refl _)) (some ⟨gA, k, none⟩) (i - k) (c1 - k) ((L.drop k).flatMap encS) rfl hsrc (flat_one encS_one _) (by simp only [maxLen]; omega) (by omega) (by simp) ?_; intro A2 c2 w2 hown2 hg2)
                have hb2 := bl_gr (bl_alloc (Below.refl wr.heap.size wr) (.cells #[] 9)) hg2 (Nat.le_refl _)
                have ho1 := ownsRow_below (ownsRow_take hown hk) hb2
                rw [flatS_take] at ho1
                have q2 := (hb2.cell (p := ⟨g, o + i, none⟩) hg).trans q0
                try simp only [Nat.add_zero] at q2
                have hg2' : g < w2.heap.size := Nat.lt_of_lt_of_le hg hb2.size
                have hbb2 := bl_tr hb hb2
                rw [Nat.zero_add, List.nil_append] at hown2
                try simp only [Nat.zero_add]
                have hne : some g ≠ (Value.slice (some ⟨gA, 0, none⟩) k c1).ownBlock := by intro e; have := ownsRow_base ho1 e.symm; omega
                have hne2 : ∀ b, (Value.slice (some ⟨gA, 0, none⟩) k c1).ownBlock = some b → b < wr.heap.size := fun b e => ownsRow_lt (ownsRow_take hown hk) e
                have hbs2 := hb2.size
                have hdl : (L.drop k).length = (i - k) := by simp [hLi]
                have hki : (k : Int) ≤ (i : Int) := by omega
                have hkc : k ≤ c1 := by have := ownsRow_cap hown; omega
                try go_wp2_with fail
                go_region_held3 (fun w' => (∀ o, w'.cell? ⟨g, o, none⟩ = w2.cell? ⟨g, o, none⟩) ∧ g < w'.heap.size) (first | exact bat_drew (bat_here w2 hg2') | exact bat_alloc ‹_› _ | exact bat_grown ‹_› ‹_› hne | exact bat_grown ‹_› ‹_› (by intro e; have := ownsRow_base hown3 e.symm; omega)) (first | (refine step_append_src rfl _ _ 22 rfl w.heap.size 9 k0 _ 1 16 Try.underlying22 hk0i hkzi hk1 hk2 rfl (by omega) (.slice (some ⟨gA, 0, none⟩) k c1) k _ rfl (ho1.drew.alloc _) (some ⟨w2.heap.size, 0, none⟩) 1 1 (encS x) rfl (src_new w2.drew (encS x) 9 1 1 rfl) (encS_one _) (by simp only [maxLen]; omega) (by omega) (by simp; omega) ?_; intro A3 c3 w3 hown3 hg3; have hrow3 := (hown2.drew.alloc (.cells #[.string x] 9)).kept hg3 (rows_ne hown2 hne2)) | (refine step_append_src rfl _ _ 22 rfl w.heap.size 9 k0 _ 1 16 Try.underlying22 hk0i hkzi hk1 hk2 rfl (by omega) (.slice A3 (k + 1) c3) (k + 1) _ rfl hown3 A2 (i - k) c2 ((L.drop k).flatMap encS) rfl (src_of hrow3 hdl) (flat_one encS_one _) (by simp only [maxLen]; omega) (by omega) (by have := hg3.size; simp at this; omega) ?_; intro A4 c4 w4 hown4 hg4))
                have hins := ins_ok (L := L) (x := x) (by omega : k ≤ L.length) hsrt.out hup.out hdn.out
                have e1 : k + 1 + (i - k) = i + 1 := by omega
                try rw [e1] at hown4
                try rw [e1]
                have hb3 := bl_own (bl_drew (bl_alloc hbb2 _)) ((ho1.alloc _).drew) (Nat.le_refl _) hg3
                have hb4 := bl_own hb3 hown3 (Nat.le_refl _) hg4
                replace hins := Lib.hid hins
                go_wp2_with fail
                refine ⟨⟨i + 1, A4, c4, L.take k ++ [x] ++ L.drop k, by omega, by simp [hLi]; omega, rfl, by go_num, by rw [hpn.out]; exact hins.out.2.trans (hperm.out.append_right _), hins.out.1, ?_, hb4⟩, by simp [intOf]; omega⟩
                simpa [List.flatMap_append, encS] using hown4
          · have hkz' : decide ((0 : Int) < (k : Int)) = false := by simp; omega
            have hdn : ∀ h : 0 < k, sb x (L[k - 1]'(by omega)) = false := fun h => absurd h hkz
            replace hdn := Lib.hid hdn
            replace hup := Lib.hid hup
            by_cases hck : c1 = k
            · obtain rfl : i = k := by have := ownsRow_cap hown; omega
              obtain rfl : i = c1 := hck.symm
              have hown := hown.drew
              have hlat : LAt wr.drew _ 1 encS L := hlat
              have q0 : wr.drew.cell? _ = _ := q0
              have hg : g < wr.drew.heap.size := hg
              have hb := hb.drew
              go_wp2_with fail
              go_region
              generalize wr.drew = wr at *
              have hbs := hb.size
              go_wp2_with (refine wpList_append_srcT rfl _ _ 22 rfl wr.heap.size 9 k0 _ 1 16 Try.underlying22 hk0i hkzi hk1 hk2 rfl (by omega) (.slice (some ⟨wr.heap.size, 0, none⟩) 0 0) 0 [] rfl (ownsRow_empty wr 9 1 wr.heap.size (Nat.le_refl _)) (some ⟨gA, 0, none⟩) 0 0 ((L.drop i).flatMap encS) rfl (by exact ⟨by rw [flat_length encS_len]; simp [hLi], fun h => absurd rfl h⟩) (flat_one encS_one _) (by simp only [maxLen]; omega) (by omega) (by simp) ?_; intro A2 c2 w2 hown2 hg2)
              have hb2 := bl_gr (bl_alloc (Below.refl wr.heap.size wr) (.cells #[] 9)) hg2 (Nat.le_refl _)
              have ho1 := ownsRow_below (ownsRow_take hown hk) hb2
              rw [flatS_take] at ho1
              have q2 := (hb2.cell (p := ⟨g, o + i, none⟩) hg).trans q0
              try simp only [Nat.add_zero] at q2
              have hg2' : g < w2.heap.size := Nat.lt_of_lt_of_le hg hb2.size
              have hbb2 := bl_tr hb hb2
              rw [Nat.zero_add, List.nil_append] at hown2
              try simp only [Nat.zero_add]
              have hne : some g ≠ (Value.slice (some ⟨gA, 0, none⟩) i i).ownBlock := by intro e; have := ownsRow_base ho1 e.symm; omega
              have hne2 : ∀ b, (Value.slice (some ⟨gA, 0, none⟩) i i).ownBlock = some b → b < wr.heap.size := fun b e => ownsRow_lt (ownsRow_take hown hk) e
              have hbs2 := hb2.size
              have hdl : (L.drop i).length = 0 := by simp [hLi]
              have hki : (i : Int) ≤ (i : Int) := by omega
              have hkc : i ≤ i := by have := ownsRow_cap hown; omega
              try go_wp2_with fail
              go_region_held3 (fun w' => (∀ o, w'.cell? ⟨g, o, none⟩ = w2.cell? ⟨g, o, none⟩) ∧ g < w'.heap.size) (first | exact bat_drew (bat_here w2 hg2') | exact bat_alloc ‹_› _ | exact bat_grown ‹_› ‹_› hne | exact bat_grown ‹_› ‹_› (by intro e; have := ownsRow_base hown3 e.symm; omega)) (first | (refine step_append_src rfl _ _ 22 rfl w.heap.size 9 k0 _ 1 16 Try.underlying22 hk0i hkzi hk1 hk2 rfl (by omega) (.slice (some ⟨gA, 0, none⟩) i i) i _ rfl (ho1.drew.alloc _) (some ⟨w2.heap.size, 0, none⟩) 1 1 (encS x) rfl (src_new w2.drew (encS x) 9 1 1 rfl) (encS_one _) (by simp only [maxLen]; omega) (by omega) (by simp; omega) ?_; intro A3 c3 w3 hown3 hg3; have hrow3 := (hown2.drew.alloc (.cells #[.string x] 9)).kept hg3 (rows_ne hown2 hne2)) | (refine step_append_src rfl _ _ 22 rfl w.heap.size 9 k0 _ 1 16 Try.underlying22 hk0i hkzi hk1 hk2 rfl (by omega) (.slice A3 (i + 1) c3) (i + 1) _ rfl hown3 A2 0 c2 ((L.drop i).flatMap encS) rfl (src_of hrow3 hdl) (flat_one encS_one _) (by simp only [maxLen]; omega) (by omega) (by have := hg3.size; simp at this; omega) ?_; intro A4 c4 w4 hown4 hg4))
              have hins := ins_ok (L := L) (x := x) (by omega : i ≤ L.length) hsrt.out hup.out hdn.out
              have e1 : i + 1 + 0 = i + 1 := by omega
              try rw [e1] at hown4
              try rw [e1]
              have hb3 := bl_own (bl_drew (bl_alloc hbb2 _)) ((ho1.alloc _).drew) (Nat.le_refl _) hg3
              have hb4 := bl_own hb3 hown3 (Nat.le_refl _) hg4
              replace hins := Lib.hid hins
              go_wp2_with fail
              refine ⟨⟨i + 1, A4, c4, L.take i ++ [x] ++ L.drop i, by omega, by simp [hLi], rfl, by go_num, by rw [hpn.out]; exact hins.out.2.trans (hperm.out.append_right _), hins.out.1, ?_, hb4⟩, by simp [intOf]; omega⟩
              simpa [List.flatMap_append, encS] using hown4
            · have hsrc := hA0.out hck
              clear hA0
              have hown := hown.drew
              have hlat : LAt wr.drew _ 1 encS L := hlat
              have q0 : wr.drew.cell? _ = _ := q0
              have hg : g < wr.drew.heap.size := hg
              have hb := hb.drew
              have hsrc : SrcAt (wr.drew.alloc (.cells #[] 9)) _ (i - k) 1 _ := hsrc
              go_wp2_with fail
              go_region
              generalize wr.drew = wr at *
              have hbs := hb.size
              go_wp2_with (refine wpList_append_srcT rfl _ _ 22 rfl wr.heap.size 9 k0 _ 1 16 Try.underlying22 hk0i hkzi hk1 hk2 rfl (by omega) (.slice (some ⟨wr.heap.size, 0, none⟩) 0 0) 0 [] rfl (ownsRow_empty wr 9 1 wr.heap.size (Nat.le_refl _)) (some ⟨gA, k, none⟩) (i - k) (c1 - k) ((L.drop k).flatMap encS) rfl hsrc (flat_one encS_one _) (by simp only [maxLen]; omega) (by omega) (by simp) ?_; intro A2 c2 w2 hown2 hg2)
              have hb2 := bl_gr (bl_alloc (Below.refl wr.heap.size wr) (.cells #[] 9)) hg2 (Nat.le_refl _)
              have ho1 := ownsRow_below (ownsRow_take hown hk) hb2
              rw [flatS_take] at ho1
              have q2 := (hb2.cell (p := ⟨g, o + i, none⟩) hg).trans q0
              try simp only [Nat.add_zero] at q2
              have hg2' : g < w2.heap.size := Nat.lt_of_lt_of_le hg hb2.size
              have hbb2 := bl_tr hb hb2
              rw [Nat.zero_add, List.nil_append] at hown2
              try simp only [Nat.zero_add]
              have hne : some g ≠ (Value.slice (some ⟨gA, 0, none⟩) k c1).ownBlock := by intro e; have := ownsRow_base ho1 e.symm; omega
              have hne2 : ∀ b, (Value.slice (some ⟨gA, 0, none⟩) k c1).ownBlock = some b → b < wr.heap.size := fun b e => ownsRow_lt (ownsRow_take hown hk) e
              have hbs2 := hb2.size
              have hdl : (L.drop k).length = (i - k) := by simp [hLi]
              have hki : (k : Int) ≤ (i : Int) := by omega
              have hkc : k ≤ c1 := by have := ownsRow_cap hown; omega
              try go_wp2_with fail
              go_region_held3 (fun w' => (∀ o, w'.cell? ⟨g, o, none⟩ = w2.cell? ⟨g, o, none⟩) ∧ g < w'.heap.size) (first | exact bat_drew (bat_here w2 hg2') | exact bat_alloc ‹_› _ | exact bat_grown ‹_› ‹_› hne | exact bat_grown ‹_› ‹_› (by intro e; have := ownsRow_base hown3 e.symm; omega)) (first | (refine step_append_src rfl _ _ 22 rfl w.heap.size 9 k0 _ 1 16 Try.underlying22 hk0i hkzi hk1 hk2 rfl (by omega) (.slice (some ⟨gA, 0, none⟩) k c1) k _ rfl (ho1.drew.alloc _) (some ⟨w2.heap.size, 0, none⟩) 1 1 (encS x) rfl (src_new w2.drew (encS x) 9 1 1 rfl) (encS_one _) (by simp only [maxLen]; omega) (by omega) (by simp; omega) ?_; intro A3 c3 w3 hown3 hg3; have hrow3 := (hown2.drew.alloc (.cells #[.string x] 9)).kept hg3 (rows_ne hown2 hne2)) | (refine step_append_src rfl _ _ 22 rfl w.heap.size 9 k0 _ 1 16 Try.underlying22 hk0i hkzi hk1 hk2 rfl (by omega) (.slice A3 (k + 1) c3) (k + 1) _ rfl hown3 A2 (i - k) c2 ((L.drop k).flatMap encS) rfl (src_of hrow3 hdl) (flat_one encS_one _) (by simp only [maxLen]; omega) (by omega) (by have := hg3.size; simp at this; omega) ?_; intro A4 c4 w4 hown4 hg4))
              have hins := ins_ok (L := L) (x := x) (by omega : k ≤ L.length) hsrt.out hup.out hdn.out
              have e1 : k + 1 + (i - k) = i + 1 := by omega
              try rw [e1] at hown4
              try rw [e1]
              have hb3 := bl_own (bl_drew (bl_alloc hbb2 _)) ((ho1.alloc _).drew) (Nat.le_refl _) hg3
              have hb4 := bl_own hb3 hown3 (Nat.le_refl _) hg4
              replace hins := Lib.hid hins
              go_wp2_with fail
              refine ⟨⟨i + 1, A4, c4, L.take k ++ [x] ++ L.drop k, by omega, by simp [hLi]; omega, rfl, by go_num, by rw [hpn.out]; exact hins.out.2.trans (hperm.out.append_right _), hins.out.1, ?_, hb4⟩, by simp [intOf]; omega⟩
              simpa [List.flatMap_append, encS] using hown4
    · obtain rfl : i = ml.length := by omega
      have hfin : sortS ml = L := sortS_of (by rw [List.take_length] at hperm; exact hperm) hsrt
      replace hfin := Lib.hid hfin
      go_wp2_with fail
      go_ret
      exact ⟨A1, c1, rfl, by rw [hfin.out]; exact LAt.of_own encS_len hown hLi.symm, hb⟩
end Go.Proofs.Ytbjjhnlifgbpmaa
/- The document's right (21): may members and parts be? -/
namespace Go.Proofs.Ytbjjhnlifgbpmaa
open Go.RowKit Go.Shelf
attribute [local go_sem] Oper.semAt_some

theorem goodTo_no {S : List ByteArray} {i : Nat} (h : goodN S i = false) : ∀ k, i < k → goodTo S k = false
  | 0, hk => by omega
  | k + 1, hk => by
    by_cases e : i = k
    · subst e; simp [goodTo, h]
    · simp [goodTo, goodTo_no h k (by omega)]
theorem goodTo_all {S : List ByteArray} : ∀ k, (∀ i, i < k → goodN S i = true) → goodTo S k = true
  | 0, _ => rfl
  | k + 1, h => by simp [goodTo, goodTo_all k (fun i hi => h i (by omega)), h k (by omega)]

set_option maxRecDepth 100000 in
set_option maxHeartbeats 8000000 in
theorem right_any (A : Option Addr) (c : Nat) (ml : List ByteArray) (parts : Int) (w : World) (hm : LAt w A 1 encS ml) (hml : ml.length * 16 ≤ 140737488351232) (S : List ByteArray) (hS : sortS ml = S) (hk : ∀ s ∈ S, s.size ≤ 140737488351232) :
    Calls Try.prog 21 #[.slice A ml.length c, .int .i64 parts] w fun e w' => e = .returned (.bool (okN S parts)) ∧ Below w.heap.size w w' := by
  have hSl : S.length = ml.length := by rw [← hS]; exact sortS_len ml
  by_cases h1 : 1000 < ml.length
  · have hno : okN S parts = false := by simp [okN]; omega
    have hd : decide ((1000 : Int) < (ml.length : Int)) = true := by simp; omega
    replace hno := Lib.hid hno
    replace hSl := Lib.hid hSl
    go_enter Try.func21, Try.ntmps21
    go_wp2_with fail
    go_ret
    exact ⟨ret_bool hno.out.symm, Below.refl _ _⟩
  have hd1 : decide ((1000 : Int) < (ml.length : Int)) = false := by simp; omega
  by_cases h2 : parts < 0
  · have hno : okN S parts = false := by simp [okN]; omega
    have hd : decide (parts < 0) = true := by simp; omega
    replace hno := Lib.hid hno
    replace hSl := Lib.hid hSl
    go_enter Try.func21, Try.ntmps21
    go_wp2_with fail
    go_ret
    exact ⟨ret_bool hno.out.symm, Below.refl _ _⟩
  have hd2 : decide (parts < 0) = false := by simp; omega
  by_cases h3 : 32 < parts
  · have hno : okN S parts = false := by simp [okN]; omega
    have hd : decide (32 < parts) = true := by simp; omega
    replace hno := Lib.hid hno
    replace hSl := Lib.hid hSl
    go_enter Try.func21, Try.ntmps21
    go_wp2_with fail
    go_ret
    exact ⟨ret_bool hno.out.symm, Below.refl _ _⟩
  have hd3 : decide (32 < parts) = false := by simp; omega
  have hok : okN S parts = goodTo S S.length := by
    have a1 : S.length ≤ 1000 := by omega
    have a2 : 0 ≤ parts := by omega
    have a3 : parts ≤ 32 := by omega
    simp [okN, a1, a2, a3]
  replace hok := Lib.hid hok
  have hst := sorted_any A c ml w hm hml
  rw [hS] at hst
  replace hst := Lib.hid hst
  replace hS := Lib.hid hS
  replace h1 := Lib.hid h1
  go_enter Try.func21, Try.ntmps21
  go_wp2_with (go_at_call 22; refine hst.out.mono ?_; rintro e w1 ⟨A1, c1, rfl, hlat, hb1⟩)
  rw [← hSl]
  have hS1000 : S.length ≤ 1000 := by have := h1.out; omega
  replace hSl := Lib.hid hSl
  clear hst
  have hlat' := hlat
  go_loopw [6] (fun u wr => ∃ k : Nat, k ≤ S.length ∧ u = .int .i64 k ∧ (∀ i, i < k → goodN S i = true) ∧ Below w1.heap.size w1 wr) (fun u _ => S.length - (intOf u).toNat)
  case atStart => exact ⟨0, Nat.zero_le _, rfl, fun i h => by omega, Below.refl _ _⟩
  case round =>
    obtain ⟨k, hkl, rfl, hgood, hbr⟩ := hrel
    by_cases hlt : k < S.length
    · obtain ⟨g, o, rfl, hg, hc⟩ := (hlat.below hbr) k hlt
      have qk := hc 0 _ rfl
      simp only [Nat.mul_one, Nat.add_zero] at qk
      have hgk : S.getD k default = S[k] := getD_get _ _ hlt
      have hsz := hk S[k] (List.getElem_mem _)
      have hgn : goodN S k = (decide (1 ≤ S[k].size) && decide (S[k].size ≤ 64) && (decide (k = 0) || !decide (S[k] = S.getD (k - 1) default))) := by simp only [goodN, hgk]
      have hbad := Lib.hid (fun h : goodN S k = false => goodTo_no h S.length hlt)
      have hnx : goodN S k = true → ∀ i, i < k + 1 → goodN S i = true := fun h i hi => by
        by_cases e : i = k
        · subst e; exact h
        · exact hgood i (by omega)
      replace hnx := Lib.hid hnx
      replace hgn := Lib.hid hgn
      have hprev : ∀ m, m + 1 = k → ∃ y : ByteArray, S.getD (k - 1) default = y ∧ wr.cell? ⟨g, o + m, none⟩ = some (.string y) := fun m hm => by
        obtain ⟨g', o', e', _, hc'⟩ := (hlat.below hbr) m (by omega)
        cases e'
        refine ⟨S[m]'(by omega), ?_, ?_⟩
        · rw [show k - 1 = m from by omega, getD_get _ _ (by omega)]
        · have := hc' 0 _ rfl
          simpa only [Nat.mul_one, Nat.add_zero] using this
      generalize S[k] = x at *
      clear hc hgk hlat'
      have hk0 : (0 : Int) ≤ (k : Int) := by omega
      have hkI : (k : Int) < (S.length : Int) := by omega
      by_cases z1 : x.size < 1
      · have hF : goodN S k = false := by rw [hgn.out]; simp; omega
        have d1 : decide ((x.size : Int) < 1) = true := by simp; omega
        replace z1 := Lib.hid z1
        replace hbad := Lib.hid (hbad.out hF)
        replace hgn := Lib.hid hgn
        clear hF hprev
        go_wp2_with fail
        go_region
        go_wp2_with fail
        go_ret
        exact ⟨ret_bool (by rw [hok.out, hbad.out]), hb1.trans (hbr.drew.mono hb1.size)⟩
      have d1 : decide ((x.size : Int) < 1) = false := by simp; omega
      by_cases z2 : 64 < x.size
      · have hF : goodN S k = false := by rw [hgn.out]; simp; omega
        have d2 : decide ((64 : Int) < (x.size : Int)) = true := by simp; omega
        replace z1 := Lib.hid z1
        replace z2 := Lib.hid z2
        replace hbad := Lib.hid (hbad.out hF)
        replace hgn := Lib.hid hgn
        clear hF hprev
        go_wp2_with fail
        go_region
        go_wp2_with fail
        go_ret
        exact ⟨ret_bool (by rw [hok.out, hbad.out]), hb1.trans (hbr.drew.mono hb1.size)⟩
      have d2 : decide ((64 : Int) < (x.size : Int)) = false := by simp; omega
      by_cases hkz : 0 < k
      · obtain ⟨m, hmk⟩ : ∃ m, m + 1 = k := ⟨k - 1, by omega⟩
        obtain ⟨y, hy, qm⟩ := hprev m hmk
        have d3 : decide ((0 : Int) < (k : Int)) = true := by simp; omega
        have hw1 : IntKind.i64.wrap ((k : Int) - 1) = m := by rw [IntKind.wrap_i64]; omega
        have hw2 : wrap64 ((k : Int) - 1) = m := (IntWalk.i64_left _).symm.trans hw1
        have hm0 : (0 : Int) ≤ (m : Int) := by omega
        have hmI : (m : Int) < (S.length : Int) := by omega
        replace hgn := Lib.hid (by have := hgn.out; rw [hy] at this; exact this)
        by_cases hxy : x = y
        · have hF : goodN S k = false := by rw [hgn.out]; simp [hxy]; omega
          have d4 : (x.toList == y.toList) = true := by rw [str_eq]; simp [hxy]
          replace hxy := Lib.hid hxy
          replace z1 := Lib.hid z1
          replace z2 := Lib.hid z2
          replace hbad := Lib.hid (hbad.out hF)
          replace hgn := Lib.hid hgn
          clear hF hprev
          go_wp2_with fail
          go_region
          go_wp2_with fail
          go_ret
          exact ⟨ret_bool (by rw [hok.out, hbad.out]), hb1.trans (hbr.drew.mono hb1.size)⟩
        · have hT : goodN S k = true := by
            rw [hgn.out]
            have a1 : 1 ≤ x.size := by omega
            have a2 : x.size ≤ 64 := by omega
            simp [hxy, a1, a2]
          have d4 : (x.toList == y.toList) = false := by rw [str_eq]; simp [hxy]
          replace hxy := Lib.hid hxy
          replace z1 := Lib.hid z1
          replace z2 := Lib.hid z2
          replace hgn := Lib.hid hgn
          replace hnx := Lib.hid (hnx.out hT)
          clear hT hprev
          go_wp2_with fail
          go_region
          go_wp2_with fail
          exact ⟨⟨k + 1, by omega, by go_num, hnx.out, hbr.drew⟩, by simp [intOf]; omega⟩
      · have hT : goodN S k = true := by
          rw [hgn.out]
          have a1 : 1 ≤ x.size := by omega
          have a2 : x.size ≤ 64 := by omega
          have a3 : k = 0 := by omega
          simp [a1, a2, a3]
        have d3 : decide ((0 : Int) < (k : Int)) = false := by simp; omega
        replace z1 := Lib.hid z1
        replace z2 := Lib.hid z2
        replace hgn := Lib.hid hgn
        replace hnx := Lib.hid (hnx.out hT)
        clear hT hprev
        go_wp2_with fail
        go_region
        go_wp2_with fail
        exact ⟨⟨k + 1, by omega, by go_num, hnx.out, hbr.drew⟩, by simp [intOf]; omega⟩
    · obtain rfl : k = S.length := by omega
      have hall := goodTo_all _ hgood
      replace hall := Lib.hid hall
      go_wp2_with fail
      go_ret
      exact ⟨ret_bool (by rw [hok.out, hall.out]), hb1.trans (hbr.mono hb1.size)⟩
end Go.Proofs.Ytbjjhnlifgbpmaa
