/- The two Diffs answer alike at two tables: plain lists. -/
import Derived.Test.YtjokpjfmnjefdaaRd
import Derived.Test.YtjokpjfmnjefdaaDf
namespace Go.Proofs.Ytjokpjfmnjefdaa

def mgF : Nat → List Pr → List Pr → List (Option Pr × Option Pr)
  | 0, _, _ => []
  | _ + 1, [], [] => []
  | f + 1, x :: r, [] => (some x, none) :: mgF f r []
  | f + 1, [], y :: s => (none, some y) :: mgF f [] s
  | f + 1, x :: r, y :: s => if sb x.key y.key then (some x, none) :: mgF f r (y :: s) else if sb y.key x.key then (none, some y) :: mgF f (x :: r) s else (some x, some y) :: mgF f r s
def kI : Option Pr × Option Pr → ByteArray
  | (some x, _) => x.key
  | (none, some y) => y.key
  | (none, none) => ⟨#[]⟩

theorem key_same {x y : ByteArray} (h1 : ¬ sb x y = true) (h2 : ¬ sb y x = true) : x = y := by
  by_cases e : x = y
  · exact e
  · rcases sb_total e with h | h
    · exact absurd h h1
    · exact absurd h h2

theorem mg_mem : ∀ (f : Nat) (a b : List Pr), a.length + b.length ≤ f → ∀ k, (k ∈ (mgF f a b).map kI ↔ k ∈ a.map (·.key) ∨ k ∈ b.map (·.key))
  | 0, a, b, h, k => by
    have h1 : a = [] := List.eq_nil_of_length_eq_zero (by omega)
    have h2 : b = [] := List.eq_nil_of_length_eq_zero (by omega)
    subst h1 h2
    simp [mgF]
  | f + 1, [], [], h, k => by simp [mgF]
  | f + 1, x :: r, [], h, k => by
    have ih := mg_mem f r [] (by simp at h ⊢; omega) k
    simp only [mgF, List.map_cons, List.mem_cons, ih, kI]
    simp
  | f + 1, [], y :: s, h, k => by
    have ih := mg_mem f [] s (by simp at h ⊢; omega) k
    simp only [mgF, List.map_cons, List.mem_cons, ih, kI]
    simp
  | f + 1, x :: r, y :: s, h, k => by
    rw [mgF]
    by_cases h1 : sb x.key y.key = true
    · have ih := mg_mem f r (y :: s) (by simp at h ⊢; omega) k
      rw [if_pos h1]
      simp only [List.map_cons, List.mem_cons, ih, kI]
      grind
    · rw [if_neg h1]
      by_cases h2 : sb y.key x.key = true
      · have ih := mg_mem f (x :: r) s (by simp at h ⊢; omega) k
        rw [if_pos h2]
        simp only [List.map_cons, List.mem_cons, ih, kI]
        grind
      · have ih := mg_mem f r s (by simp at h ⊢; omega) k
        have e := key_same h1 h2
        rw [if_neg h2]
        simp only [List.map_cons, List.mem_cons, ih, kI]
        grind
theorem ris_cons {x : Pr} {r : List Pr} (h : Ris (x :: r)) : (∀ k ∈ r.map (·.key), sb x.key k = true) ∧ Ris r := by
  have := List.pairwise_cons.1 h
  refine ⟨fun k hk => ?_, this.2⟩
  obtain ⟨y, hy, rfl⟩ := List.mem_map.1 hk
  exact this.1 y hy
theorem mg_ris : ∀ (f : Nat) (a b : List Pr), a.length + b.length ≤ f → Ris a → Ris b → ((mgF f a b).map kI).Pairwise fun x y => sb x y = true
  | 0, a, b, _, _, _ => by simp [mgF]
  | f + 1, [], [], _, _, _ => by simp [mgF]
  | f + 1, x :: r, [], h, ha, hb => by
    simp only [mgF, List.map_cons, List.pairwise_cons]
    obtain ⟨h1, h2⟩ := ris_cons ha
    refine ⟨fun k hk => ?_, mg_ris f r [] (by simp at h ⊢; omega) h2 hb⟩
    rcases (mg_mem f r [] (by simp at h ⊢; omega) k).1 hk with hk | hk
    · exact h1 k hk
    · simp at hk
  | f + 1, [], y :: s, h, ha, hb => by
    simp only [mgF, List.map_cons, List.pairwise_cons]
    obtain ⟨h1, h2⟩ := ris_cons hb
    refine ⟨fun k hk => ?_, mg_ris f [] s (by simp at h ⊢; omega) ha h2⟩
    rcases (mg_mem f [] s (by simp at h ⊢; omega) k).1 hk with hk | hk
    · simp at hk
    · exact h1 k hk
  | f + 1, x :: r, y :: s, h, ha, hb => by
    obtain ⟨a1, a2⟩ := ris_cons ha
    obtain ⟨b1, b2⟩ := ris_cons hb
    rw [mgF]
    by_cases h1 : sb x.key y.key = true
    · rw [if_pos h1]
      simp only [List.map_cons, List.pairwise_cons]
      refine ⟨fun k hk => ?_, mg_ris f r (y :: s) (by simp at h ⊢; omega) a2 hb⟩
      rcases (mg_mem f r (y :: s) (by simp at h ⊢; omega) k).1 hk with hk | hk
      · exact a1 k hk
      · rcases List.mem_cons.1 hk with rfl | hk
        · exact h1
        · exact sb_trans h1 (b1 k hk)
    · rw [if_neg h1]
      by_cases h2 : sb y.key x.key = true
      · rw [if_pos h2]
        simp only [List.map_cons, List.pairwise_cons]
        refine ⟨fun k hk => ?_, mg_ris f (x :: r) s (by simp at h ⊢; omega) ha b2⟩
        rcases (mg_mem f (x :: r) s (by simp at h ⊢; omega) k).1 hk with hk | hk
        · rcases List.mem_cons.1 hk with rfl | hk
          · exact h2
          · exact sb_trans h2 (a1 k hk)
        · exact b1 k hk
      · rw [if_neg h2]
        have e := key_same h1 h2
        simp only [List.map_cons, List.pairwise_cons]
        refine ⟨fun k hk => ?_, mg_ris f r s (by simp at h ⊢; omega) a2 b2⟩
        rcases (mg_mem f r s (by simp at h ⊢; omega) k).1 hk with hk | hk
        · exact a1 k hk
        · have := b1 k hk; simp only [kI]; rw [e]; exact this

theorem getL_out {l : List Pr} {k : ByteArray} (h : k ∉ l.map (·.key)) : getL l k = none := getL_none fun j hj e => h (List.mem_map.2 ⟨_, List.getElem_mem hj, e⟩)
theorem getL_cons_ne {x : Pr} {r : List Pr} {k : ByteArray} (h : x.key ≠ k) : getL (x :: r) k = getL r k := by simp [getL, List.find?_cons, h]
theorem getL_cons_eq {x : Pr} {r : List Pr} {k : ByteArray} (h : x.key = k) : getL (x :: r) k = some x := by simp [getL, List.find?_cons, h]
theorem sb_ne {a b : ByteArray} (h : sb a b = true) : a ≠ b := by rintro rfl; rw [sb_irrefl] at h; cases h
theorem mg_get : ∀ (f : Nat) (a b : List Pr), a.length + b.length ≤ f → Ris a → Ris b → ∀ x ∈ mgF f a b, x.1 = getL a (kI x) ∧ x.2 = getL b (kI x)
  | 0, a, b, _, _, _, z, hz => by simp [mgF] at hz
  | f + 1, [], [], _, _, _, z, hz => by simp [mgF] at hz
  | f + 1, x :: r, [], h, ha, hb, z, hz => by
    obtain ⟨a1, a2⟩ := ris_cons ha
    rcases List.mem_cons.1 hz with rfl | hz
    · exact ⟨(getL_cons_eq rfl).symm, rfl⟩
    · have ih := mg_get f r [] (by simp at h ⊢; omega) a2 hb z hz
      have hk := (mg_mem f r [] (by simp at h ⊢; omega) _).1 (List.mem_map.2 ⟨z, hz, rfl⟩)
      rcases hk with hk | hk
      · rw [getL_cons_ne (sb_ne (a1 _ hk))]; exact ih
      · simp at hk
  | f + 1, [], y :: s, h, ha, hb, z, hz => by
    obtain ⟨b1, b2⟩ := ris_cons hb
    rcases List.mem_cons.1 hz with rfl | hz
    · exact ⟨rfl, (getL_cons_eq rfl).symm⟩
    · have ih := mg_get f [] s (by simp at h ⊢; omega) ha b2 z hz
      have hk := (mg_mem f [] s (by simp at h ⊢; omega) _).1 (List.mem_map.2 ⟨z, hz, rfl⟩)
      rcases hk with hk | hk
      · simp at hk
      · rw [getL_cons_ne (sb_ne (b1 _ hk))]; exact ih
  | f + 1, x :: r, y :: s, h, ha, hb, z, hz => by
    obtain ⟨a1, a2⟩ := ris_cons ha
    obtain ⟨b1, b2⟩ := ris_cons hb
    rw [mgF] at hz
    by_cases h1 : sb x.key y.key = true
    · rw [if_pos h1] at hz
      rcases List.mem_cons.1 hz with rfl | hz
      · refine ⟨(getL_cons_eq rfl).symm, (getL_out fun hk => ?_).symm⟩
        rcases List.mem_cons.1 hk with e | hk
        · exact sb_ne h1 e
        · exact sb_ne (sb_trans h1 (b1 _ hk)) rfl
      · have ih := mg_get f r (y :: s) (by simp at h ⊢; omega) a2 hb z hz
        have hk := (mg_mem f r (y :: s) (by simp at h ⊢; omega) _).1 (List.mem_map.2 ⟨z, hz, rfl⟩)
        have hlt : sb x.key (kI z) = true := by
          rcases hk with hk | hk
          · exact a1 _ hk
          · rcases List.mem_cons.1 hk with e | hk
            · rw [e]; exact h1
            · exact sb_trans h1 (b1 _ hk)
        rw [getL_cons_ne (sb_ne hlt)]
        exact ih
    · rw [if_neg h1] at hz
      by_cases h2 : sb y.key x.key = true
      · rw [if_pos h2] at hz
        rcases List.mem_cons.1 hz with rfl | hz
        · refine ⟨(getL_out fun hk => ?_).symm, (getL_cons_eq rfl).symm⟩
          rcases List.mem_cons.1 hk with e | hk
          · exact sb_ne h2 e
          · exact sb_ne (sb_trans h2 (a1 _ hk)) rfl
        · have ih := mg_get f (x :: r) s (by simp at h ⊢; omega) ha b2 z hz
          have hk := (mg_mem f (x :: r) s (by simp at h ⊢; omega) _).1 (List.mem_map.2 ⟨z, hz, rfl⟩)
          have hlt : sb y.key (kI z) = true := by
            rcases hk with hk | hk
            · rcases List.mem_cons.1 hk with e | hk
              · rw [e]; exact h2
              · exact sb_trans h2 (a1 _ hk)
            · exact b1 _ hk
          rw [getL_cons_ne (r := s) (sb_ne hlt)]
          exact ih
      · rw [if_neg h2] at hz
        have e := key_same h1 h2
        rcases List.mem_cons.1 hz with rfl | hz
        · exact ⟨(getL_cons_eq rfl).symm, (getL_cons_eq e.symm).symm⟩
        · have ih := mg_get f r s (by simp at h ⊢; omega) a2 b2 z hz
          have hk := (mg_mem f r s (by simp at h ⊢; omega) _).1 (List.mem_map.2 ⟨z, hz, rfl⟩)
          have hlt : sb x.key (kI z) = true := by
            rcases hk with hk | hk
            · exact a1 _ hk
            · rw [e]; exact b1 _ hk
          rw [getL_cons_ne (sb_ne hlt), getL_cons_ne (r := s) (by rw [← e]; exact sb_ne hlt)]
          exact ih

/-- The merge by numbers is the merge of what is left. -/
def atI (l m : List Pr) (x : Option Nat × Option Nat) : Option Pr × Option Pr := (x.1.map fun i => l.getD i default, x.2.map fun j => m.getD j default)
theorem mrg_mg (l m : List Pr) : ∀ (f i j : Nat), l.length - i + (m.length - j) ≤ f → (mrgF l m f i j).map (atI l m) = mgF f (l.drop i) (m.drop j)
  | 0, i, j, _ => by simp [mrgF, mgF]
  | f + 1, i, j, h => by
    rw [mrgF_succ]
    by_cases h1 : i < l.length
    · have d1 : l.drop i = l[i] :: l.drop (i + 1) := List.drop_eq_getElem_cons h1
      have g1 : l.getD i default = l[i] := by simp [List.getD, h1]
      rw [if_pos (.inl h1)]
      by_cases h2 : j < m.length
      · have d2 : m.drop j = m[j] :: m.drop (j + 1) := List.drop_eq_getElem_cons h2
        have g2 : m.getD j default = m[j] := by simp [List.getD, h2]
        have ex : tx l m i j = !sb m[j].key l[i].key := by unfold tx; rw [g1, g2]; simp [h1, h2]; intro hh; omega
        have ey : ty l m i j = !sb l[i].key m[j].key := by unfold ty; rw [g1, g2]; simp [h1, h2]; intro hh; omega
        rw [ex, ey, d1, d2, mgF]
        by_cases c1 : sb l[i].key m[j].key = true
        · rw [if_pos c1, sb_asymm c1, c1]
          simp only [Bool.not_false, Bool.not_true, if_true, if_false, List.map_cons, Bool.false_eq_true]
          rw [mrg_mg l m f (i + 1) j (by omega), d2]
          simp only [atI, Option.map_some, Option.map_none, g1]
        · rw [if_neg c1]
          have c1' : sb l[i].key m[j].key = false := by simpa using c1
          by_cases c2 : sb m[j].key l[i].key = true
          · rw [if_pos c2, c2, c1']
            simp only [Bool.not_false, Bool.not_true, if_true, if_false, List.map_cons, Bool.false_eq_true]
            rw [mrg_mg l m f i (j + 1) (by omega), d1]
            simp only [atI, Option.map_some, Option.map_none, g2]
          · have c2' : sb m[j].key l[i].key = false := by simpa using c2
            rw [if_neg c2, c2', c1']
            simp only [Bool.not_false, if_true, List.map_cons]
            rw [mrg_mg l m f (i + 1) (j + 1) (by omega)]
            simp only [atI, Option.map_some, g1, g2]
      · have d2 : m.drop j = [] := List.drop_eq_nil_of_le (by omega)
        have ex : tx l m i j = true := by simp [tx, h1]; left; omega
        have ey : ty l m i j = false := by simp [ty]; omega
        rw [ex, ey, d1, d2, mgF]
        simp only [if_true, if_false, List.map_cons, Bool.false_eq_true]
        rw [mrg_mg l m f (i + 1) j (by omega), d2]
        simp only [atI, Option.map_some, Option.map_none, g1]
    · have d1 : l.drop i = [] := List.drop_eq_nil_of_le (by omega)
      by_cases h2 : j < m.length
      · have d2 : m.drop j = m[j] :: m.drop (j + 1) := List.drop_eq_getElem_cons h2
        have g2 : m.getD j default = m[j] := by simp [List.getD, h2]
        have ex : tx l m i j = false := by simp [tx]; omega
        have ey : ty l m i j = true := by simp [ty, h2]; left; omega
        rw [if_pos (.inr h2), ex, ey, d1, d2, mgF]
        simp only [if_true, if_false, List.map_cons, Bool.false_eq_true]
        rw [mrg_mg l m f i (j + 1) (by omega), d1]
        simp only [atI, Option.map_some, Option.map_none, g2]
      · have d2 : m.drop j = [] := List.drop_eq_nil_of_le (by omega)
        rw [if_neg (by omega), d1, d2]
        simp [mgF]

def rK (l m : List Pr) (k : ByteArray) : Option Ch := if (getL l k).isSome != (getL m k).isSome || !decide (gotV (getL l k) = gotV (getL m k)) then some ⟨k, gotV (getL l k), gotV (getL m k), (getL l k).isSome, (getL m k).isSome⟩ else none
theorem one_pair (x y : Pr) (h : x.key = y.key) : (if chD ⟨y.key, x.val, y.val, true, true⟩ then some (⟨y.key, x.val, y.val, true, true⟩ : Ch) else none) = if (true != true || !decide (x.val = y.val)) then some ⟨x.key, x.val, y.val, true, true⟩ else none := by
  rw [h]
  by_cases e : x.val = y.val
  · simp [chD, e]
  · have e2 : ¬ y.val = x.val := fun h => e h.symm
    simp [chD, e, e2]
theorem dOne_rK (l m : List Pr) (x : Option Nat × Option Nat) (hx : x ≠ (none, none)) (h1 : (atI l m x).1 = getL l (kI (atI l m x))) (h2 : (atI l m x).2 = getL m (kI (atI l m x)))
    (hk : ∀ i j, x = (some i, some j) → (l.getD i default).key = (m.getD j default).key) : dOne l m x = rK l m (kI (atI l m x)) := by
  unfold rK
  rw [← h1, ← h2]
  obtain ⟨xi, xj⟩ := x
  cases xi with
  | some i =>
    cases xj with
    | some j =>
      have := hk i j rfl
      exact one_pair (l.getD i default) (m.getD j default) this
    | none => simp [atI, kI, dOne, dItem, gotV, chD]
  | none =>
    cases xj with
    | some j => simp [atI, kI, dOne, dItem, gotV, chD]
    | none => exact absurd rfl hx

theorem keys_foldW (m : List Pr) : ∀ (l : List Pr) k, k ∈ (m.foldl withL l).map (·.key) ↔ k ∈ l.map (·.key) ∨ k ∈ m.map (·.key) := by
  induction m with
  | nil => intro l k; simp
  | cons y s ih =>
    intro l k
    rw [List.foldl_cons, ih]
    have : k ∈ (withL l y).map (·.key) ↔ k = y.key ∨ k ∈ l.map (·.key) := by
      simp only [List.mem_map, withL, mem_insL, withoutL, List.mem_filter]
      constructor
      · rintro ⟨z, rfl | ⟨hz, _⟩, rfl⟩
        · exact .inl rfl
        · exact .inr ⟨z, hz, rfl⟩
      · rintro (rfl | ⟨z, hz, rfl⟩)
        · exact ⟨y, .inl rfl, rfl⟩
        · by_cases e : z.key = y.key
          · exact ⟨y, .inl rfl, e.symm⟩
          · exact ⟨z, .inr ⟨hz, by simp [e]⟩, rfl⟩
    rw [this]
    simp only [List.map_cons, List.mem_cons]
    grind

theorem keys_unique {a b : List ByteArray} (ha : a.Pairwise fun x y => sb x y = true) (hb : b.Pairwise fun x y => sb x y = true) (h : ∀ k, k ∈ a ↔ k ∈ b) : a = b := by
  have na : a.Nodup := ha.imp fun h => sb_ne h
  have nb : b.Nodup := hb.imp fun h => sb_ne h
  have hp : a.Perm b := (List.perm_ext_iff_of_nodup na nb).2 h
  exact hp.eq_of_pairwise (fun x y _ _ h1 h2 => absurd (sb_trans h1 h2) (by rw [sb_irrefl]; simp)) ha hb

theorem fm_congr {α β : Type} {f g : α → Option β} : ∀ {l : List α}, (∀ x ∈ l, f x = g x) → l.filterMap f = l.filterMap g
  | [], _ => rfl
  | x :: r, h => by rw [List.filterMap_cons, List.filterMap_cons, h x (by simp), fm_congr fun y hy => h y (by simp [hy])]
theorem diff_same {l m : List Pr} (hl : Ris l) (hm : Ris m) : diffL l m = rDiffL l m := by
  have hf : l.length - 0 + (m.length - 0) ≤ l.length + m.length := by omega
  have e0 : mrg l m 0 0 = mrgF l m (l.length + m.length) 0 0 := (mrg_eq l m 0 0 _ hf).symm
  have e1 := mrg_mg l m (l.length + m.length) 0 0 hf
  simp only [List.drop_zero] at e1
  rw [← e0] at e1
  have h1 : diffL l m = ((mgF (l.length + m.length) l m).map kI).filterMap (rK l m) := by
    unfold diffL
    rw [← e1, List.map_map, List.filterMap_map]
    refine fm_congr fun x hx => ?_
    have hx2 : atI l m x ∈ mgF (l.length + m.length) l m := by rw [← e1]; exact List.mem_map.2 ⟨x, hx, rfl⟩
    obtain ⟨g1, g2⟩ := mg_get _ l m (Nat.le_refl _) hl hm _ hx2
    refine dOne_rK l m x (mrgF_some l m _ _ _ _ hx) g1 g2 ?_
    rintro i j rfl
    simp only [atI, Option.map_some, kI] at g2
    have g3 := List.find?_some g2.symm
    exact (of_decide_eq_true g3).symm
  have h2 : rDiffL l m = ((m.foldl withL l).map (·.key)).filterMap (rK l m) := by
    unfold rDiffL
    rw [List.filterMap_map]
    rfl
  rw [h1, h2]
  congr 1
  refine keys_unique (mg_ris _ l m (Nat.le_refl _) hl hm) ?_ fun k => ?_
  · rw [List.pairwise_map]
    exact ris_foldW m l hl
  · rw [mg_mem _ l m (Nat.le_refl _), keys_foldW]
end Go.Proofs.Ytjokpjfmnjefdaa
