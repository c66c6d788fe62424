/- disk: plain facts of the disk as data. -/
import Derived.Test.YteaenhmiomoocaaCr
namespace Go.Proofs.Yteaenhmiomoocaa
open Go.RowKit Go.Shelf Go.Maps

theorem powr_live {d : Dsk} (h1 : d.off = false) (h2 : d.fuse = -1) : powr d = (true, d) := by
  obtain ⟨ts, bad, vs, off, fuse⟩ := d
  dsimp only at h1 h2
  subst h1 h2
  rfl
theorem writeD_live {d : Dsk} {i : Int} {t : Tx} (h1 : d.off = false) (h2 : d.fuse = -1) (hi : 0 ≤ i ∧ i < d.ts.length) (ht : t.length = 256) : writeD d i t = (0, writeS d i t) := by
  unfold writeD
  rw [if_neg (by rintro (h | h | h) <;> first | omega | exact h ht), powr_live h1 h2]
  rfl
theorem syncD_live {d : Dsk} (h1 : d.off = false) (h2 : d.fuse = -1) : syncD d = (0, syncS d) := by
  unfold syncD
  rw [powr_live h1 h2]
  rfl
theorem powr_ok {d : Dsk} {N : Nat} (h : d.Ok N) : (powr d).2.Ok N := by
  refine ⟨by rw [powr_ts]; exact h.len, by rw [powr_ts]; exact h.tx, by rw [powr_vs, powr_ts]; exact h.vs, ?_⟩
  have := h.fuse
  unfold powr
  repeat' split
  all_goals (try dsimp only) ; omega
theorem writeS_ok {d : Dsk} {N : Nat} {i : Int} {t : Tx} (h : d.Ok N) (hi : 0 ≤ i ∧ i < d.ts.length) (ht : t.length = 256) : (writeS d i t).Ok (N + 1) := by
  refine ⟨h.len, h.tx, fun j l hl => ?_, h.fuse⟩
  simp only [writeS, lookI_put] at hl
  split at hl
  · rename_i e
    subst e
    cases hl
    cases hv : lookI d.vs j with
    | none => simp [hi, ht]; exact hi.2
    | some l =>
      obtain ⟨_, _, _, h4, h5⟩ := h.vs j l hv
      refine ⟨hi.1, hi.2, by simp, by simp; omega, fun x hx => ?_⟩
      simp at hx
      rcases hx with hx | rfl
      · exact h5 x hx
      · exact ht
  · obtain ⟨a, b, c, e, f⟩ := h.vs j l hl
    exact ⟨a, b, c, by omega, f⟩
theorem writeD_ok {d : Dsk} {N : Nat} {i : Int} {t : Tx} (h : d.Ok N) : (writeD d i t).2.Ok (N + 1) := by
  have hm : ∀ {d : Dsk}, d.Ok N → d.Ok (N + 1) := fun h => ⟨h.len, h.tx, fun j l hl => by obtain ⟨a, b, c, e, f⟩ := h.vs j l hl; exact ⟨a, b, c, by omega, f⟩, h.fuse⟩
  unfold writeD
  split
  · exact hm h
  · rename_i hc
    split
    · refine writeS_ok (powr_ok h) ?_ ?_
      · rw [powr_ts]; constructor <;> (apply Decidable.byContradiction; intro hh; exact hc (by omega))
      · apply Decidable.byContradiction; intro hh; exact hc (.inr (.inr hh))
    · exact hm (powr_ok h)
theorem lastT_mem {l : List Tx} (h : l ≠ []) : lastT l ∈ l := by
  unfold lastT
  rw [List.getLast?_eq_some_getLast h]
  exact List.getLast_mem h
theorem syncT_length (vs : List (Int × List Tx)) (ts : List Tx) : (syncT vs ts).length = ts.length := by simp [syncT]
theorem syncS_ok {d : Dsk} {N : Nat} (h : d.Ok N) : (syncS d).Ok N := by
  refine ⟨by simp only [syncS, syncT_length]; exact h.len, fun t ht => ?_, fun i l hl => by simp [syncS, lookI] at hl, h.fuse⟩
  simp only [syncS, syncT] at ht
  obtain ⟨j, hj, rfl⟩ := List.mem_mapIdx.1 ht
  cases hv : lookI d.vs (j : Int) with
  | none => exact h.tx _ (List.getElem_mem _)
  | some l => obtain ⟨_, _, h3, _, h5⟩ := h.vs _ l hv; exact h5 _ (lastT_mem h3)
theorem syncD_ok {d : Dsk} {N : Nat} (h : d.Ok N) : (syncD d).2.Ok N := by
  unfold syncD
  split
  · exact syncS_ok (powr_ok h)
  · exact powr_ok h
theorem crashD_ok {d : Dsk} {N : Nat} (h : d.Ok N) (hs : d.vs.Pairwise fun p q => p.1 < q.1) (cs : List Int) : (crashD d cs).Ok N ∧ (crashD d cs).ts.length = d.ts.length := by
  obtain ⟨h1, _, h3, _⟩ := crashL_ok d.vs d cs N h (fun p hp => (h.vs p.1 p.2 (lookI_mem hs hp)).2.2.2.2)
  exact ⟨⟨h1.len, h1.tx, fun i l hl => by simp [crashD, lookI] at hl, by simp [crashD]⟩, h3⟩
theorem crashD_live (d : Dsk) (cs : List Int) : (crashD d cs).off = false ∧ (crashD d cs).fuse = -1 ∧ (crashD d cs).vs = [] := ⟨rfl, rfl, rfl⟩

/-- The bytes of a block, as a string. -/
theorem conv_blk {w : World} {g c : Nat} {t : Tx} (h : Blk w g (tC t)) (hl : t.length = 256) : (convert 30 9 (.slice (some ⟨g, 0, none⟩) 256 c)).run Try.prog w = .ok (.string ⟨t.toArray⟩) w := by
  have := run_convert_bytes_back (P := Try.prog) w 30 9 5 ⟨g, 0, none⟩ c t Try.underlying30 Try.underlying5 Try.underlying9 (fun j hj => by
    rw [Addr.add_mid, Nat.zero_add]
    exact h.get (by simp [tC, bV, hj]))
  rwa [hl] at this
end Go.Proofs.Yteaenhmiomoocaa
