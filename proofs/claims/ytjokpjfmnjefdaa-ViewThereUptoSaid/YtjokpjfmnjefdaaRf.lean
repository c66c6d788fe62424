/- A range over a function whose iterator writes variables of its own, and whose rounds all go on. Over any program. -/
import Derived.Test.YtjokpjfmnjefdaaBase
namespace Go.Proofs.Ytjokpjfmnjefdaa
open Go Go.RowKit
variable {F : Fence} {n : Nat} {P : Program}

/-- The iterator gives all of 'all', one by one, whatever J holds that abides its own moves. -/
def SeqGoes {α : Type} (F : Fence) (n : Nat) (P : Program) (g : Nat) (lb : Array Value) (encs : α → Array Value) (Kp Mv : World → World → Prop) (all : List α) (w : World) : Prop :=
  ∀ (l : Nat) (J : List α → World → Prop) (W : World), Below w.heap.size w W → (∀ pre A B, J pre A → Mv A B → J pre B) →
    (∀ pre x W1, J pre W1 → pre ++ [x] <+: all → YieldAt F (n - 1) P l (encs x) W1 fun e W' => e = .returned (.bool true) ∧ J (pre ++ [x]) W' ∧ Kp W1 W') →
    J [] W →
    CallsIn F n P g (#[.func (.yield l) #[] #[]] ++ lb) W fun e W' => (∃ v, e = .returned v) ∧ J all W'

theorem wpIn_rangeFunc_goes {α : Type} {g : Operand} {ps : Array Tmp} {assign body : Code} {Q : Exit → Act → World → Prop} {a : Act} {w : World}
    (hro : F.round = none) (h1 : 1 ≤ n) {gf : Nat} {lb : Array Value} (hg : a.eval g = .func (.func gf) #[] lb) (hFg : F.fn gf) (eg : ∀ args w, (callFunc gf args).run P w = .ok (.enter gf args) w)
    {encs : α → Array Value} {Kp Mv : World → World → Prop} {all : List α} {w0 : World} (hseq : SeqGoes F (n - 1) P gf lb encs Kp Mv all w0) (hb0 : Below w0.heap.size w0 w)
    (hMv : ∀ A B, Mv A B → ∀ k o, w.heap.size ≤ k → A.heap[k]? = some o → o.isCells = false → B.heap[k]? = some o)
    (hKt : ∀ {A B C : World}, Kp A B → Kp B C → Kp A C) (hKb : ∀ (W : World) (l : Nat) (o o' : Obj), w.heap.size ≤ l → W.heap[l]? = some o → o.isCells = false → o.isWalk = false → Kp W (W.putObj l o')) (hps : ∀ x, (encs x).size = ps.size)
    (I : List α → World → Prop) (hI : OwnFrom w.heap.size I) (hIM : ∀ pre A B, I pre A → Mv A B → I pre B) (h0 : I [] w) (Ax : α → Act → World → Prop) (hAx : ∀ x a', OwnFrom w.heap.size (fun (_ : Unit) W => Ax x a' W))
    (hassign : ∀ (l : Nat) (pre : List α) (x : α) (W : World) (K : Act → World → Prop), I pre W → pre ++ [x] <+: all → (∀ a' W', KeepsFrom w.heap.size W W' → Kp W W' → I pre W' → Ax x a' W' → K a' W') →
      assign.wpIn (F.inRound l) (n - 1 - 1) P (Exit.then K (fun _ _ _ => False)) { tmps := (ps.zip (encs x)).foldl (fun t (p, v) => t.setIfInBounds p v) a.tmps, defers := [] } W)
    (hbody : ∀ (l : Nat) (pre : List α) (x : α) (a' : Act) (W : World), w.heap.size ≤ l → I pre W → Ax x a' W → pre ++ [x] <+: all →
      body.wpIn (F.inRound l) (n - 1 - 1) P (ownPostG w.heap.size Kp I (fun _ _ _ => False) (pre ++ [x]) W) a' W)
    (hdone : ∀ (D : Nat) (W : World), w.heap.size ≤ D → I all W → W.heap[D]? = some (.deferred (some [])) → Q .normal { a with defers := { target := .collected D, args := #[] } :: a.defers } W) :
    (Code.rangeFunc g ps assign body).wpIn F n P Q a w := by
  refine wpIn_rangeFunc fun fn hfn => ?_
  rw [hro]
  generalize hrec : (fun (st : LoopState) (pe : Option Code) => ({ state := st, pending := pe, fn, tmps := a.tmps, params := ps, assign, body, defers := w.heap.size } : Loop)) = rec
  have hrd : ∀ st pe, rec st pe = { state := st, pending := pe, fn, tmps := a.tmps, params := ps, assign, body, defers := w.heap.size } := fun st pe => by rw [← hrec]
  generalize hV : (w.alloc (.deferred (some []))).alloc (.loop (rec .ready none)) = V
  have hVs : V.heap.size = w.heap.size + 2 := by rw [← hV]; simp
  have hVl : V.heap[w.heap.size + 1]? = some (.loop (rec .ready none)) := by
    have := World.alloc_heap_new (w.alloc (.deferred (some []))) (.loop (rec .ready none))
    rwa [World.size_alloc, hV] at this
  have hVd : V.heap[w.heap.size]? = some (.deferred (some [])) := by
    rw [← hV]; exact (Below.heap_alloc _ _ _ (by simp)).trans (World.alloc_heap_new w _)
  have hVI : I [] V := by rw [← hV]; exact hI.alloc _ (hI.alloc _ h0)
  have hVb : Below w0.heap.size w0 V := by
    rw [← hV]; exact hb0.trans ((((Below.refl _ w).alloc (Nat.le_refl _) _).alloc (by simp) _).mono hb0.size)
  refine ⟨w.heap.size + 1, [{ target := .collected w.heap.size, args := #[] }], V, { target := .fn (.func gf) lb, args := #[.func (.yield (w.heap.size + 1)) #[] #[]] }, V, gf,
    #[.func (.yield (w.heap.size + 1)) #[] #[]] ++ lb, V, ?_, ?_, ?_, ?_, fun _ => h1, ?_⟩
  · rw [← hV, hrd]; exact run_enterLoop_outer _ _ _ _ _
  · simp only [resolve, hg]
    simp [go_sem]
  · intro f' hf'; simp [Target.leads] at hf'; subst hf'; exact hFg
  · simp [invoke, go_sem, eg]
  refine (hseq (w.heap.size + 1) (fun pre W => I pre W ∧ W.heap[w.heap.size + 1]? = some (.loop (rec .ready none)) ∧ W.heap[w.heap.size]? = some (.deferred (some [])))
    V hVb (fun pre A B h hm => ⟨hIM _ _ _ h.1 hm, hMv _ _ hm _ _ (by omega) h.2.1 rfl, hMv _ _ hm _ _ (Nat.le_refl _) h.2.2 rfl⟩) ?_ ⟨hVI, hVl, hVd⟩).mono ?_
  · rintro pre x W ⟨hi, hl, hk⟩ hpx
    have hy := run_yield (P := P) (args := encs x) hl (by rw [hrd]; exact hps x)
    rw [hrd] at hy
    refine ⟨fn, _, assign, body, hy, roundIn_of_wpIn hfn (hassign _ pre x W _ hi hpx fun a' X hkf hkp hix hax => ?_)⟩
    have xl := hkf.same _ _ (by omega) hl rfl
    have xk := hkf.same _ _ (Nat.le_refl _) hk rfl
    have hlt : w.heap.size + 1 < X.heap.size := (Array.getElem?_eq_some_iff.1 xl).1
    refine ⟨_, run_beginRound xl (by rw [hrd]), ?_⟩
    generalize hY : X.putObj (w.heap.size + 1) (.loop { rec .ready none with state := .busy }) = Y
    have yl : Y.heap[w.heap.size + 1]? = some (.loop { rec .ready none with state := .busy }) := by rw [← hY]; exact World.putObj_heap_same hlt
    have yk : Y.heap[w.heap.size]? = some (.deferred (some [])) := by rw [← hY]; exact (World.putObj_heap_other (by omega)).trans xk
    have yp : Kp X Y := by rw [← hY]; exact hKb _ _ _ _ (by omega) xl rfl rfl
    have yi : I pre Y := by rw [← hY]; exact hI.putObj _ hix (by omega) xl rfl
    have ya : Ax x a' Y := by rw [← hY]; exact (hAx x a').putObj (s := ()) _ hax (by omega) xl rfl
    refine wpIn_mono (hbody _ pre x a' Y (by omega) yi ya hpx) ?_
    rintro e a3 Z hp
    cases e with
    | normal =>
      obtain ⟨zk, zp, zi⟩ := hp
      have zl := zk.same _ _ (by omega) yl rfl
      have hr := run_endRound (P := P) none zl
      have hu : (rec LoopState.ready none) = { { rec LoopState.ready none with state := .busy } with state := .ready, pending := none } := by rw [hrd]
      refine ⟨_, _, hr, rfl, ⟨hI.putObj _ zi (by omega) zl rfl, ?_, (World.putObj_heap_other (by omega)).trans (zk.same _ _ (Nat.le_refl _) yk rfl)⟩, hKt hkp (hKt (hKt yp zp) (hKb _ _ _ _ (by omega) zl rfl rfl))⟩
      rw [World.putObj_heap_same (Array.getElem?_eq_some_iff.1 zl).1, hrd]
      rfl
    | ret => exact hp.2.elim
    | exit id => exact hp.2.elim
    | goto t => exact hp.2.elim
    | panic ch => exact hp.elim
    | outgrown => exact hp.elim
  · rintro e Z ⟨⟨v, rfl⟩, hi, hl, hk⟩
    have hE := run_endLoop (P := P) hl (by rw [hrd]; simp)
    rw [hrd] at hE
    exact ⟨none, _, hE, hdone _ _ (Nat.le_refl _) (hI.putObj _ hi (by omega) hl rfl) ((World.putObj_heap_other (by omega)).trans hk)⟩
end Go.Proofs.Ytjokpjfmnjefdaa
