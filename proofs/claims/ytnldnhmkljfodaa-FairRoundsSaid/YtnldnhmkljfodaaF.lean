/- A part of the proof that fair.Window is one more than the greatest of its gaps (contracts of the functions of package fair). No condition. -/
import Derived.Test.YtnldnhmkljfodaaE
namespace Go.Proofs.Ytnldnhmkljfodaa
open Go.RowKit Go.Shelf

attribute [local go_sem] Oper.semAt_some

/-- The end of the one round: the body leaves by an exit. -/
def onePost (id : Nat) (Ix : World → Prop) (W : World) : Exit → Act → World → Prop
  | .exit k, _, W' => k = id ∧ KeepsOthers W W' ∧ Ix W'
  | _, _, _ => False

/-- A range over a function that writes one cell of its own ahead of its only call of yield, where that round leaves the loop. -/
theorem range_once {F : Fence} {n : Nat} {P : Program} {g : Operand} {ps : Array Tmp} {assign body : Code} {Q : Exit → Act → World → Prop} {a : Act} {w : World}
    (hro : F.round = none) (h1 : 1 ≤ n) {gf : Nat} {lb : Array Value} (hg : a.eval g = .func (.func gf) #[] lb) (hFg : F.fn gf) (eg : ∀ args w, (callFunc gf args).run P w = .ok (.enter gf args) w)
    (args : Array Value) (hps : args.size = ps.size) (p : Addr) (v : Value) (hp : p.block < w.heap.size)
    (hit : ∀ (l : Nat) (W : World) (R : World → Prop), Below w.heap.size w W → YieldAt F (n - 1 - 1) P l args (W.setCell p v) (fun e W' => e = .returned (.bool false) ∧ R W') →
      CallsIn F (n - 1) P gf (#[.func (.yield l) #[] #[]] ++ lb) W fun e W' => (∃ u, e = .returned u) ∧ R W')
    (id : Nat) (Ix : World → Prop) (hIx : ∀ (W : World) (l : Nat) (o o' : Obj), Ix W → w.heap.size ≤ l → W.heap[l]? = some o → o.isCells = false → Ix (W.putObj l o'))
    (a₁ : Act)
    (hassign : ∀ (l : Nat) (W : World) (K : Act → World → Prop), K a₁ W →
      assign.wpIn (F.inRound l) (n - 1 - 1) P (Exit.then K (fun _ _ _ => False)) { tmps := (ps.zip args).foldl (fun t (q, x) => t.setIfInBounds q x) a.tmps, defers := [] } W)
    (hbody : ∀ (l : Nat) (W : World), Below w.heap.size (w.setCell p v) W → w.heap.size + 2 ≤ W.heap.size → body.wpIn (F.inRound l) (n - 1 - 1) P (onePost id Ix W) a₁ W)
    (hstop : ∀ (D : Nat) (W : World), w.heap.size ≤ D → Ix W → W.heap[D]? = some (.deferred (some [])) → (Code.exit id).wpIn F n P Q { a with defers := { target := .collected D, args := #[] } :: a.defers } W) :
    (Code.rangeFunc g ps assign body).wpIn F n P Q a w := by
  refine wpIn_rangeFunc ?_
  intro fn hfn
  rw [hro]
  obtain ⟨rec, hrec⟩ : ∃ rec : LoopState → Option Code → Loop, rec = fun st pe => { state := st, pending := pe, fn, tmps := a.tmps, params := ps, assign, body, defers := w.heap.size } := ⟨_, rfl⟩
  obtain ⟨W1, hW1⟩ : ∃ W1, (w.alloc (.deferred (some []))).alloc (.loop (rec .ready none)) = W1 := ⟨_, rfl⟩
  have hs1 : W1.heap.size = w.heap.size + 2 := by rw [← hW1]; simp
  have hL1 : W1.heap[w.heap.size + 1]? = some (.loop (rec .ready none)) := by
    rw [← hW1]; have := World.alloc_heap_new (w.alloc (.deferred (some []))) (.loop (rec .ready none)); rwa [World.size_alloc] at this
  have hK1 : W1.heap[w.heap.size]? = some (.deferred (some [])) := by
    rw [← hW1]; exact (Below.heap_alloc _ _ _ (by simp)).trans (World.alloc_heap_new w _)
  have hb1 : Below w.heap.size w W1 := by
    rw [← hW1]; exact ((Below.refl _ w).alloc (Nat.le_refl _) _).alloc (by simp) _
  refine ⟨w.heap.size + 1, [{ target := .collected w.heap.size, args := #[] }], W1, { target := .fn (.func gf) lb, args := #[.func (.yield (w.heap.size + 1)) #[] #[]] }, W1, gf,
    #[.func (.yield (w.heap.size + 1)) #[] #[]] ++ lb, W1, ?_, ?_, ?_, ?_, fun _ => h1, ?_⟩
  · rw [← hW1, hrec]; exact run_enterLoop_outer _ _ _ _ _
  · simp only [resolve, hg]
    simp [go_sem]
  · intro f' hf'; simp [Target.leads] at hf'; subst hf'; exact hFg
  · simp [invoke, go_sem, eg]
  · refine (hit (w.heap.size + 1) W1 (fun W => Ix W ∧ W.heap[w.heap.size + 1]? = some (.loop (rec .done (some (.exit id)))) ∧ W.heap[w.heap.size]? = some (.deferred (some []))) hb1 ?_).mono ?_
    · obtain ⟨W2, hW2⟩ : ∃ W2, W1.setCell p v = W2 := ⟨_, rfl⟩
      rw [hW2]
      have hL2 : W2.heap[w.heap.size + 1]? = some (.loop (rec .ready none)) := by rw [← hW2]; exact (Below.heap_setCell _ _ _ _ (by omega)).trans hL1
      have hK2 : W2.heap[w.heap.size]? = some (.deferred (some [])) := by rw [← hW2]; exact (Below.heap_setCell _ _ _ _ (by omega)).trans hK1
      have hb2 : Below w.heap.size (w.setCell p v) W2 := by
        rw [← hW2]
        refine ⟨hb1.os, hb1.tape, hb1.output, by simpa using hb1.size, fun k hk => ?_⟩
        simp only [World.setCell, Array.getElem?_modify]
        rw [hb1.block k hk]
      have hs2 : W2.heap.size = w.heap.size + 2 := by rw [← hW2]; simpa using hs1
      have hy := run_yield (P := P) (args := args) hL2 (by rw [hrec]; exact hps)
      rw [hrec] at hy
      refine ⟨fn, _, assign, body, hy, roundIn_of_wpIn hfn (hassign _ W2 _ ⟨_, run_beginRound hL2 (by rw [hrec]), ?_⟩)⟩
      obtain ⟨W3, hW3⟩ : ∃ W3, W2.putObj (w.heap.size + 1) (.loop { rec .ready none with state := .busy }) = W3 := ⟨_, rfl⟩
      have hs3 : W3.heap.size = w.heap.size + 2 := by rw [← hW3]; simpa using hs2
      have hL3 : W3.heap[w.heap.size + 1]? = some (.loop { rec .ready none with state := .busy }) := by rw [← hW3]; exact World.putObj_heap_same (by omega)
      have hK3 : W3.heap[w.heap.size]? = some (.deferred (some [])) := by rw [← hW3]; exact (World.putObj_heap_other (by omega)).trans hK2
      have hb3 : Below w.heap.size (w.setCell p v) W3 := by
        rw [← hW3]
        exact ⟨hb2.os, hb2.tape, hb2.output, by have := hb2.size; simpa using this, fun k hk => (World.putObj_heap_other (by omega)).trans (hb2.block k hk)⟩
      rw [hW3]
      refine wpIn_mono (hbody _ W3 hb3 (by omega)) ?_
      rintro e a3 W4 hp4
      cases e with
      | exit k =>
        obtain ⟨rfl, hk4, hi4⟩ := hp4
        have hL4 := hk4.same _ _ hL3 rfl
        have hK4 := hk4.same _ _ hK3 rfl
        have hr := run_endRound (P := P) (some (.exit k)) hL4
        rw [hrec] at hr ⊢
        refine ⟨_, _, hr, rfl, hIx _ _ _ _ hi4 (by omega) hL4 rfl, World.putObj_heap_same (Array.getElem?_eq_some_iff.1 hL4).1, (World.putObj_heap_other (by omega)).trans hK4⟩
      | normal => exact hp4.elim
      | ret => exact hp4.elim
      | goto t => exact hp4.elim
      | panic ch => exact hp4.elim
      | outgrown => exact hp4.elim
    · rintro e W2 ⟨⟨u, rfl⟩, hi, hl, hk⟩
      exact ⟨some (.exit id), _, by have := run_endLoop (P := P) hl (by rw [hrec]; simp); rw [hrec] at this; exact this, hstop _ _ (Nat.le_refl _) (hIx _ _ _ _ hi (by omega) hl rfl) ((World.putObj_heap_other (by omega)).trans hk)⟩
end Go.Proofs.Ytnldnhmkljfodaa
