/- Operations in memory (the law's package), and a table whose first task stays. No condition. -/
import Derived.Test.YtedhhohnbekelaaZ
namespace Go.Proofs.Ytedhhohnbekelaa
open Go.RowKit Go.Deep

/-- The cells of an operation. -/
def opL (o : Opn) : List Value := .int .u64 o.kind :: ((tkArr o.x).toList ++ [.int .i64 o.id, .int .i64 o.on])
def opArr (o : Opn) : Array Value := (opL o).toArray
def op0 : Opn := ⟨0, tk0, 0, 0⟩

theorem opL_len (o : Opn) : (opL o).length = 32 := by simp [opL, tkArr_size]
theorem opArr_size (o : Opn) : (opArr o).size = 32 := by simp [opArr, opL_len]
theorem size37 (o : Opn) : (Try.prog.info? 37).map (·.size) = some (opArr o).size := by
  rw [opArr_size]
  kernel_rfl
theorem size37L (o : Opn) : (Try.prog.info? 37).map (·.size) = some (opL o).length := by
  rw [opL_len]
  kernel_rfl
theorem one37 (o : Opn) : (opArr o).all (·.oneCell') = true := by
  rw [Array.all_eq_true_iff_forall_mem]
  intro v hv
  simp only [opArr, opL, tkArr, List.mem_toArray, List.mem_cons, List.mem_append, List.mem_map, List.not_mem_nil, or_false] at hv
  rcases hv with rfl | ⟨o, _, rfl⟩ | rfl | rfl <;> rfl
theorem zero37 (w : World) : (zeroValue 37).run Try.prog w = .ok (.agg (opArr op0)) w := by kernel_rfl

theorem opArr_k (o : Opn) : (opArr o)[0]? = some (.int .u64 o.kind) := rfl
theorem opArr_t (o : Opn) {j : Nat} (h : j < 29) : (opArr o)[1 + j]? = (tkArr o.x)[j]? := by
  unfold opArr opL
  rw [List.getElem?_toArray, Nat.add_comm, List.getElem?_cons_succ, List.getElem?_append_left (by rw [Array.length_toList, tkArr_size]; exact h), Array.getElem?_toList]
theorem opArr_i (o : Opn) : (opArr o)[30]? = some (.int .i64 o.id) := by
  unfold opArr opL
  rw [List.getElem?_toArray, List.getElem?_cons_succ, List.getElem?_append_right (by rw [Array.length_toList, tkArr_size]; omega), Array.length_toList, tkArr_size]
  rfl
theorem opArr_o (o : Opn) : (opArr o)[31]? = some (.int .i64 o.on) := by
  unfold opArr opL
  rw [List.getElem?_toArray, List.getElem?_cons_succ, List.getElem?_append_right (by rw [Array.length_toList, tkArr_size]; omega), Array.length_toList, tkArr_size]
  rfl

theorem cell_of {w : World} {A t o : Nat} {V : Array Value} {fr : Nat × Nat} {v : Value} (h : w.heap[A]? = some (.cells V t fr)) (hv : V[o]? = some v) : w.cell? ⟨A, o, none⟩ = some v := by
  simp [World.cell?, h, hv]

/-- An operation in a block of its own. -/
def OpAt (w : World) (A : Nat) (o : Opn) : Prop := w.heap[A]? = some (.cells (opArr o) 37 (0, 0))
section
variable {w w' : World} {A : Nat} {o : Opn}
theorem OpAt.lt (h : OpAt w A o) : A < w.heap.size := (Array.getElem?_eq_some_iff.1 h).1
theorem OpAt.c0 (h : OpAt w A o) : w.cell? ⟨A, 0, none⟩ = some (.int .u64 o.kind) := cell_of h (opArr_k o)
theorem OpAt.c30 (h : OpAt w A o) : w.cell? ⟨A, 30, none⟩ = some (.int .i64 o.id) := cell_of h (opArr_i o)
theorem OpAt.c31 (h : OpAt w A o) : w.cell? ⟨A, 31, none⟩ = some (.int .i64 o.on) := cell_of h (opArr_o o)
theorem OpAt.task (h : OpAt w A o) : w.rangeAt A 1 (tkArr o.x).toList := by
  intro j v hv
  have hj : j < 29 := by
    have := (List.getElem?_eq_some_iff.1 hv).1
    rw [Array.length_toList, tkArr_size] at this
    exact this
  exact cell_of h (by rw [opArr_t o hj, ← Array.getElem?_toList]; exact hv)
end

def SlOk (a : Option Addr) (len cap : Nat) : Prop := (a = none ∧ len = 0 ∧ cap = 0) ∨ ∃ x, a = some x ∧ len ≤ cap ∧ cap ≤ 9223372036854775807
/-- A slice of operations. -/
def RawO (w : World) (a : Option Addr) (len : Nat) (e : Nat → Opn) : Prop :=
  len = 0 ∨ ∃ b off, a = some ⟨b, off, none⟩ ∧ b < w.heap.size ∧ (∀ k, k < len → w.rangeAt b (off + k * 32) (opL (e k))) ∧ ∀ k, k < len → 0 ≤ (e k).kind

theorem rangeAt_below {n₀ b o : Nat} {w w' : World} {l : List Value} (hb : b < n₀) (h : Below n₀ w w') (hr : w.rangeAt b o l) : w'.rangeAt b o l := fun j v hv => (h.cell (p := ⟨b, _, none⟩) hb).trans (hr j v hv)

theorem RawO.take {w : World} {a : Option Addr} {len m : Nat} {e : Nat → Opn} (h : RawO w a len e) (hm : m ≤ len) : RawO w a m e := by
  rcases h with h | ⟨b, off, ha, hb, hc, hr⟩
  · exact .inl (by omega)
  · exact .inr ⟨b, off, ha, hb, fun k hk => hc k (by omega), fun k hk => hr k (by omega)⟩

/-- The task that has exited. -/
def smX (code : Int) : Tk := fun o => if o = 25 then 8 else if o = 26 then code else smT o
theorem may_smX (code : Int) : may (smX code) = true := by
  unfold may
  simp [smX, smT, wi]
theorem arr_smX (code : Int) : ((tkArr smT).setIfInBounds 25 (.int .i64 8)).setIfInBounds 26 (.int .i64 code) = tkArr (smX code) := by
  apply Array.ext'
  apply List.ext_getElem?
  intro j
  rw [Array.getElem?_toList, Array.getElem?_toList]
  by_cases hj : j < 29
  · rw [tkArr_at _ hj, Array.getElem?_setIfInBounds, Array.getElem?_setIfInBounds, tkArr_at _ hj]
    simp only [Array.size_setIfInBounds, tkArr_size]
    by_cases h6 : j = 26
    · subst h6; rfl
    · by_cases h5 : j = 25
      · subst h5; rfl
      · rw [if_neg (by omega), if_neg (by omega)]
        simp [smX, h5, h6]
  · rw [Array.getElem?_eq_none (by simp [tkArr_size]; omega), Array.getElem?_eq_none (by simp [tkArr_size]; omega)]

/-- A table in which things are done, and a task beside it. -/
structure Stays (w0 w : World) (base tb c bn bl : Nat) (vn vl lv : Value) (X : Nat) (x : Tk) (d : Tb) : Prop where
  tab : IsTab w base tb c bn bl vn vl lv d.n 256 d.ts d.R
  row : ∀ g, lv.ownBlock = some g → X < g
  blk : w.heap[X]? = some (.cells (tkArr x) 30 (0, 0))
  bel : Below w0.heap.size w0 w
  low : base ≤ X ∧ w0.heap.size ≤ tb ∧ w0.heap.size ≤ bn ∧ w0.heap.size ≤ bl

section
variable {w0 w w' : World} {base tb c bn bl X : Nat} {vn vl lv : Value} {x : Tk} {d : Tb}
theorem Stays.lt (h : Stays w0 w base tb c bn bl vn vl lv X x d) : X < w.heap.size := (Array.getElem?_eq_some_iff.1 h.blk).1
theorem Stays.below (h : Stays w0 w base tb c bn bl vn vl lv X x d) (hB : Below w.heap.size w w') : Stays w0 w' base tb c bn bl vn vl lv X x d :=
  ⟨h.tab.below hB, h.row, (hB.block X h.lt).trans h.blk, h.bel.trans (hB.mono h.bel.size), h.low⟩
theorem Stays.alloc (h : Stays w0 w base tb c bn bl vn vl lv X x d) (o : Obj) : Stays w0 (w.alloc o) base tb c bn bl vn vl lv X x d := h.below ((Below.refl _ _).alloc (Nat.le_refl _) o)
theorem Stays.tabS (h : Stays w0 w base tb c bn bl vn vl lv X x d) {lv' : Value} {n' : Nat} {ts' : Nat → Tk} (hT : IsTab w' base tb c bn bl vn vl lv' n' 256 ts' d.R) (hF : Frm (TabS tb lv) w w') (hb : lv'.ownBlock = lv.ownBlock ∨ ∃ g, w.heap.size ≤ g ∧ lv'.ownBlock = some g) :
    Stays w0 w' base tb c bn bl vn vl lv' X x ⟨n', ts', d.R⟩ := by
  refine ⟨hT, fun g hg => ?_, (hF.block X h.lt (fun hs => ?_)).trans h.blk, tab_below h.bel h.tab h.bel.size h.low.2.1 hF, h.low⟩
  · rcases hb with e | ⟨g', hg', e⟩
    · exact h.row g (by rw [← e]; exact hg)
    · have := h.lt
      rw [e] at hg
      cases hg
      omega
  · have := h.tab.low
    have := h.low
    rcases hs with e | e
    · omega
    · have := h.row X e.symm; omega
theorem Stays.two (h : Stays w0 w base tb c bn bl vn vl lv X x d) {R' : Nat → List Nat} (hT : IsTab w' base tb c bn bl vn vl lv d.n 256 d.ts R') (hF : Frm (Two bn bl) w w') : Stays w0 w' base tb c bn bl vn vl lv X x ⟨d.n, d.ts, R'⟩ := by
  obtain ⟨a1, a2, a3, a4⟩ := h.tab.apart (by omega)
  have := h.low
  exact ⟨hT, h.row, (hF.block X h.lt (fun hs => by rcases hs with e | e <;> omega)).trans h.blk, two_below h.bel h.bel.size h.low.2.2.1 h.low.2.2.2 hF, h.low⟩

theorem SAdd_any (h : Stays w0 w base tb c bn bl vn vl lv X x d) (t : Tk) : Calls Try.prog 8 #[.pointer (some ⟨tb, 0, none⟩), tkV t] w
    fun r w' => r = .returned (.tuple #[.int .i64 (addD d.n 256 d.ts t).1, .int .i64 (addD d.n 256 d.ts t).2.1]) ∧ ∃ lv', Stays w0 w' base tb c bn bl vn vl lv' X x ⟨(addD d.n 256 d.ts t).2.2.1, (addD d.n 256 d.ts t).2.2.2, d.R⟩ := by
  refine (TAdd_any h.tab t).mono ?_
  rintro r w' ⟨rfl, lv', hT, hF, hb⟩
  exact ⟨rfl, lv', h.tabS hT hF hb⟩
theorem SSet_any (h : Stays w0 w base tb c bn bl vn vl lv X x d) (i : Int) (t : Tk) : Calls Try.prog 9 #[.pointer (some ⟨tb, 0, none⟩), .int .i64 i, tkV t] w
    fun r w' => r = .returned (.int .i64 (setD d.n d.ts i t).1) ∧ Stays w0 w' base tb c bn bl vn vl lv X x ⟨d.n, (setD d.n d.ts i t).2, d.R⟩ := by
  refine (TSet_any h.tab i t).mono ?_
  rintro r w' ⟨rfl, hT, hF⟩
  exact ⟨rfl, h.tabS hT hF (.inl rfl)⟩
theorem SJoin_any (h : Stays w0 w base tb c bn bl vn vl lv X x d) (i j : Int) : Calls Try.prog 10 #[.pointer (some ⟨tb, 0, none⟩), .int .i64 i, .int .i64 j] w
    fun r w' => r = .returned (.int .i64 (joinD d.n 256 d.ts d.R i j).1) ∧ Stays w0 w' base tb c bn bl vn vl lv X x ⟨d.n, d.ts, (joinD d.n 256 d.ts d.R i j).2⟩ := by
  refine (TJoin_any h.tab i j).mono ?_
  rintro r w' ⟨rfl, hT, hF⟩
  exact ⟨rfl, h.two hT hF⟩
end
end Go.Proofs.Ytedhhohnbekelaa
