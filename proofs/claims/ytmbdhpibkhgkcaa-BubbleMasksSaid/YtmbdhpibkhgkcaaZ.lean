/- Operations in memory, the forest and the document's bubbles side by side. No condition. -/
import Derived.Test.YtmbdhpibkhgkcaaYc
import Derived.Test.YtmbdhpibkhgkcaaQ
namespace Go.Proofs.Ytmbdhpibkhgkcaa
open Go.RowKit

/-- An operation. -/
structure Opn where
  kind : Int
  b : Int
  home : Int
  mask : Ws

def opL (o : Opn) : List Value := .int .u64 o.kind :: .int .i64 o.b :: .int .i64 o.home :: (wsArr o.mask).toList
def opArr (o : Opn) : Array Value := (opL o).toArray
def op0 : Opn := ⟨0, 0, 0, ws0⟩

theorem opL_len (o : Opn) : (opL o).length = 19 := by simp [opL, wsArr_size]
theorem opArr_size (o : Opn) : (opArr o).size = 19 := by simp [opArr, opL_len]
theorem size46 (o : Opn) : (Try.prog.info? 46).map (·.size) = some (opArr o).size := by
  rw [opArr_size]
  kernel_rfl
theorem size46L (o : Opn) : (Try.prog.info? 46).map (·.size) = some (opL o).length := by
  rw [opL_len]
  kernel_rfl
theorem one46 (o : Opn) : (opArr o).all (·.oneCell') = true := by
  rw [Array.all_eq_true_iff_forall_mem]
  intro v hv
  simp only [opArr, opL, wsArr, List.mem_toArray, List.mem_cons, List.mem_map] at hv
  rcases hv with rfl | rfl | rfl | ⟨o, _, rfl⟩ <;> rfl
theorem zero46 (w : World) : (zeroValue 46).run Try.prog w = .ok (.agg (opArr op0)) w := by kernel_rfl

/-- An operation in a block of its own. -/
def OpAt (w : World) (A : Nat) (o : Opn) : Prop := w.heap[A]? = some (.cells (opArr o) 46 (0, 0))
section
variable {w w' : World} {A : Nat} {o : Opn}
theorem OpAt.c0 (h : OpAt w A o) : w.cell? ⟨A, 0, none⟩ = some (.int .u64 o.kind) := cell_of h rfl
theorem OpAt.c1 (h : OpAt w A o) : w.cell? ⟨A, 1, none⟩ = some (.int .i64 o.b) := cell_of h rfl
theorem OpAt.c2 (h : OpAt w A o) : w.cell? ⟨A, 2, none⟩ = some (.int .i64 o.home) := cell_of h rfl
theorem OpAt.mask (h : OpAt w A o) : w.rangeAt A 3 (wsArr o.mask).toList := by
  intro j v hv
  refine cell_of h ?_
  unfold opArr opL
  rw [List.getElem?_toArray, show 3 + j = j + 1 + 1 + 1 by omega, List.getElem?_cons_succ, List.getElem?_cons_succ, List.getElem?_cons_succ]
  exact hv
end

/-- The forest, the document's bubbles, and what is kept beside them. -/
structure Pb (w0 w : World) (base fb : Nat) (Kp : List (Nat × Obj)) (lv rv : Value) (n : Nat) (bs : Nat → Bk) (m : Nat) (cs : Nat → Bk) : Prop where
  tab : IsFo w base fb lv n bs
  ref : SlB w rv m cs
  ups : Ups m cs ∧ m ≤ 32
  sep : 0 < m → ∀ g, rv.ownBlock = some g → g ≠ fb ∧ lv.ownBlock ≠ some g ∧ g < w.heap.size
  keep : ∀ p ∈ Kp, w.heap[p.1]? = some p.2 ∧ p.1 ≠ fb ∧ lv.ownBlock ≠ some p.1
  bel : Below w0.heap.size w0 w
  low : w0.heap.size ≤ fb

section
variable {w0 w w' : World} {base fb n m : Nat} {Kp : List (Nat × Obj)} {lv rv : Value} {bs cs : Nat → Bk}

theorem SlB.keep {S : Nat → Prop} (h : SlB w rv m cs) (hF : Frm S w w') (hS : 0 < m → ∀ g, rv.ownBlock = some g → ¬ S g) : SlB w' rv m cs := by
  obtain ⟨a, cap, rfl, hx⟩ := h
  refine ⟨a, cap, rfl, fun h0 => ?_⟩
  obtain ⟨g, rfl, hc⟩ := hx h0
  exact ⟨g, rfl, fun i o hi ho => (World.cell?_of_block (a := ⟨g, i * 19 + o, none⟩) (hF.block g (World.block_lt_of_cell? _ _ (hc i o hi ho)) (hS h0 g rfl))).trans (hc i o hi ho)⟩

theorem Pb.below (h : Pb w0 w base fb Kp lv rv n bs m cs) (hB : Below w.heap.size w w') : Pb w0 w' base fb Kp lv rv n bs m cs :=
  ⟨h.tab.below hB, h.ref.below hB, h.ups, fun h0 g hg => ⟨(h.sep h0 g hg).1, (h.sep h0 g hg).2.1, Nat.lt_of_lt_of_le (h.sep h0 g hg).2.2 hB.size⟩, fun p hp => ⟨(hB.block p.1 (Array.getElem?_eq_some_iff.1 (h.keep p hp).1).1).trans (h.keep p hp).1, (h.keep p hp).2⟩, h.bel.trans (hB.mono h.bel.size), h.low⟩
theorem Pb.new (h : Pb w0 w base fb Kp lv rv n bs m cs) (v : Array Value) (t : TypeId) : Pb w0 (w.alloc (.cells v t)) base fb ((w.heap.size, .cells v t (0, 0)) :: Kp) lv rv n bs m cs := by
  have h' := h.below ((Below.refl _ _).alloc (Nat.le_refl _) (.cells v t))
  refine ⟨h'.tab, h'.ref, h'.ups, h'.sep, fun p hp => ?_, h'.bel, h'.low⟩
  rcases List.mem_cons.1 hp with rfl | hp
  · exact ⟨heap_alloc_new _ _, fun e => by have := h.tab.top.lt; simp only at e; omega, fun e => by have := (h.tab.own.lt _ e).2; simp only at this; omega⟩
  · exact h'.keep p hp
theorem Pb.less (h : Pb w0 w base fb Kp lv rv n bs m cs) {Kp' : List (Nat × Obj)} (hs : ∀ p ∈ Kp', p ∈ Kp) : Pb w0 w base fb Kp' lv rv n bs m cs :=
  ⟨h.tab, h.ref, h.ups, h.sep, fun p hp => h.keep p (hs p hp), h.bel, h.low⟩
theorem Pb.kept (h : Pb w0 w base fb Kp lv rv n bs m cs) {A : Nat} {o : Obj} (hp : (A, o) ∈ Kp) : w.heap[A]? = some o := (h.keep _ hp).1

theorem Pb.real {lv' : Value} {n' : Nat} {bs' : Nat → Bk} (h : Pb w0 w base fb Kp lv rv n bs m cs) (hT : IsFo w' base fb lv' n' bs') (hF : Frm (FoS fb lv) w w') (hb : lv'.ownBlock = lv.ownBlock ∨ ∃ g, w.heap.size ≤ g ∧ lv'.ownBlock = some g) :
    Pb w0 w' base fb Kp lv' rv n' bs' m cs := by
  refine ⟨hT, h.ref.keep hF (fun h0 g hg hs => ?_), h.ups, fun h0 g hg => ⟨(h.sep h0 g hg).1, fun e => ?_, Nat.lt_of_lt_of_le (h.sep h0 g hg).2.2 hF.size⟩, fun p hp => ?_, fo_below h.bel h.tab h.bel.size h.low hF, h.low⟩
  · rcases hs with e | e
    · exact (h.sep h0 g hg).1 e
    · exact (h.sep h0 g hg).2.1 e.symm
  · rcases hb with e2 | ⟨g', h1, e2⟩
    · exact (h.sep h0 g hg).2.1 (by rw [← e2]; exact e)
    · rw [e2] at e
      have := Option.some.inj e
      have := (h.sep h0 g hg).2.2
      omega
  · obtain ⟨k1, k2, k3⟩ := h.keep p hp
    have hlt := (Array.getElem?_eq_some_iff.1 k1).1
    refine ⟨(hF.block p.1 hlt (fun hs => ?_)).trans k1, k2, fun e => ?_⟩
    · rcases hs with e | e
      · exact k2 e
      · exact k3 e.symm
    · rcases hb with e2 | ⟨g', h1, e2⟩
      · exact k3 (by rw [← e2]; exact e)
      · rw [e2] at e
        have := Option.some.inj e
        omega
theorem Pb.refr {rv' : Value} {m' : Nat} {cs' : Nat → Bk} (h : Pb w0 w base fb Kp lv rv n bs m cs) (hS : SlB w' rv' m' cs') (hu : Ups m' cs' ∧ m' ≤ 32) (hB : Below w.heap.size w w') (hg : 0 < m' → ∀ g, rv'.ownBlock = some g → (0 < m ∧ rv.ownBlock = some g) ∨ w.heap.size ≤ g) :
    Pb w0 w' base fb Kp lv rv' n bs m' cs' := by
  have h' := h.below hB
  refine ⟨h'.tab, hS, hu, fun h0 g hgg => ?_, h'.keep, h'.bel, h'.low⟩
  rcases hg h0 g hgg with ⟨h1, e⟩ | e
  · exact h'.sep h1 g e
  · refine ⟨fun e2 => by have := h.tab.top.lt; omega, fun e2 => by have := (h.tab.own.lt g e2).2; omega, ?_⟩
    obtain ⟨a, cap, rfl, hx⟩ := hS
    obtain ⟨g', rfl, hc⟩ := hx h0
    have e1 := Option.some.inj hgg
    have hlt := World.block_lt_of_cell? _ _ (hc 0 0 h0 (by omega))
    simp only at hlt e1
    omega
end
end Go.Proofs.Ytmbdhpibkhgkcaa
