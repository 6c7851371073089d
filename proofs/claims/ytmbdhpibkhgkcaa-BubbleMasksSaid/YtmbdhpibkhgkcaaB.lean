/- Helpers: blocks of memory told by functions, and what a call may turn. No condition. -/
import Derived.WalkKit
import Derived.Lib.Hide
import Derived.RangeFuncRecord
import Derived.BigQuiet
import Derived.Deep.QuietTactic
namespace Go.Proofs.Ytmbdhpibkhgkcaa
open Go.RowKit

/-- A function turned at one place. -/
def upd (f : Nat → Value) (o : Nat) (v : Value) : Nat → Value := fun k => if k = o then v else f k
theorem upd_same (f : Nat → Value) (o : Nat) (v : Value) : upd f o v o = v := by simp [upd]
theorem upd_other (f : Nat → Value) {o k : Nat} (v : Value) (h : k ≠ o) : upd f o v k = f k := by simp [upd, h]

/-- Block b holds cells, the first n of which are told by f. -/
def Blk (w : World) (b : Nat) (t : TypeId) (n : Nat) (f : Nat → Value) : Prop :=
  ∃ arr : Array Value, w.heap[b]? = some (.cells arr t (0, 0)) ∧ n ≤ arr.size ∧ ∀ o, o < n → arr[o]? = some (f o)

section
variable {w w' : World} {b t n : Nat} {f g : Nat → Value}

theorem Blk.lt (h : Blk w b t n f) : b < w.heap.size := by
  obtain ⟨arr, h1, _⟩ := h
  exact (Array.getElem?_eq_some_iff.1 h1).1

theorem Blk.cell (h : Blk w b t n f) {o : Nat} (ho : o < n) : w.cell? ⟨b, o, none⟩ = some (f o) := by
  obtain ⟨arr, h1, _, h3⟩ := h
  simp [World.cell?, h1, h3 o ho]

theorem Blk.frozen (h : Blk w b t n f) (o : Nat) : w.frozen? ⟨b, o, none⟩ = false := by
  obtain ⟨arr, h1, _⟩ := h
  simp [World.frozen?, h1]

theorem Blk.congr (h : Blk w b t n f) (hfg : ∀ o, o < n → f o = g o) : Blk w b t n g := by
  obtain ⟨arr, h1, h2, h3⟩ := h
  exact ⟨arr, h1, h2, fun o ho => by rw [h3 o ho, hfg o ho]⟩

theorem Blk.of_heap (h : Blk w b t n f) (hb : w'.heap[b]? = w.heap[b]?) : Blk w' b t n f := by
  obtain ⟨arr, h1, h2, h3⟩ := h
  exact ⟨arr, hb.trans h1, h2, h3⟩

theorem Blk.set (h : Blk w b t n f) (o : Nat) (v : Value) : Blk (w.setCell ⟨b, o, none⟩ v) b t n (upd f o v) := by
  obtain ⟨arr, h1, h2, h3⟩ := h
  refine ⟨arr.setIfInBounds o v, ?_, by simpa using h2, ?_⟩
  · simp [World.setCell, Array.getElem?_modify, h1]
  · intro k hk
    by_cases e : k = o
    · subst e
      rw [upd_same, Array.getElem?_setIfInBounds_self_of_lt (by omega)]
    · rw [upd_other _ _ e, Array.getElem?_setIfInBounds_ne (Ne.symm e)]
      exact h3 k hk

theorem Blk.other (h : Blk w b t n f) {b' : Nat} (hb : b ≠ b') (o : Nat) (v : Value) : Blk (w.setCell ⟨b', o, none⟩ v) b t n f :=
  h.of_heap (Below.heap_setCell _ _ _ _ hb)

theorem Blk.alloc (h : Blk w b t n f) (o : Obj) : Blk (w.alloc o) b t n f := h.of_heap (Below.heap_alloc _ _ _ h.lt)
theorem Blk.drew (h : Blk w b t n f) : Blk w.drew b t n f := h.of_heap rfl
theorem Blk.drewN (h : Blk w b t n f) (k : Nat) : Blk (w.drewN k) b t n f := h.of_heap rfl

theorem Blk.new (w : World) (arr : Array Value) (t : TypeId) : Blk (w.alloc (.cells arr t)) w.heap.size t arr.size (fun o => arr[o]?.getD undef) :=
  ⟨arr, heap_alloc_new w _, Nat.le_refl _, fun o ho => by simp [ho]⟩
end

/-- Of the blocks that lay, those of S alone may be turned. -/
structure Frm (S : Nat → Prop) (w w' : World) : Prop where
  os : w'.os = w.os
  tape : w'.tape = w.tape
  output : w'.output = w.output
  size : w.heap.size ≤ w'.heap.size
  block : ∀ k, k < w.heap.size → ¬ S k → w'.heap[k]? = w.heap[k]?

section
variable {S T : Nat → Prop} {a b c w w' : World}
theorem Frm.refl (S : Nat → Prop) (w : World) : Frm S w w := ⟨rfl, rfl, rfl, Nat.le_refl _, fun _ _ _ => rfl⟩
theorem Frm.trans (h : Frm S a b) (k : Frm S b c) : Frm S a c :=
  ⟨k.os.trans h.os, k.tape.trans h.tape, k.output.trans h.output, Nat.le_trans h.size k.size, fun i hi hn => (k.block i (Nat.lt_of_lt_of_le hi h.size) hn).trans (h.block i hi hn)⟩
theorem Frm.mono (h : Frm S a b) (hST : ∀ k, k < a.heap.size → S k → T k) : Frm T a b := ⟨h.os, h.tape, h.output, h.size, fun i hi hn => h.block i hi (fun hs => hn (hST i hi hs))⟩
theorem Frm.alloc (h : Frm S a b) (o : Obj) : Frm S a (b.alloc o) :=
  h.trans ⟨rfl, rfl, rfl, by simp, fun k hk _ => Below.heap_alloc _ _ _ hk⟩
theorem Frm.setCell (h : Frm S a b) {p : Addr} (hp : p.block < a.heap.size → S p.block) (v : Value) : Frm S a (b.setCell p v) :=
  ⟨h.os, h.tape, h.output, by simpa using h.size, fun k hk hn => (Below.heap_setCell _ _ _ _ (fun e => hn (by subst e; exact hp hk))).trans (h.block k hk hn)⟩
theorem Frm.drew (h : Frm S a b) : Frm S a b.drew := ⟨h.os, h.tape, h.output, h.size, h.block⟩
theorem Frm.drewN (h : Frm S a b) (n : Nat) : Frm S a (b.drewN n) := ⟨h.os, h.tape, h.output, h.size, h.block⟩
theorem Frm.below {B : Nat} (h : Frm S a b) (hB : B ≤ a.heap.size) (hS : ∀ k, k < B → ¬ S k) : Below B a b :=
  ⟨h.os, h.tape, h.output, h.size, fun k hk => h.block k (by omega) (hS k hk)⟩
theorem Frm.blk {x t n : Nat} {f : Nat → Value} (h : Frm S a b) (hb : Blk a x t n f) (hx : ¬ S x) : Blk b x t n f := hb.of_heap (h.block x hb.lt hx)
end

theorem Below.drewN {B : Nat} {a w : World} (h : Below B a w) (n : Nat) : Below B a (w.drewN n) := ⟨h.os, h.tape, h.output, h.size, h.block⟩
end Go.Proofs.Ytmbdhpibkhgkcaa
