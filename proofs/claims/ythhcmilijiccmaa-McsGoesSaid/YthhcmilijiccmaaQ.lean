/- Arguments of the laws of layer 29, opened. No condition. -/
import Derived.Test.YthhcmilijiccmaaO
import Derived.ProofKit
import Derived.OpenShut
import Derived.ChangeOld
import Derived.Below
import Derived.Deep.Slices
import Derived.Deep.Fields
import Derived.ChangeSame
namespace Go.Proofs.Ythhcmilijiccmaa
open Go.ChangeShapes Go.WideShapes Go.ChangeAt Go.RowKit Go.Deep

theorem own : ownKnob Try.prog.godebug = none := by kernel_rfl
theorem laidOut : laidOutB Try.prog = true := by kernel_rfl

/-- The cells of an argument that is a slice of structs of numbers. -/
theorem cells_of_arg {H : Type} {enc : TypeId × Value → H} {P : Program} {w : World} {base : Nat} {held : Bool} {t e : TypeId} {fs : Array Field} {fuel : Nat} {cs : List Value} {x : DataW H × List MemPlace}
    (ht : P.underlying t = some (.slice e)) (he : P.underlying e = some (.struct fs)) (hone : oneCellFields P fs = true) (hC : P.cellsOf e = fs.size)
    (h : DataW.trod enc P w base (fun _ => true) held fuel t cs = some x) :
    cs = [.slice none 0 0] ∨ ∃ (a : Addr) (len cap : Nat), cs = [.slice (some a) len cap] ∧ len ≤ cap ∧ cap ≤ maxLen ∧
      ∀ i, i < len → ∀ (j : Nat) (f : Field) (k : IntKind), fs[j]? = some f → P.underlying f.type = some (.int k) → ∃ n : Int, w.cell? (a.add (i * fs.size + j)) = some (.int k n) ∧ (Lit.int k n).wf = true := by
  rcases open_slice ht h with ⟨h0, _⟩ | ⟨a, len, cap, m, n, D, Pl, hcs, _, hl, hm, hmm, _, hi⟩
  · exact .inl h0
  · refine .inr ⟨a, len, cap, hcs, hl, hm, fun i him j f k hj hk => ?_⟩
    simp at hmm
    obtain ⟨cs', hc, ht'⟩ := hi i (by omega)
    rw [hC] at hc
    obtain ⟨ys, n', _, _, hlen, hyl, hf⟩ := DataW.trod_struct he ht'
    obtain ⟨_, _, hat⟩ := World.cells?_some hc
    obtain ⟨ho, hk1⟩ := hone_of hone j f hj
    have hjl : j < fs.size := (Array.getElem?_eq_some_iff.1 hj).1
    have h1 := hf j f hj
    rw [ho, hk1, List.getElem?_eq_getElem (by omega : j < ys.length)] at h1
    obtain ⟨q, hq, _, hw⟩ := DataW.trod_int hk h1
    refine ⟨q, ?_, hw⟩
    have := hat j hjl
    rw [Go.Deep.add_add] at this
    rw [this]
    have h2 : ((cs'.drop j).take 1)[0]? = some (.int k q) := by rw [hq]; rfl
    simpa using h2

theorem pick {α : Type} [Inhabited α] {len : Nat} {R : Nat → α → Prop} (h : ∀ k, k < len → ∃ x, R k x) : ∃ f : Nat → α, ∀ k, k < len → R k (f k) :=
  ⟨fun k => if hk : k < len then Classical.choose (h k hk) else default, fun k hk => by simp only [hk, dite_true]; exact Classical.choose_spec (h k hk)⟩

instance : Inhabited Opn := ⟨⟨0, 0⟩⟩

theorem ops_of_arg {H : Type} {enc : TypeId × Value → H} {w : World} {base : Nat} {held : Bool} {fuel : Nat} {a0 : Option Addr} {len0 cap0 : Nat} {x : DataW H × List MemPlace}
    (h : DataW.trod enc Try.prog w base (fun _ => true) held fuel 22 [.slice a0 len0 cap0] = some x) : SlOk a0 len0 cap0 ∧ ∃ e, RawO w a0 len0 e := by
  rcases cells_of_arg Try.underlying22 Try.underlying28 (by kernel_rfl) (by kernel_rfl) h with hcs | ⟨a, len, cap, hcs, hl, hm, hi⟩
  · simp at hcs
    obtain ⟨rfl, rfl, rfl⟩ := hcs
    exact ⟨.inl ⟨rfl, rfl, rfl⟩, fun _ => default, .inl rfl⟩
  · simp at hcs
    obtain ⟨rfl, rfl, rfl⟩ := hcs
    unfold maxLen at hm
    refine ⟨.inr ⟨a, rfl, hl, hm⟩, ?_⟩
    by_cases h0 : len0 = 0
    · exact ⟨fun _ => default, .inl h0⟩
    obtain ⟨n0, hn0, _⟩ := hi 0 (by omega) 0 _ .u64 rfl Try.underlying26
    have hsp : a.spot = none := by simpa [Addr.add] using World.cell?_spot hn0
    obtain ⟨b, off, spot⟩ := a
    simp only at hsp
    subst hsp
    obtain ⟨e, he⟩ := pick (α := Opn) (len := len0) (R := fun k e => (w.cell? ⟨b, off + k * 2, none⟩ = some (.int .u64 e.kind) ∧ w.cell? ⟨b, off + k * 2 + 1, none⟩ = some (.int .i64 e.who)) ∧ 0 ≤ e.kind ∧ e.kind ≤ 18446744073709551615) (fun k hk => by
        obtain ⟨v0, h0, w0⟩ := hi k hk 0 _ .u64 rfl Try.underlying26
        obtain ⟨v1, h1, _⟩ := hi k hk 1 _ .i64 rfl Try.underlying3
        rw [Addr.add_lit] at h0 h1
        exact ⟨⟨v0, v1⟩, ⟨h0, by rw [← Nat.add_assoc] at h1; exact h1⟩, bounds_u64 w0⟩)
    exact ⟨e, .inr ⟨b, off, rfl, World.block_lt_of_cell? _ _ (he 0 (by omega)).1.1, fun k hk => (he k hk).1, fun k hk => (he k hk).2⟩⟩
end Go.Proofs.Ythhcmilijiccmaa
