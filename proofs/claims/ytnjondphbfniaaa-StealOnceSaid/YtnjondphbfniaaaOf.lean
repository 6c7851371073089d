/- However steps come, what was put in is taken once at most, and nothing else; when all calls are ended, what was not taken is there, and comes out: StealOnce returns true for every two numbers and every list of calls. No condition. -/
import Derived.Test.YtnjondphbfniaaaOe
import Derived.ProofKit
import Derived.OpenShut
import Derived.ChangeOld
import Derived.Below
import Derived.Deep.Slices
import Derived.Deep.Fields
import Derived.ChangeSame
namespace Go.Proofs.Ytnjondphbfniaaa
open Go.ChangeShapes Go.WideShapes Go.ChangeAt Go.RowKit Go.Deep

theorem own : ownKnob Try.prog.godebug = none := by kernel_rfl
theorem laidOut : laidOutB Try.prog = true := by kernel_rfl

/-- The cells of an argument that is a slice of structs of numbers. -/
theorem cells_of_arg {H : Type} {enc : TypeId × Value → H} {P : Program} {w : World} {base : Nat} {held : Bool} {t e : TypeId} {fs : Array Field} {fuel : Nat} {cs : List Value} {x : DataW H × List MemPlace}
    (ht : P.underlying t = some (.slice e)) (he : P.underlying e = some (.struct fs)) (hone : oneCellFields P fs = true) (hC : P.cellsOf e = fs.size)
    (h : DataW.trod enc P w base (fun _ => true) held fuel t cs = some x) :
    cs = [.slice none 0 0] ∨ ∃ (a : Addr) (len cap : Nat), cs = [.slice (some a) len cap] ∧ len ≤ cap ∧ cap ≤ maxLen ∧
      ∀ i, i < len → ∀ (j : Nat) (f : Field) (k : IntKind), fs[j]? = some f → P.underlying f.type = some (.int k) → ∃ n : Int, w.cell? (a.add (i * fs.size + j)) = some (.int k n) ∧ (Lit.int k n).wf = true := by
  rcases open_slice ht h with ⟨h0, _⟩ | ⟨a, len, cap, m, n, D, Pl, hcs, _, hl, hm, hmm, _, hi⟩
  · exact .inl h0
  · refine .inr ⟨a, len, cap, hcs, hl, hm, fun i him j f k hj hk => ?_⟩
    simp at hmm
    obtain ⟨cs', hc, ht'⟩ := hi i (by omega)
    rw [hC] at hc
    obtain ⟨ys, n', _, _, hlen, hyl, hf⟩ := DataW.trod_struct he ht'
    obtain ⟨_, _, hat⟩ := World.cells?_some hc
    obtain ⟨ho, hk1⟩ := hone_of hone j f hj
    have hjl : j < fs.size := (Array.getElem?_eq_some_iff.1 hj).1
    have h1 := hf j f hj
    rw [ho, hk1, List.getElem?_eq_getElem (by omega : j < ys.length)] at h1
    obtain ⟨q, hq, _, hw⟩ := DataW.trod_int hk h1
    refine ⟨q, ?_, hw⟩
    have := hat j hjl
    rw [Go.Deep.add_add] at this
    rw [this]
    have h2 : ((cs'.drop j).take 1)[0]? = some (.int k q) := by rw [hq]; rfl
    simpa using h2

theorem pick {α : Type} [Inhabited α] {len : Nat} {R : Nat → α → Prop} (h : ∀ k, k < len → ∃ x, R k x) : ∃ f : Nat → α, ∀ k, k < len → R k (f k) :=
  ⟨fun k => if hk : k < len then Classical.choose (h k hk) else default, fun k hk => by simp only [hk, dite_true]; exact Classical.choose_spec (h k hk)⟩

instance : Inhabited Opn := ⟨⟨0, 0, 0⟩⟩

theorem ops_of_arg {H : Type} {enc : TypeId × Value → H} {w : World} {base : Nat} {held : Bool} {fuel : Nat} {a0 : Option Addr} {len0 cap0 : Nat} {x : DataW H × List MemPlace}
    (h : DataW.trod enc Try.prog w base (fun _ => true) held fuel 22 [.slice a0 len0 cap0] = some x) : SlOk a0 len0 cap0 ∧ ∃ e, RawO w a0 len0 e := by
  rcases cells_of_arg Try.underlying22 Try.underlying29 (by kernel_rfl) (by kernel_rfl) h with hcs | ⟨a, len, cap, hcs, hl, hm, hi⟩
  · simp at hcs
    obtain ⟨rfl, rfl, rfl⟩ := hcs
    exact ⟨.inl ⟨rfl, rfl, rfl⟩, fun _ => default, .inl rfl⟩
  · simp at hcs
    obtain ⟨rfl, rfl, rfl⟩ := hcs
    unfold maxLen at hm
    refine ⟨.inr ⟨a, rfl, hl, hm⟩, ?_⟩
    by_cases h0 : len0 = 0
    · exact ⟨fun _ => default, .inl h0⟩
    obtain ⟨n0, hn0, _⟩ := hi 0 (by omega) 0 _ .u64 rfl Try.underlying27
    have hsp : a.spot = none := by simpa [Addr.add] using World.cell?_spot hn0
    obtain ⟨b, off, spot⟩ := a
    simp only at hsp
    subst hsp
    obtain ⟨e, he⟩ := pick (α := Opn) (len := len0) (R := fun k e => (w.cell? ⟨b, off + k * 3, none⟩ = some (.int .u64 e.kind) ∧ w.cell? ⟨b, off + k * 3 + 1, none⟩ = some (.int .i64 e.who) ∧ w.cell? ⟨b, off + k * 3 + 2, none⟩ = some (.int .i64 e.x)) ∧ 0 ≤ e.kind ∧ e.kind ≤ 18446744073709551615) (fun k hk => by
        obtain ⟨v0, h0, w0⟩ := hi k hk 0 _ .u64 rfl Try.underlying27
        obtain ⟨v1, h1, _⟩ := hi k hk 1 _ .i64 rfl Try.underlying3
        obtain ⟨v2, h2, _⟩ := hi k hk 2 _ .i64 rfl Try.underlying3
        rw [Addr.add_lit] at h0 h1 h2
        exact ⟨⟨v0, v1, v2⟩, ⟨h0, by rw [← Nat.add_assoc] at h1; exact h1, by rw [← Nat.add_assoc] at h2; exact h2⟩, bounds_u64 w0⟩)
    exact ⟨e, .inr ⟨b, off, rfl, World.block_lt_of_cell? _ _ (he 0 (by omega)).1.1, fun k hk => (he k hk).1, fun k hk => (he k hk).2⟩⟩

set_option maxRecDepth 100000 in
theorem lifted_stealOnce (os : Os) (started : os.Started) (H : Type) (enc : TypeId × Value → H) :
    ReturnsInHanded {} Try.checked os 4 .any (Rows.stealOnceSpec.pre6 enc Try.prog Try.f4 Rows.stealOnceRow.domain false) (Rows.stealOnceSpec.post enc Try.prog Try.f4 false true false false) := by
  refine returnsInHanded_of_change (C := Try.checked) own started (by kernel_rfl) Try.func4
    (ChangeSpec.witness6 (enc := enc) (C := Try.checked) false ⟨#[], #[.int .i64 0, .int .i64 0, .slice none 0 0], []⟩ 8 (by kernel_rfl) (by kernel_rfl) (by kernel_rfl) (by kernel_rfl)) ?_
  intro W base args ds gs before hval0 hW hcnd _
  have hval : ∀ (j : Nat) t v, Try.f4.params[j]? = some t → args[j]? = some v → Value.okWide Try.prog W .any base t v := hval0
  have hW' := hW
  obtain ⟨p, q, hA0, hV, rfl, hfz, hnd⟩ := hW
  have hA : DataW.TrodAll enc Try.prog W 0 (fun _ => true) true Try.f4.params.toList args.toList ds p := hA0
  rw [Try.params4] at hA hval
  obtain ⟨v0, vs0, d0, ds0, p0, q0, hargs, rfl, rfl, h0, r0⟩ := trodAll_cons hA
  obtain ⟨v1, vs1, d1, ds1, p1, q1, rfl, rfl, rfl, h1, r1⟩ := trodAll_cons r0
  obtain ⟨v2, vs2, d2, ds2, p2, q2, rfl, rfl, rfl, h2, r2⟩ := trodAll_cons r1
  obtain ⟨rfl, rfl, rfl⟩ := trodAll_nil r2
  obtain rfl : args = #[v0, v1, v2] := by cases args; simp_all
  obtain ⟨rfl, rfl⟩ := trodVars_none hV
  obtain ⟨a0, rfl, rfl, rfl, w0⟩ := open_int Try.underlying3 (hval 0 3 v0 rfl rfl) h0
  have b0 := bounds_i64 w0
  obtain ⟨a1, rfl, rfl, rfl, w1⟩ := open_int Try.underlying3 (hval 1 3 v1 rfl rfl) h1
  have b1 := bounds_i64 w1
  obtain ⟨a2, len2, cap2, rfl⟩ := okWide_slice Try.underlying22 (hval 2 22 v2 rfl rfl)
  have k2 := h2
  have lt2 : ∀ x ∈ p2, x.block < W.heap.size := by obtain ⟨m, hm⟩ := k2; exact DataW.trod_lt m _ _ _ hm
  obtain ⟨f2, hf2⟩ := h2
  obtain ⟨s2, e2, he2⟩ := ops_of_arg hf2
  clear hA0 hval0
  refine (once_any a0 a1 a2 len2 cap2 e2 W b0.1 b0.2 b1.1 b1.2 s2 he2).mono fun r W' ⟨hr, bel⟩ => ?_
  subst hr
  exact ⟨_, rfl, _, _, _, [], _, [], hW', trodAll_mk1 (shut_bool Try.underlying4 _), (trodAll_cons_mk (shut_int Try.underlying3 w0) (trodAll_cons_mk (shut_int Try.underlying3 w1) (trodAll_cons_mk (Below.trod laidOut (by kernel_rfl) (of_decide_eq_true (by kernel_rfl)) k2 bel lt2) trodAll_mk0))), rfl, bel.frame _, fun h => by cases h⟩

theorem stealOnce_holds : Rows.StealOnceSaid :=
  OpenClaim.holds_of_wide 4 Try.f4 rfl rfl rfl rfl rfl rfl rfl ⟨rfl, rfl, rfl, rfl, rfl⟩ rfl rfl rfl rfl rfl (by kernel_rfl) Try.func4 (by kernel_rfl)
    (of_decide_eq_true (by kernel_rfl)) (by unfold Func.isWrapper; first | (rw [if_pos (by decide +kernel)]; kernel_rfl) | (rw [if_neg (by decide +kernel)]; exact ⟨rfl, rfl⟩))
    (fun os started H enc _ => lifted_stealOnce os started H enc)
#print axioms stealOnce_holds
end Go.Proofs.Ytnjondphbfniaaa
