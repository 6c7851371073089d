/- What is put in alone comes out by thefts in its order, by pops in the other one, by both from both ends: StealOrder returns true for every two lists. No condition. -/
import Derived.Test.YtnjondphbfniaaaY
import Derived.ProofKit
import Derived.OpenShut
import Derived.ChangeOld
import Derived.Below
import Derived.Deep.Slices
import Derived.ChangeSame
namespace Go.Proofs.Ytnjondphbfniaaa
open Go.ChangeShapes Go.WideShapes Go.ChangeAt Go.RowKit Go.Deep

theorem ownO : ownKnob Try.prog.godebug = none := by kernel_rfl
theorem laidOutO : laidOutB Try.prog = true := by kernel_rfl

theorem pickO {α : Type} [Inhabited α] {len : Nat} {R : Nat → α → Prop} (h : ∀ k, k < len → ∃ x, R k x) : ∃ f : Nat → α, ∀ k, k < len → R k (f k) :=
  ⟨fun k => if hk : k < len then Classical.choose (h k hk) else default, fun k hk => by simp only [hk, dite_true]; exact Classical.choose_spec (h k hk)⟩

theorem ints_of_arg {H : Type} {enc : TypeId × Value → H} {w : World} {base : Nat} {held : Bool} {fuel : Nat} {a0 : Option Addr} {len0 cap0 : Nat} {x : DataW H × List MemPlace}
    (h : DataW.trod enc Try.prog w base (fun _ => true) held fuel 32 [.slice a0 len0 cap0] = some x) : SlOk a0 len0 cap0 ∧ ∃ e, RawI w a0 len0 e := by
  rcases open_slice1 Try.underlying32 (by kernel_rfl) h with ⟨hcs, _⟩ | ⟨a, len, cap, m, n, V, D, Pl, hcs, hb, hl, hm, hmm, _, hx⟩
  · simp at hcs
    obtain ⟨rfl, rfl, rfl⟩ := hcs
    exact ⟨.inl ⟨rfl, rfl, rfl⟩, fun _ => 0, .inl rfl⟩
  · simp at hcs hmm
    obtain ⟨rfl, rfl, rfl⟩ := hcs
    unfold maxLen at hm
    refine ⟨.inr ⟨a, rfl, hl, hm⟩, ?_⟩
    by_cases h0 : len0 = 0
    · exact ⟨fun _ => 0, .inl h0⟩
    obtain ⟨e, he⟩ := pickO (α := Int) (len := len0) (R := fun k e => w.cell? (a.add k) = some (.int .i64 e)) (fun k hk => by
      obtain ⟨h1, h2⟩ := hx k (by omega)
      obtain ⟨v, hv, _⟩ := DataW.trod_int Try.underlying3 h2
      exact ⟨v, by rw [h1]; simpa using hv⟩)
    have hsp : a.spot = none := by simpa [Addr.add] using World.cell?_spot (he 0 (by omega))
    obtain ⟨b, off, spot⟩ := a
    simp only at hsp
    subst hsp
    exact ⟨e, .inr ⟨b, off, rfl, World.block_lt_of_cell? _ _ (he 0 (by omega)), fun k hk => by have := he k hk; rw [Addr.add_lit] at this; exact this⟩⟩

theorem bools_of_arg {H : Type} {enc : TypeId × Value → H} {w : World} {base : Nat} {held : Bool} {fuel : Nat} {a0 : Option Addr} {len0 cap0 : Nat} {x : DataW H × List MemPlace}
    (h : DataW.trod enc Try.prog w base (fun _ => true) held fuel 50 [.slice a0 len0 cap0] = some x) : SlOk a0 len0 cap0 ∧ ∃ e, RawB w a0 len0 e := by
  rcases open_slice1 Try.underlying50 (by kernel_rfl) h with ⟨hcs, _⟩ | ⟨a, len, cap, m, n, V, D, Pl, hcs, hb, hl, hm, hmm, _, hx⟩
  · simp at hcs
    obtain ⟨rfl, rfl, rfl⟩ := hcs
    exact ⟨.inl ⟨rfl, rfl, rfl⟩, fun _ => false, .inl rfl⟩
  · simp at hcs hmm
    obtain ⟨rfl, rfl, rfl⟩ := hcs
    unfold maxLen at hm
    refine ⟨.inr ⟨a, rfl, hl, hm⟩, ?_⟩
    by_cases h0 : len0 = 0
    · exact ⟨fun _ => false, .inl h0⟩
    obtain ⟨e, he⟩ := pickO (α := Bool) (len := len0) (R := fun k e => w.cell? (a.add k) = some (.bool e)) (fun k hk => by
      obtain ⟨h1, h2⟩ := hx k (by omega)
      obtain ⟨v, hv, _⟩ := DataW.trod_bool Try.underlying4 h2
      exact ⟨v, by rw [h1]; simpa using hv⟩)
    have hsp : a.spot = none := by simpa [Addr.add] using World.cell?_spot (he 0 (by omega))
    obtain ⟨b, off, spot⟩ := a
    simp only at hsp
    subst hsp
    exact ⟨e, .inr ⟨b, off, rfl, World.block_lt_of_cell? _ _ (he 0 (by omega)), fun k hk => by have := he k hk; rw [Addr.add_lit] at this; exact this⟩⟩

set_option maxRecDepth 100000 in
theorem lifted_stealOrder (os : Os) (started : os.Started) (H : Type) (enc : TypeId × Value → H) :
    ReturnsInHanded {} Try.checked os 5 .any (Rows.stealOrderSpec.pre6 enc Try.prog Try.f5 Rows.stealOrderRow.domain false) (Rows.stealOrderSpec.post enc Try.prog Try.f5 false true false false) := by
  refine returnsInHanded_of_change (C := Try.checked) ownO started (by kernel_rfl) Try.func5
    (ChangeSpec.witness6 (enc := enc) (C := Try.checked) false ⟨#[], #[.slice none 0 0, .slice none 0 0], []⟩ 8 (by kernel_rfl) (by kernel_rfl) (by kernel_rfl) (by kernel_rfl)) ?_
  intro W base args ds gs before hval0 hW hcnd _
  have hval : ∀ (j : Nat) t v, Try.f5.params[j]? = some t → args[j]? = some v → Value.okWide Try.prog W .any base t v := hval0
  have hW' := hW
  obtain ⟨p, q, hA0, hV, rfl, hfz, hnd⟩ := hW
  have hA : DataW.TrodAll enc Try.prog W 0 (fun _ => true) true Try.f5.params.toList args.toList ds p := hA0
  rw [Try.params5] at hA hval
  obtain ⟨v0, vs0, d0, ds0, p0, q0, hargs, rfl, rfl, h0, r0⟩ := trodAll_cons hA
  obtain ⟨v1, vs1, d1, ds1, p1, q1, rfl, rfl, rfl, h1, r1⟩ := trodAll_cons r0
  obtain ⟨rfl, rfl, rfl⟩ := trodAll_nil r1
  obtain rfl : args = #[v0, v1] := by cases args; simp_all
  obtain ⟨rfl, rfl⟩ := trodVars_none hV
  obtain ⟨a0, len0, cap0, rfl⟩ := okWide_slice Try.underlying32 (hval 0 32 v0 rfl rfl)
  obtain ⟨a1, len1, cap1, rfl⟩ := okWide_slice Try.underlying50 (hval 1 50 v1 rfl rfl)
  have k0 := h0
  have k1 := h1
  have lt0 : ∀ x ∈ p0, x.block < W.heap.size := by obtain ⟨m, hm⟩ := k0; exact DataW.trod_lt m _ _ _ hm
  have lt1 : ∀ x ∈ p1, x.block < W.heap.size := by obtain ⟨m, hm⟩ := k1; exact DataW.trod_lt m _ _ _ hm
  obtain ⟨f0, hf0⟩ := h0
  obtain ⟨f1, hf1⟩ := h1
  obtain ⟨s0, e0, he0⟩ := ints_of_arg hf0
  obtain ⟨s1, e1, he1⟩ := bools_of_arg hf1
  clear hA0 hval0
  refine (order_any a0 len0 cap0 e0 a1 len1 cap1 e1 W s0 he0 s1 he1).mono fun r W' ⟨hr, bel⟩ => ?_
  subst hr
  exact ⟨_, rfl, _, _, _, [], _, [], hW', trodAll_mk1 (shut_bool Try.underlying4 _), (trodAll_cons_mk (Below.trod laidOutO (by kernel_rfl) (of_decide_eq_true (by kernel_rfl)) k0 bel lt0) (trodAll_cons_mk (Below.trod laidOutO (by kernel_rfl) (of_decide_eq_true (by kernel_rfl)) k1 bel lt1) trodAll_mk0)), rfl, bel.frame _, fun h => by cases h⟩

theorem stealOrder_holds : Rows.StealOrderSaid :=
  OpenClaim.holds_of_wide 5 Try.f5 rfl rfl rfl rfl rfl rfl rfl ⟨rfl, rfl, rfl, rfl, rfl⟩ rfl rfl rfl rfl rfl (by kernel_rfl) Try.func5 (by kernel_rfl)
    (of_decide_eq_true (by kernel_rfl)) (by unfold Func.isWrapper; first | (rw [if_pos (by decide +kernel)]; kernel_rfl) | (rw [if_neg (by decide +kernel)]; exact ⟨rfl, rfl⟩))
    (fun os started H enc _ => lifted_stealOrder os started H enc)
#print axioms stealOrder_holds
end Go.Proofs.Ytnjondphbfniaaa
