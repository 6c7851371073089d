/- A task that has exited stays as it is, whatever is done; numbers are given one behind the other: TableStays returns true for every list of operations and every code. No condition. -/
import Derived.Test.YtedhhohnbekelaaSb
import Derived.Test.YtedhhohnbekelaaS
namespace Go.Proofs.Ytedhhohnbekelaa
open Go.ChangeShapes Go.WideShapes Go.ChangeAt Go.RowKit Go.Deep

theorem pick {α : Type} [Inhabited α] {len : Nat} {R : Nat → α → Prop} (h : ∀ k, k < len → ∃ x, R k x) : ∃ f : Nat → α, ∀ k, k < len → R k (f k) :=
  ⟨fun k => if hk : k < len then Classical.choose (h k hk) else default, fun k hk => by simp only [hk, dite_true]; exact Classical.choose_spec (h k hk)⟩

instance : Inhabited Opn := ⟨op0⟩

/-- The cells of an operation that came in. -/
theorem op_of_cells {H : Type} {enc : TypeId × Value → H} {w : World} {base : Nat} {spare : Nat → Bool} {held : Bool} {fuel : Nat} {cs : List Value} {x : DataW H × List MemPlace}
    (h : DataW.trod enc Try.prog w base spare held fuel 37 cs = some x) : ∃ o : Opn, cs = opL o ∧ 0 ≤ o.kind := by
  obtain ⟨xs, n, _, _, hlen, hxl, hf⟩ := DataW.trod_struct Try.underlying37 h
  have hc32 : Try.prog.cellsOf 37 = 32 := by kernel_rfl
  have hl : cs.length = 32 := hlen.trans hc32
  have hx4 : xs.length = 4 := hxl
  have c3 : Try.prog.cellsOf 3 = 1 := by kernel_rfl
  have c35 : Try.prog.cellsOf 35 = 1 := by kernel_rfl
  have c30 : Try.prog.cellsOf 30 = 29 := by kernel_rfl
  have g0 : DataW.trod enc Try.prog w base spare held n 35 ((cs.drop 0).take (Try.prog.cellsOf 35)) = xs[0]? := hf 0 _ rfl
  have g1 : DataW.trod enc Try.prog w base spare held n 30 ((cs.drop 1).take (Try.prog.cellsOf 30)) = xs[1]? := hf 1 _ rfl
  have g2 : DataW.trod enc Try.prog w base spare held n 3 ((cs.drop 30).take (Try.prog.cellsOf 3)) = xs[2]? := hf 2 _ rfl
  have g3 : DataW.trod enc Try.prog w base spare held n 3 ((cs.drop 31).take (Try.prog.cellsOf 3)) = xs[3]? := hf 3 _ rfl
  rw [c35, List.getElem?_eq_getElem (by omega)] at g0
  rw [c30, List.getElem?_eq_getElem (by omega)] at g1
  rw [c3, List.getElem?_eq_getElem (by omega)] at g2 g3
  obtain ⟨q0, h0, _, hw⟩ := DataW.trod_int Try.underlying35 g0
  obtain ⟨t, h1⟩ := tk_of_cells g1
  obtain ⟨q2, h2, _⟩ := DataW.trod_int Try.underlying3 g2
  obtain ⟨q3, h3, _⟩ := DataW.trod_int Try.underlying3 g3
  refine ⟨⟨q0, t, q2, q3⟩, ?_, (bounds_u64 hw).1⟩
  have e0 := one_at h0
  have e2 := one_at h2
  have e3 := one_at h3
  apply List.ext_getElem?
  intro j
  have hA : (opL ⟨q0, t, q2, q3⟩)[j]? = (opArr ⟨q0, t, q2, q3⟩)[j]? := by unfold opArr; rw [List.getElem?_toArray]
  rw [hA]
  by_cases hj : j < 32
  · by_cases j0 : j = 0
    · subst j0
      rw [opArr_k]
      exact e0
    · by_cases j1 : j < 30
      · have := opArr_t ⟨q0, t, q2, q3⟩ (j := j - 1) (by omega)
        rw [show 1 + (j - 1) = j by omega] at this
        rw [this, ← Array.getElem?_toList]
        simp only
        rw [← h1, List.getElem?_take, if_pos (by omega), List.getElem?_drop, show 1 + (j - 1) = j by omega]
      · rcases (show j = 30 ∨ j = 31 by omega) with rfl | rfl
        · rw [opArr_i]; exact e2
        · rw [opArr_o]; exact e3
  · rw [List.getElem?_eq_none (by omega), Array.getElem?_eq_none (by rw [opArr_size]; omega)]

theorem ops_of_arg {H : Type} {enc : TypeId × Value → H} {w : World} {base : Nat} {held : Bool} {fuel : Nat} {a0 : Option Addr} {len0 cap0 : Nat} {x : DataW H × List MemPlace}
    (h : DataW.trod enc Try.prog w base (fun _ => true) held fuel 22 [.slice a0 len0 cap0] = some x) : SlOk a0 len0 cap0 ∧ ∃ e, RawO w a0 len0 e := by
  rcases open_slice Try.underlying22 h with ⟨hcs, _⟩ | ⟨a, len, cap, m, n, D, Pl, hcs, _, hl, hm, hmm, _, hi⟩
  · simp at hcs
    obtain ⟨rfl, rfl, rfl⟩ := hcs
    exact ⟨.inl ⟨rfl, rfl, rfl⟩, fun _ => default, .inl rfl⟩
  · simp at hcs
    obtain ⟨rfl, rfl, rfl⟩ := hcs
    unfold maxLen at hm
    simp at hmm
    refine ⟨.inr ⟨a, rfl, hl, hm⟩, ?_⟩
    by_cases h0 : len0 = 0
    · exact ⟨fun _ => default, .inl h0⟩
    have hC : Try.prog.cellsOf 37 = 32 := by kernel_rfl
    have hall : ∀ i, i < len0 → ∃ o : Opn, (∀ j v, (opL o)[j]? = some v → w.cell? (a.add (i * 32 + j)) = some v) ∧ 0 ≤ o.kind := by
      intro i hil
      obtain ⟨cs', hc, ht'⟩ := hi i (by omega)
      rw [hC] at hc
      obtain ⟨o, rfl, hk⟩ := op_of_cells ht'
      obtain ⟨_, _, hat⟩ := World.cells?_some hc
      refine ⟨o, fun j v hv => ?_, hk⟩
      have hj : j < 32 := by
        have := (List.getElem?_eq_some_iff.1 hv).1
        rwa [opL_len] at this
      have := hat j hj
      rw [Go.Deep.add_add] at this
      rw [this, hv]
    obtain ⟨o0, ho0, _⟩ := hall 0 (by omega)
    have hn0 := ho0 0 _ (by rfl)
    have hsp : a.spot = none := by simpa [Addr.add] using World.cell?_spot hn0
    obtain ⟨b, off, spot⟩ := a
    simp only at hsp
    subst hsp
    obtain ⟨e, he⟩ := pick hall
    refine ⟨e, .inr ⟨b, off, rfl, World.block_lt_of_cell? _ _ hn0, fun k hk j v hv => ?_, fun k hk => (he k hk).2⟩⟩
    have := (he k hk).1 j v hv
    rw [Addr.add_lit, ← Nat.add_assoc] at this
    exact this

set_option maxRecDepth 100000 in
theorem lifted_tableStays (os : Os) (started : os.Started) (H : Type) (enc : TypeId × Value → H) :
    ReturnsInHanded {} Try.checked os 3 .any (Rows.tableStaysSpec.pre6 enc Try.prog Try.f3 Rows.tableStaysRow.domain false) (Rows.tableStaysSpec.post enc Try.prog Try.f3 false true false false) := by
  refine returnsInHanded_of_change (C := Try.checked) own started (by kernel_rfl) Try.func3
    (ChangeSpec.witness6 (enc := enc) (C := Try.checked) false ⟨#[], #[.slice none 0 0, .int .i64 0], []⟩ 8 (by kernel_rfl) (by kernel_rfl) (by kernel_rfl) (by kernel_rfl)) ?_
  intro W base args ds gs before hval0 hW hcnd _
  have hval : ∀ (j : Nat) t v, Try.f3.params[j]? = some t → args[j]? = some v → Value.okWide Try.prog W .any base t v := hval0
  have hW' := hW
  obtain ⟨p, q, hA0, hV, rfl, hfz, hnd⟩ := hW
  have hA : DataW.TrodAll enc Try.prog W 0 (fun _ => true) true Try.f3.params.toList args.toList ds p := hA0
  rw [Try.params3] at hA hval
  obtain ⟨v0, vs0, d0, ds0, p0, q0, hargs, rfl, rfl, h0, r0⟩ := trodAll_cons hA
  obtain ⟨v1, vs1, d1, ds1, p1, q1, rfl, rfl, rfl, h1, r1⟩ := trodAll_cons r0
  obtain ⟨rfl, rfl, rfl⟩ := trodAll_nil r1
  obtain rfl : args = #[v0, v1] := by cases args; simp_all
  obtain ⟨rfl, rfl⟩ := trodVars_none hV
  obtain ⟨a1, rfl, rfl, rfl, w1⟩ := open_int Try.underlying3 (hval 1 3 v1 rfl rfl) h1
  obtain ⟨a0, len0, cap0, rfl⟩ := okWide_slice Try.underlying22 (hval 0 22 v0 rfl rfl)
  have k0 := h0
  have lt0 : ∀ x ∈ p0, x.block < W.heap.size := by obtain ⟨m, hm⟩ := k0; exact DataW.trod_lt m _ _ _ hm
  obtain ⟨f0, hf0⟩ := h0
  obtain ⟨s0, e0, he0⟩ := ops_of_arg hf0
  clear hA0 hval0
  refine (stays_any a0 len0 cap0 a1 e0 W s0 he0).mono fun r W' ⟨hr, bel⟩ => ?_
  subst hr
  exact ⟨_, rfl, _, _, _, [], _, [], hW', trodAll_mk1 (shut_bool Try.underlying4 _), (trodAll_cons_mk (Below.trod laidOut (by kernel_rfl) (of_decide_eq_true (by kernel_rfl)) k0 bel lt0) (trodAll_cons_mk (shut_int Try.underlying3 w1) trodAll_mk0)), rfl, bel.frame _, fun h => by cases h⟩

theorem tableStays_holds : Rows.TableStaysSaid :=
  OpenClaim.holds_of_wide 3 Try.f3 rfl rfl rfl rfl rfl rfl rfl ⟨rfl, rfl, rfl, rfl, rfl⟩ rfl rfl rfl rfl rfl (by kernel_rfl) Try.func3 (by kernel_rfl)
    (of_decide_eq_true (by kernel_rfl)) (by unfold Func.isWrapper; first | (rw [if_pos (by decide +kernel)]; kernel_rfl) | (rw [if_neg (by decide +kernel)]; exact ⟨rfl, rfl⟩))
    (fun os started H enc _ => lifted_tableStays os started H enc)
#print axioms tableStays_holds
end Go.Proofs.Ytedhhohnbekelaa
