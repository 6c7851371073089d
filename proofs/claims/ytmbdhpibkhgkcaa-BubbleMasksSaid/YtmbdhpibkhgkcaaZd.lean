/- Any bubbles made, sealed, placed, burst and regenerated: what each call answers, and what there is behind it: BubblePlays returns true for every list of operations. No condition. -/
import Derived.Test.YtmbdhpibkhgkcaaZc
import Derived.Test.YtmbdhpibkhgkcaaS
namespace Go.Proofs.Ytmbdhpibkhgkcaa
open Go.ChangeShapes Go.WideShapes Go.ChangeAt Go.RowKit Go.Deep

theorem one_at {cs : List Value} {o : Nat} {v : Value} (h : (cs.drop o).take 1 = [v]) : cs[o]? = some v := by
  have : ((cs.drop o).take 1)[0]? = some v := by rw [h]; rfl
  simpa using this

theorem pick {α : Type} [Inhabited α] {len : Nat} {R : Nat → α → Prop} (h : ∀ k, k < len → ∃ x, R k x) : ∃ f : Nat → α, ∀ k, k < len → R k (f k) :=
  ⟨fun k => if hk : k < len then Classical.choose (h k hk) else default, fun k hk => by simp only [hk, dite_true]; exact Classical.choose_spec (h k hk)⟩

instance : Inhabited Opn := ⟨op0⟩

/-- The cells of a set that came in. -/
theorem ws_of_cells {H : Type} {enc : TypeId × Value → H} {w : World} {base : Nat} {spare : Nat → Bool} {held : Bool} {fuel : Nat} {cs : List Value} {x : DataW H × List MemPlace}
    (h : DataW.trod enc Try.prog w base spare held fuel 29 cs = some x) (hl : cs.length = 16) : ∃ s : Ws, cs = (wsArr s).toList := by
  obtain ⟨xs, m, _, _, _, hxl, hf⟩ := DataW.trod_array Try.underlying29 h
  have hc : ∀ j, j < 16 → ∃ v : Int, cs[j]? = some (.int .u64 v) := by
    intro j hj
    have h1 := hf j hj
    rw [show Try.prog.cellsOf 27 = 1 by kernel_rfl, Nat.mul_one, List.getElem?_eq_getElem (by omega)] at h1
    obtain ⟨q, hq, _⟩ := DataW.trod_int Try.underlying27 h1
    exact ⟨q, one_at hq⟩
  obtain ⟨F, hF⟩ : ∃ F : Ws, ∀ o, o < 16 → cs[o]? = some (.int .u64 (F o)) :=
    ⟨fun o => if h : o < 16 then Classical.choose (hc o h) else 0, fun o ho => by simp only [ho, dite_true]; exact Classical.choose_spec (hc o ho)⟩
  refine ⟨F, ?_⟩
  apply List.ext_getElem?
  intro o
  by_cases ho : o < 16
  · rw [hF o ho, Array.getElem?_toList, wsArr_at F ho]
  · rw [List.getElem?_eq_none (by omega), List.getElem?_eq_none (by rw [Array.length_toList, wsArr_size]; omega)]

/-- The cells of an operation that came in. -/
theorem op_of_cells {H : Type} {enc : TypeId × Value → H} {w : World} {base : Nat} {spare : Nat → Bool} {held : Bool} {fuel : Nat} {cs : List Value} {x : DataW H × List MemPlace}
    (h : DataW.trod enc Try.prog w base spare held fuel 46 cs = some x) : ∃ o : Opn, cs = opL o ∧ 0 ≤ o.kind := by
  obtain ⟨xs, n, _, _, hlen, hxl, hf⟩ := DataW.trod_struct Try.underlying46 h
  have hl : cs.length = 19 := hlen.trans (by kernel_rfl)
  have hx4 : xs.length = 4 := hxl
  have c3 : Try.prog.cellsOf 3 = 1 := by kernel_rfl
  have c44 : Try.prog.cellsOf 44 = 1 := by kernel_rfl
  have c29 : Try.prog.cellsOf 29 = 16 := by kernel_rfl
  have g0 : DataW.trod enc Try.prog w base spare held n 44 ((cs.drop 0).take (Try.prog.cellsOf 44)) = xs[0]? := hf 0 _ rfl
  have g1 : DataW.trod enc Try.prog w base spare held n 3 ((cs.drop 1).take (Try.prog.cellsOf 3)) = xs[1]? := hf 1 _ rfl
  have g2 : DataW.trod enc Try.prog w base spare held n 3 ((cs.drop 2).take (Try.prog.cellsOf 3)) = xs[2]? := hf 2 _ rfl
  have g3 : DataW.trod enc Try.prog w base spare held n 29 ((cs.drop 3).take (Try.prog.cellsOf 29)) = xs[3]? := hf 3 _ rfl
  rw [c44, List.getElem?_eq_getElem (by omega)] at g0
  rw [c3, List.getElem?_eq_getElem (by omega)] at g1 g2
  rw [c29, List.getElem?_eq_getElem (by omega)] at g3
  obtain ⟨q0, h0, _, hw⟩ := DataW.trod_int Try.underlying44 g0
  obtain ⟨q1, h1, _⟩ := DataW.trod_int Try.underlying3 g1
  obtain ⟨q2, h2, _⟩ := DataW.trod_int Try.underlying3 g2
  obtain ⟨s, hs⟩ := ws_of_cells g3 (by rw [List.length_take, List.length_drop]; omega)
  have e0 := one_at h0
  have e1 := one_at h1
  have e2 := one_at h2
  have hd : cs.drop 3 = (wsArr s).toList := by rw [← hs, List.take_of_length_le (by rw [List.length_drop]; omega)]
  refine ⟨⟨q0, q1, q2, s⟩, ?_, (bounds_u64 hw).1⟩
  match cs, hl, e0, e1, e2, hd with
  | a :: b :: c :: rest, _, e0, e1, e2, hd =>
    simp at e0 e1 e2 hd
    subst e0 e1 e2
    unfold opL
    rw [hd]

theorem ops_of_arg {H : Type} {enc : TypeId × Value → H} {w : World} {base : Nat} {held : Bool} {fuel : Nat} {a0 : Option Addr} {len0 cap0 : Nat} {x : DataW H × List MemPlace}
    (h : DataW.trod enc Try.prog w base (fun _ => true) held fuel 42 [.slice a0 len0 cap0] = some x) : SlOk a0 len0 cap0 ∧ ∃ e, RawO w a0 len0 e := by
  rcases open_slice Try.underlying42 h with ⟨hcs, _⟩ | ⟨a, len, cap, m, n, D, Pl, hcs, _, hl, hm, hmm, _, hi⟩
  · simp at hcs
    obtain ⟨rfl, rfl, rfl⟩ := hcs
    exact ⟨.inl ⟨rfl, rfl, rfl⟩, fun _ => default, .inl rfl⟩
  · simp at hcs
    obtain ⟨rfl, rfl, rfl⟩ := hcs
    unfold maxLen at hm
    simp at hmm
    refine ⟨.inr ⟨a, rfl, hl, hm⟩, ?_⟩
    by_cases h0 : len0 = 0
    · exact ⟨fun _ => default, .inl h0⟩
    have hC : Try.prog.cellsOf 46 = 19 := by kernel_rfl
    have hall : ∀ i, i < len0 → ∃ o : Opn, (∀ j v, (opL o)[j]? = some v → w.cell? (a.add (i * 19 + j)) = some v) ∧ 0 ≤ o.kind := by
      intro i hil
      obtain ⟨cs', hc, ht'⟩ := hi i (by omega)
      rw [hC] at hc
      obtain ⟨o, rfl, hk⟩ := op_of_cells ht'
      obtain ⟨_, _, hat⟩ := World.cells?_some hc
      refine ⟨o, fun j v hv => ?_, hk⟩
      have hj : j < 19 := by
        have := (List.getElem?_eq_some_iff.1 hv).1
        rwa [opL_len] at this
      have := hat j hj
      rw [Go.Deep.add_add] at this
      rw [this, hv]
    obtain ⟨o0, ho0, _⟩ := hall 0 (by omega)
    have hn0 := ho0 0 _ (by rfl)
    have hsp : a.spot = none := by simpa [Addr.add] using World.cell?_spot hn0
    obtain ⟨b, off, spot⟩ := a
    simp only at hsp
    subst hsp
    obtain ⟨e, he⟩ := pick hall
    refine ⟨e, .inr ⟨b, off, rfl, World.block_lt_of_cell? _ _ hn0, fun k hk j v hv => ?_, fun k hk => (he k hk).2⟩⟩
    have := (he k hk).1 j v hv
    rw [Addr.add_lit, ← Nat.add_assoc] at this
    exact this

set_option maxRecDepth 100000 in
theorem lifted_bubblePlays (os : Os) (started : os.Started) (H : Type) (enc : TypeId × Value → H) :
    ReturnsInHanded {} Try.checked os 4 .any (Rows.bubblePlaysSpec.pre6 enc Try.prog Try.f4 Rows.bubblePlaysRow.domain false) (Rows.bubblePlaysSpec.post enc Try.prog Try.f4 false true false false) := by
  refine returnsInHanded_of_change (C := Try.checked) own started (by kernel_rfl) Try.func4
    (ChangeSpec.witness6 (enc := enc) (C := Try.checked) false ⟨#[], #[.slice none 0 0], []⟩ 8 (by kernel_rfl) (by kernel_rfl) (by kernel_rfl) (by kernel_rfl)) ?_
  intro W base args ds gs before hval0 hW hcnd _
  have hval : ∀ (j : Nat) t v, Try.f4.params[j]? = some t → args[j]? = some v → Value.okWide Try.prog W .any base t v := hval0
  have hW' := hW
  obtain ⟨p, q, hA0, hV, rfl, hfz, hnd⟩ := hW
  have hA : DataW.TrodAll enc Try.prog W 0 (fun _ => true) true Try.f4.params.toList args.toList ds p := hA0
  rw [Try.params4] at hA hval
  obtain ⟨v0, vs0, d0, ds0, p0, q0, hargs, rfl, rfl, h0, r0⟩ := trodAll_cons hA
  obtain ⟨rfl, rfl, rfl⟩ := trodAll_nil r0
  obtain rfl : args = #[v0] := by cases args; simp_all
  obtain ⟨rfl, rfl⟩ := trodVars_none hV
  obtain ⟨a0, len0, cap0, rfl⟩ := okWide_slice Try.underlying42 (hval 0 42 v0 rfl rfl)
  have k0 := h0
  have lt0 : ∀ x ∈ p0, x.block < W.heap.size := by obtain ⟨m, hm⟩ := k0; exact DataW.trod_lt m _ _ _ hm
  obtain ⟨f0, hf0⟩ := h0
  obtain ⟨s0, e0, he0⟩ := ops_of_arg hf0
  clear hA0 hval0
  refine (plays_any a0 len0 cap0 e0 W s0 he0).mono fun r W' ⟨hr, bel⟩ => ?_
  subst hr
  exact ⟨_, rfl, _, _, _, [], _, [], hW', trodAll_mk1 (shut_bool Try.underlying4 _), (trodAll_cons_mk (Below.trod laidOut (by kernel_rfl) (of_decide_eq_true (by kernel_rfl)) k0 bel lt0) trodAll_mk0), rfl, bel.frame _, fun h => by cases h⟩

theorem bubblePlays_holds : Rows.BubblePlaysSaid :=
  OpenClaim.holds_of_wide 4 Try.f4 rfl rfl rfl rfl rfl rfl rfl ⟨rfl, rfl, rfl, rfl, rfl⟩ rfl rfl rfl rfl rfl (by kernel_rfl) Try.func4 (by kernel_rfl)
    (of_decide_eq_true (by kernel_rfl)) (by unfold Func.isWrapper; first | (rw [if_pos (by decide +kernel)]; kernel_rfl) | (rw [if_neg (by decide +kernel)]; exact ⟨rfl, rfl⟩))
    (fun os started H enc _ => lifted_bubblePlays os started H enc)
#print axioms bubblePlays_holds
end Go.Proofs.Ytmbdhpibkhgkcaa
