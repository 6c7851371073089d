/- A table that there isn't has nothing, and takes nothing: TableNobody returns true for every task and every two numbers. No condition. -/
import Derived.Test.YtedhhohnbekelaaR
import Derived.ProofKit
import Derived.OpenShut
import Derived.ChangeOld
import Derived.Below
import Derived.Deep.Slices
import Derived.ChangeSame
namespace Go.Proofs.Ytedhhohnbekelaa
open Go.ChangeShapes Go.WideShapes Go.ChangeAt Go.RowKit Go.Deep

theorem own : ownKnob Try.prog.godebug = none := by kernel_rfl
theorem laidOut : laidOutB Try.prog = true := by kernel_rfl

theorem kind_at {o : Nat} (h : o < 29) : (2 ≤ o ∧ o ≤ 5 ∧ tkKind o = .i32) ∨ (7 ≤ o ∧ o ≤ 22 ∧ tkKind o = .u64) ∨ (o = 0 ∨ o = 1 ∨ o = 6 ∨ 23 ≤ o) ∧ tkKind o = .i64 := by
  unfold tkKind
  by_cases h1 : 2 ≤ o ∧ o ≤ 5
  · exact .inl ⟨h1.1, h1.2, by rw [if_pos h1]⟩
  · by_cases h2 : 7 ≤ o ∧ o ≤ 22
    · exact .inr (.inl ⟨h2.1, h2.2, by rw [if_neg h1, if_pos h2]⟩)
    · exact .inr (.inr ⟨by omega, by rw [if_neg h1, if_neg h2]⟩)

theorem one_at {cs : List Value} {o : Nat} {v : Value} (h : (cs.drop o).take 1 = [v]) : cs[o]? = some v := by
  have : ((cs.drop o).take 1)[0]? = some v := by rw [h]; rfl
  simpa using this

theorem arr_cells {H : Type} {enc : TypeId × Value → H} {w : World} {base : Nat} {spare : Nat → Bool} {held : Bool} {fuel n A e : Nat} {k : IntKind} {l : List Value} {x : DataW H × List MemPlace} (ht : Try.prog.underlying A = some (.array n e)) (he : Try.prog.underlying e = some (.int k)) (ce : Try.prog.cellsOf e = 1)
    (h : DataW.trod enc Try.prog w base spare held fuel A l = some x) : ∀ j, j < n → ∃ v : Int, l[j]? = some (.int k v) := by
  obtain ⟨xs, m, _, _, _, hxl, hf⟩ := DataW.trod_array ht h
  intro j hj
  have h1 := hf j hj
  rw [ce, Nat.mul_one, List.getElem?_eq_getElem (by omega)] at h1
  obtain ⟨q, hq, _⟩ := DataW.trod_int he h1
  exact ⟨q, one_at hq⟩

/-- The cells of a task that came in. -/
theorem tk_of_cells {H : Type} {enc : TypeId × Value → H} {w : World} {base : Nat} {spare : Nat → Bool} {held : Bool} {fuel : Nat} {cs : List Value} {x : DataW H × List MemPlace}
    (h : DataW.trod enc Try.prog w base spare held fuel 30 cs = some x) : ∃ t : Tk, cs = (tkArr t).toList := by
  obtain ⟨xs, n, _, _, hlen, hxl, hf⟩ := DataW.trod_struct Try.underlying30 h
  have hc29 : Try.prog.cellsOf 30 = 29 := by kernel_rfl
  have hl : cs.length = 29 := hlen.trans hc29
  have hx11 : xs.length = 11 := hxl
  have c3 : Try.prog.cellsOf 3 = 1 := by kernel_rfl
  have c25 : Try.prog.cellsOf 25 = 4 := by kernel_rfl
  have c28 : Try.prog.cellsOf 28 = 16 := by kernel_rfl
  have c21 : Try.prog.cellsOf 21 = 1 := by kernel_rfl
  have c26 : Try.prog.cellsOf 26 = 1 := by kernel_rfl
  have i64 : ∀ i o : Nat, i < 11 → DataW.trod enc Try.prog w base spare held n 3 ((cs.drop o).take (Try.prog.cellsOf 3)) = xs[i]? → ∃ v : Int, cs[o]? = some (.int .i64 v) := by
    intro i o hi h1
    rw [c3, List.getElem?_eq_getElem (by omega)] at h1
    obtain ⟨q, hq, _⟩ := DataW.trod_int Try.underlying3 h1
    exact ⟨q, one_at hq⟩
  have hr : ∀ j, j < 4 → ∃ v : Int, cs[2 + j]? = some (.int .i32 v) := by
    have h1 : DataW.trod enc Try.prog w base spare held n 25 ((cs.drop 2).take (Try.prog.cellsOf 25)) = xs[2]? := hf 2 _ rfl
    rw [c25, List.getElem?_eq_getElem (by omega)] at h1
    intro j hj
    obtain ⟨v, hv⟩ := arr_cells Try.underlying25 Try.underlying21 c21 h1 j hj
    exact ⟨v, by simpa [List.getElem?_take, hj] using hv⟩
  have hm : ∀ j, j < 16 → ∃ v : Int, cs[7 + j]? = some (.int .u64 v) := by
    have h1 : DataW.trod enc Try.prog w base spare held n 28 ((cs.drop 7).take (Try.prog.cellsOf 28)) = xs[4]? := hf 4 _ rfl
    rw [c28, List.getElem?_eq_getElem (by omega)] at h1
    intro j hj
    obtain ⟨v, hv⟩ := arr_cells Try.underlying28 Try.underlying26 c26 h1 j hj
    exact ⟨v, by simpa [List.getElem?_take, hj] using hv⟩
  have g0 := i64 0 0 (by omega) (hf 0 _ rfl)
  have g1 := i64 1 1 (by omega) (hf 1 _ rfl)
  have g6 := i64 3 6 (by omega) (hf 3 _ rfl)
  have g23 := i64 5 23 (by omega) (hf 5 _ rfl)
  have g24 := i64 6 24 (by omega) (hf 6 _ rfl)
  have g25 := i64 7 25 (by omega) (hf 7 _ rfl)
  have g26 := i64 8 26 (by omega) (hf 8 _ rfl)
  have g27 := i64 9 27 (by omega) (hf 9 _ rfl)
  have g28 := i64 10 28 (by omega) (hf 10 _ rfl)
  have hcell : ∀ o, o < 29 → ∃ v : Int, cs[o]? = some (.int (tkKind o) v) := by
    intro o ho
    rcases kind_at ho with ⟨a1, a2, e⟩ | ⟨a1, a2, e⟩ | ⟨a1, e⟩
    · rw [e]
      have := hr (o - 2) (by omega)
      rwa [show 2 + (o - 2) = o by omega] at this
    · rw [e]
      have := hm (o - 7) (by omega)
      rwa [show 7 + (o - 7) = o by omega] at this
    · rw [e]
      rcases (show o = 0 ∨ o = 1 ∨ o = 6 ∨ o = 23 ∨ o = 24 ∨ o = 25 ∨ o = 26 ∨ o = 27 ∨ o = 28 by omega) with rfl | rfl | rfl | rfl | rfl | rfl | rfl | rfl | rfl
      all_goals assumption
  obtain ⟨F, hF⟩ : ∃ F : Tk, ∀ o, o < 29 → cs[o]? = some (.int (tkKind o) (F o)) :=
    ⟨fun o => if h : o < 29 then Classical.choose (hcell o h) else 0, fun o ho => by simp only [ho, dite_true]; exact Classical.choose_spec (hcell o ho)⟩
  refine ⟨F, ?_⟩
  apply List.ext_getElem?
  intro o
  by_cases ho : o < 29
  · rw [hF o ho, Array.getElem?_toList, tkArr_at F ho]
  · rw [List.getElem?_eq_none (by omega), List.getElem?_eq_none (by rw [Array.length_toList, tkArr_size]; omega)]

set_option maxRecDepth 100000 in
theorem lifted_tableNobody (os : Os) (started : os.Started) (H : Type) (enc : TypeId × Value → H) :
    ReturnsInHanded {} Try.checked os 5 .any (Rows.tableNobodySpec.pre6 enc Try.prog Try.f5 Rows.tableNobodyRow.domain false) (Rows.tableNobodySpec.post enc Try.prog Try.f5 false true false false) := by
  refine returnsInHanded_of_change (C := Try.checked) own started (by kernel_rfl) Try.func5
    (ChangeSpec.witness6 (enc := enc) (C := Try.checked) false ⟨#[], #[tkV tk0, .int .i64 0, .int .i64 0], []⟩ 8 (by kernel_rfl) (by kernel_rfl) (by kernel_rfl) (by kernel_rfl)) ?_
  intro W base args ds gs before hval0 hW hcnd _
  have hval : ∀ (j : Nat) t v, Try.f5.params[j]? = some t → args[j]? = some v → Value.okWide Try.prog W .any base t v := hval0
  have hW' := hW
  obtain ⟨p, q, hA0, hV, rfl, hfz, hnd⟩ := hW
  have hA : DataW.TrodAll enc Try.prog W 0 (fun _ => true) true Try.f5.params.toList args.toList ds p := hA0
  rw [Try.params5] at hA hval
  obtain ⟨v0, vs0, d0, ds0, p0, q0, hargs, rfl, rfl, h0, r0⟩ := trodAll_cons hA
  obtain ⟨v1, vs1, d1, ds1, p1, q1, rfl, rfl, rfl, h1, r1⟩ := trodAll_cons r0
  obtain ⟨v2, vs2, d2, ds2, p2, q2, rfl, rfl, rfl, h2, r2⟩ := trodAll_cons r1
  obtain ⟨rfl, rfl, rfl⟩ := trodAll_nil r2
  obtain rfl : args = #[v0, v1, v2] := by cases args; simp_all
  obtain ⟨rfl, rfl⟩ := trodVars_none hV
  obtain ⟨a1, rfl, rfl, rfl, w1⟩ := open_int Try.underlying3 (hval 1 3 v1 rfl rfl) h1
  obtain ⟨a2, rfl, rfl, rfl, w2⟩ := open_int Try.underlying3 (hval 2 3 v2 rfl rfl) h2
  obtain ⟨c0, rfl, hsz⟩ := okWide_struct Try.underlying30 (hval 0 30 v0 rfl rfl)
  have k0 := h0
  have lt0 : ∀ x ∈ p0, x.block < W.heap.size := by obtain ⟨m, hm⟩ := k0; exact DataW.trod_lt m _ _ _ hm
  obtain ⟨f0, hf0⟩ := h0
  obtain ⟨t, ht⟩ := tk_of_cells hf0
  obtain rfl : c0 = tkArr t := Array.toList_inj.1 ht
  clear hA0 hval0
  refine (nobody_any t a1 a2 W).mono fun r W' ⟨hr, bel⟩ => ?_
  subst hr
  exact ⟨_, rfl, _, _, _, [], _, [], hW', trodAll_mk1 (shut_bool Try.underlying4 _), (trodAll_cons_mk (Below.trod laidOut (by kernel_rfl) (of_decide_eq_true (by kernel_rfl)) k0 bel lt0) (trodAll_cons_mk (shut_int Try.underlying3 w1) (trodAll_cons_mk (shut_int Try.underlying3 w2) trodAll_mk0))), rfl, bel.frame _, fun h => by cases h⟩

theorem tableNobody_holds : Rows.TableNobodySaid :=
  OpenClaim.holds_of_wide 5 Try.f5 rfl rfl rfl rfl rfl rfl rfl ⟨rfl, rfl, rfl, rfl, rfl⟩ rfl rfl rfl rfl rfl (by kernel_rfl) Try.func5 (by kernel_rfl)
    (of_decide_eq_true (by kernel_rfl)) (by unfold Func.isWrapper; first | (rw [if_pos (by decide +kernel)]; kernel_rfl) | (rw [if_neg (by decide +kernel)]; exact ⟨rfl, rfl⟩))
    (fun os started H enc _ => lifted_tableNobody os started H enc)
#print axioms tableNobody_holds
end Go.Proofs.Ytedhhohnbekelaa
