/- A table that there isn't has nothing, and takes nothing: the walk of TableNobody. No condition. -/
import Derived.Test.YtedhhohnbekelaaQ
namespace Go.Proofs.Ytedhhohnbekelaa
open Go.RowKit Go.Deep

/-- A row read whole, where its guard lets it. -/
theorem wpList_load_want {P : Program} {ops : Array Oper} {rest : List Oper} {o : Oper} {a : Act} {w : World} {Q : Exit → Act → World → Prop} (ty : TypeId) (x : Operand) (ho : o.op = .load ty x)
    (g : Nat) (hx : a.eval x = .pointer (some ⟨g, 0, none⟩)) (t : TypeId) (cs : Array Value) (fr : Nat × Nat) (d : TypeDesc) (hg : w.heap[g]? = some (.cells cs t fr))
    (hu : P.underlying ty = some d) (hd : (match d with | .struct _ | .array _ _ => true | _ => false) = true) (hi : (P.info? ty).map (·.size) = some cs.size)
    (hw : Region.wanted o (yielded ops a.tmps) = true) (h : wpList P ops Q rest (a.put o.dst (.agg cs)) w) : wpList P ops Q (o :: rest) a w := by
  unfold wpList
  rw [if_pos hw]
  exact .inl (wp_load_row ty x ho g hx t cs fr d hg hu hd hi h)

set_option maxRecDepth 100000 in
set_option maxHeartbeats 2000000 in
theorem nobody_any (t : Tk) (id on : Int) (w : World) : Calls Try.prog 5 #[tkV t, .int .i64 id, .int .i64 on] w fun r w' => r = .returned (.bool true) ∧ Below w.heap.size w w' := by
  have HA := Lib.hid (fun w => TAdd_nil t w)
  have HM := Lib.hid (fun w => refMay_any t w)
  have HS := Lib.hid (fun w => TSet_nil id t w)
  have HG := Lib.hid (fun w => TGet_nil id w)
  have h1 := size30 t
  have hz := zero30
  have z1 := size30 tk0
  have z2 := one30 tk0
  unfold tkV at HA HM HS HG ⊢
  obtain ⟨V, hV⟩ : ∃ V, tkArr t = V := ⟨_, rfl⟩
  obtain ⟨Z, hZ⟩ : ∃ Z, tkArr tk0 = Z := ⟨_, rfl⟩
  rw [hV] at h1
  simp only [hV] at HA HM HS
  simp only [hZ] at hz HG
  rw [hZ] at z1 z2
  rw [hV]
  clear hV hZ
  obtain ⟨m, hm⟩ : ∃ m, may t = m := ⟨_, rfl⟩
  simp only [hm] at HA HM
  clear hm
  cases m
  all_goals
    simp only [Bool.false_eq_true, if_false, if_true, ite_true, ite_false] at HA
    have HB := Lib.hid ((Below.refl w.heap.size w).alloc (Nat.le_refl _) (.cells V 30))
    have HN := Lib.hid (heap_alloc_new w (.cells V 30))
    go_enter Try.func5, Try.ntmps5
    go_upto_region 1 with fail
    obtain ⟨A, hA⟩ : ∃ A, w.heap.size = A := ⟨_, rfl⟩
    obtain ⟨w1, hw1⟩ : ∃ w1, w.alloc (.cells V 30) = w1 := ⟨_, rfl⟩
    rw [hA, hw1] at HN
    rw [hw1] at HB
    rw [hA, hw1]
    clear hA hw1
    go_wp2_with fail
    refine (HG.out _).mono ?_
    rintro r w2 ⟨rfl, hb⟩
    have HN2 := Lib.hid ((hb.block A (Array.getElem?_eq_some_iff.1 HN.out).1).trans HN.out)
    have HB2 := Lib.hid (HB.out.trans (hb.mono HB.out.size))
    clear hb HN HB HG
    go_upto_region 3 with (refine wpList_store_row rfl 30 _ _ rfl w2.heap.size Z rfl rfl 30 Z (heap_alloc_new _ _) z1 rfl z2 ?_; rw [setRow_new])
    obtain ⟨w3, hw3⟩ : ∃ w3, w2.alloc (.cells Z 30) = w3 := ⟨_, rfl⟩
    have HN3 := Lib.hid (show w3.heap[A]? = some (.cells V 30 (0, 0)) by rw [← hw3, heap_alloc_old _ _ (Array.getElem?_eq_some_iff.1 HN2.out).1]; exact HN2.out)
    have HB3 := Lib.hid (show Below w.heap.size w w3 by rw [← hw3]; exact HB2.out.alloc HB2.out.size _)
    rw [hw3]
    clear hw3 HN2 HB2 z1 z2 hz
    go_wp2_with (refine wpList_load_row rfl 30 _ rfl A rfl 30 V (0, 0) _ HN3.out Try.underlying30 rfl h1 ?_)
    refine (HA.out _).mono ?_
    rintro r w4 ⟨rfl, hb⟩
    have HN4 := Lib.hid ((hb.block A (Array.getElem?_eq_some_iff.1 HN3.out).1).trans HN3.out)
    have HB4 := Lib.hid (HB3.out.trans (hb.mono HB3.out.size))
    clear hb HN3 HB3 HA
    go_wp2_with (refine wpList_load_row rfl 30 _ rfl A rfl 30 V (0, 0) _ HN4.out Try.underlying30 rfl h1 ?_)
    refine (HM.out _).mono ?_
    rintro r w5 ⟨rfl, hb⟩
    have HN5 := Lib.hid ((hb.block A (Array.getElem?_eq_some_iff.1 HN4.out).1).trans HN4.out)
    have HB5 := Lib.hid (HB4.out.trans (hb.mono HB4.out.size))
    clear hb HN4 HB4 HM
    go_wp2_with (refine wpList_load_want 30 (.tmp 3) rfl A rfl 30 V (0, 0) _ HN5.out Try.underlying30 rfl h1 (by first | rfl | simp [Region.wanted, yielded]) ?_)
    refine (HS.out _).mono ?_
    rintro r w6 ⟨rfl, hb⟩
    have HB6 := Lib.hid (HB5.out.trans (hb.mono HB5.out.size))
    clear hb
    go_wp2_with fail
    refine (TJoin_nil _ _ _).mono ?_
    rintro r w' ⟨rfl, rfl⟩
    go_wp2_with fail
    refine (TJoined_nil _ _).mono ?_
    rintro r w' ⟨rfl, rfl⟩
    go_wp2_with fail
    refine (TIn_nil _ _ _).mono ?_
    rintro r w' ⟨rfl, rfl⟩
    go_wp2_with fail
    refine (TLen_nil _).mono ?_
    rintro r w' ⟨rfl, rfl⟩
    go_wp2_with fail
    refine (TRoom_nil _).mono ?_
    rintro r w' ⟨rfl, rfl⟩
    go_wp2_with fail
    refine (TCount_nil _ _).mono ?_
    rintro r w' ⟨rfl, rfl⟩
    go_wp2_with fail
    refine (lives_any _).mono ?_
    rintro r w7 ⟨rfl, hb⟩
    have HB7 := Lib.hid (HB6.out.trans (hb.mono HB6.out.size))
    clear hb
    go_wp2_with fail
    go_ret
    exact ⟨rfl, HB7.out⟩
end Go.Proofs.Ytedhhohnbekelaa
