/- The program's rows and the document's: a row is looked at (the law's row). No condition. -/
import Derived.Test.YtgjgcobkppmafaaL
import Derived.StillTailTactics
import Derived.ControlIn
namespace Go.Proofs.Ytgjgcobkppmafaa
open Go.RowKit Go.Shelf

attribute [local go_sem] Oper.semAt_some

/-- A row; none, if there is none such. -/
def rowOf (M : Nat) (R : Nat → List Nat) (i : Int) : List Nat := if 0 ≤ i ∧ i < M then R i.toNat else []

theorem rowOf_len {w : World} {c bn bl N M : Nat} {vn vl : Value} {R : Nat → List Nat} (h : Has w c bn bl vn vl N M R) (i : Int) : (rowOf M R i).length ≤ 4096 := by
  unfold rowOf
  split
  · have := h.rf.len (i := i.toNat) (by omega)
    have := h.rf.most
    omega
  · simp

theorem first_rowOf (M : Nat) (R : Nat → List Nat) (i : Int) : firstR M R i = hd (rowOf M R i) := by unfold firstR rowOf; split <;> rfl
theorem len_rowOf (M : Nat) (R : Nat → List Nat) (i : Int) : (if 0 ≤ i ∧ i < M then ((R i.toNat).length : Int) else 0) = (rowOf M R i).length := by unfold rowOf; split <;> rfl

theorem next_rowOf {w : World} {c bn bl N M : Nat} {vn vl : Value} {R : Nat → List Nat} (h : Has w c bn bl vn vl N M R) (i : Int) {k x : Nat} (hx : (rowOf M R i).drop k = x :: (rowOf M R i).drop (k + 1)) :
    Calls Try.prog 19 #[.pointer (some ⟨c, 0, none⟩), .int .i64 x] w fun r w' => r = .returned (tld (hd ((rowOf M R i).drop (k + 1)))) ∧ w = w' := by
  have h1 := h.next x
  obtain ⟨f1, f2, f3, f4⟩ := h.facts
  have e : behindR N M R x = hd ((rowOf M R i).drop (k + 1)) := by
    have hiM : 0 ≤ i ∧ i < M := by
      refine Classical.byContradiction fun hn => ?_
      unfold rowOf at hx
      rw [if_neg hn] at hx
      simp at hx
    obtain ⟨i, rfl⟩ := Int.eq_ofNat_of_zero_le hiM.1
    have er : rowOf M R i = R i := by unfold rowOf; rw [if_pos hiM, Int.toNat_natCast]
    rw [er] at hx ⊢
    replace hiM : i < M := by omega
    have hnd := f1 i hiM
    have hsp : R i = (R i).take k ++ x :: (R i).drop (k + 1) := by rw [← hx, List.take_append_drop]
    have hxi : x ∈ R i := by rw [hsp]; simp
    have hxt : x ∉ (R i).take k := by
      intro hm
      rw [hsp] at hnd
      exact (List.nodup_append.1 hnd).2.2 x hm x (by simp) rfl
    unfold behindR
    have hin := f4 i x hiM hxi
    have hxN := f2 i hiM x hxi
    rw [Int.toNat_natCast, hin, if_pos ⟨by omega, by omega, by omega⟩, Int.toNat_natCast]
    conv => lhs; rw [hsp]
    rw [drop_mid hxt]
    rfl
  rw [e] at h1
  exact h1

set_option maxRecDepth 100000 in
set_option maxHeartbeats 4000000 in
theorem each_rowz (n Bc Bi c bn bl N M n0 : Nat) (i : Int) (vn vl : Value) (R : Nat → List Nat) (w : World) (hn : 1 ≤ n) (hBc : Bc < w.heap.size) (hBi : Bi < w.heap.size) (hn0 : n0 ≤ w.heap.size)
    (hc : w.cell? ⟨Bc, 0, none⟩ = some (.pointer (some ⟨c, 0, none⟩))) (hi : w.cell? ⟨Bi, 0, none⟩ = some (.int .i64 i)) (h : Has w c bn bl vn vl N M R) :
    SeqStopsK Fence.wide n Try.prog 22 #[.pointer (some ⟨Bc, 0, none⟩), .pointer (some ⟨Bi, 0, none⟩)] (fun x : Nat => #[Value.int .i64 x]) (KN n0) (fun ys => ys = rowOf M R i) (fun pre => ∃ t, rowOf M R i = pre ++ t) (rowOf M R i).length w := by
  intro l J Jx W hW hJ _ hY h0
  have hc' := (hW.cell (p := ⟨Bc, 0, none⟩) hBc).trans hc
  have hi' := (hW.cell (p := ⟨Bi, 0, none⟩) hBi).trans hi
  have hH := h.below hW
  obtain ⟨f1, f2, f3, f4⟩ := h.facts
  have hlen : (rowOf M R i).length ≤ 4096 := rowOf_len h i
  have HF := Lib.hid (hH.first i)
  have ef : firstR M R i = hd (rowOf M R i) := by unfold firstR rowOf; split <;> rfl
  rw [ef] at HF
  have HN := Lib.hid (fun (k x : Nat) (hx : (rowOf M R i).drop k = x :: (rowOf M R i).drop (k + 1)) (w' : World) (hb : Below W.heap.size W w') => next_rowOf (hH.below hb) i hx)
  have HJ := Lib.hid (fun wr (hb : Below W.heap.size W wr) => hJ [] W wr none h0 ⟨hb.os, hb.tape, hb.output, hb.size, fun k hk _ => hb.block k hk⟩ (fun r e => by cases e))
  have HY := Lib.hid hY
  have hnW : n0 ≤ W.heap.size := Nat.le_trans hn0 hW.size
  have hBcW : Bc < W.heap.size := by have := hW.size; omega
  clear hJ hY h0 hW hc hi hH h f1 f2 f3 f4 ef hBc hBi hn0
  generalize rowOf M R i = L at *
  obtain ⟨i3, hi3, hz3, hs3, hb3⟩ := info_parts Try.info3q
  refine callsIn_of_wp Try.func22 rfl trivial ?_ rfl
  simp only [Try.ntmps22, List.size_toArray, List.length_cons, List.length_nil, Nat.reduceAdd, Nat.reduceSub, Array.replicate_succ, Array.replicate_zero, List.push_toArray, List.append_toArray, List.nil_append, List.cons_append]
  gi_wp2_with fail
  refine ⟨trivial, ?_⟩
  refine (callsIn_wide.2 HF.out).mono ?_
  rintro r w' ⟨rfl, rfl⟩
  unfold tld
  gi_wp2_with fail
  gi_loopw [4, 5, 6] (fun a b c wr => ∃ k : Nat, k ≤ L.length ∧ wr.ownsRow W.heap.size 3 1 a k (ints (L.take k)) ∧ b = .int .i64 (max (hd (L.drop k)) 0) ∧ c = .bool (hd (L.drop k) != -1) ∧ Below W.heap.size W wr) (fun a _ _ _ => L.length - lenV a)
  case atStart => exact ⟨0, Nat.zero_le _, World.ownsRow_nil _ _ _ _, rfl, rfl, Below.refl _ _⟩
  case round =>
    rename_i u4 u5 u6
    obtain ⟨k, hk, hown, rfl, rfl, hB⟩ := hrel
    have hcw := (hB.cell (p := ⟨Bc, 0, none⟩) hBcW).trans hc'
    have hs := hB.size
    by_cases hlt : k < L.length
    · obtain ⟨x, hx⟩ : ∃ x, L.drop k = x :: L.drop (k + 1) := ⟨L[k], List.drop_eq_getElem_cons hlt⟩
      have ht := take_next hx
      have e1 : max (hd (L.drop k)) 0 = x := by rw [hx]; simp only [hd]; omega
      have e2 : (hd (L.drop k) != -1) = true := by rw [hx]; simp only [hd]; simp
      have HX := Lib.hid hx
      have HT := Lib.hid ht
      rw [e1, e2]
      clear hx ht e1 e2
      gi_wp2_with (gi_at_builtin; refine wpListIn_append_own _ rfl _ _ 61 rfl W.heap.size 3 i3 (.int .i64 0) 1 8 Try.underlying61 hi3 hz3 hs3 hb3 rfl (by decide) _ _ _ rfl (hown.alloc _) ⟨wr.heap.size, 0, none⟩ 1 1 [.int .i64 x] rfl rfl (cells_new _ _ _) (by simp [Value.oneCell']) (by simp only [maxLen]; omega) (by omega) (by simp; omega) ?_; intro v' w1 hown' hgrow _; have hB1 : Below W.heap.size W w1 := (hB.alloc hs _).grown hgrow (by simp; omega) (fun j hj => (hown.lt j hj).1); have hcw1 := (hB1.cell (p := ⟨Bc, 0, none⟩) hBcW).trans hc')
      refine ⟨trivial, ?_⟩
      refine (callsIn_wide.2 (HN.out k x HX.out _ hB1)).mono ?_
      rintro r w' ⟨rfl, rfl⟩
      unfold tld
      gi_wp2_with fail
      exact ⟨⟨k + 1, by omega, by rw [HT.out, ints_append]; exact hown', rfl, rfl, hB1⟩, by rw [lenV_own hown', lenV_own hown]; omega⟩
    · obtain rfl : k = L.length := by omega
      have e2 : (hd (L.drop L.length) != -1) = false := by rw [List.drop_length]; rfl
      have e1 : max (hd (L.drop L.length)) 0 = 0 := by rw [List.drop_length]; rfl
      rw [e1, e2]
      rw [List.take_length] at hown
      obtain ⟨a, cap, rfl, hz⟩ := own_form hown
      have HJ0 := Lib.hid (HJ.out wr hB)
      have HO := Lib.hid hown
      have HZ := Lib.hid hz
      clear hown hz hB hs hcw e2 e1
      gi_wp2_with fail
      gi_loopw [28] (fun i2 wx => ∃ j : Nat, j ≤ L.length ∧ i2 = .int .i64 j ∧ J (L.take j) wx ∧ wx.ownsRow W.heap.size 3 1 (.slice a L.length cap) L.length (ints L)) (fun i2 _ => L.length - (intOf i2).toNat)
      case atStart => exact ⟨0, Nat.zero_le _, rfl, by rw [List.take_zero]; exact HJ0.out, HO.out⟩
      case round =>
        obtain ⟨j, hj, rfl, hJj, how⟩ := hrel
        by_cases hltj : j < L.length
        · obtain ⟨x, hx⟩ : ∃ x, L.drop j = x :: L.drop (j + 1) := ⟨L[j], List.drop_eq_getElem_cons hltj⟩
          have hLj : (ints L)[j]? = some (.int .i64 x) := by
            have : L[j]? = some x := by
              have := congrArg (fun l => l[0]?) hx
              simpa using this
            unfold ints
            rw [List.getElem?_map, this]
            rfl
          obtain ⟨a', cap', e, hz⟩ := own_form how
          simp only [Value.slice.injEq] at e
          obtain ⟨rfl, -, rfl⟩ := e
          rcases hz with h0 | ⟨g, rfl, hcells⟩
          · omega
          have hcell := hcells j _ hLj
          have HX := Lib.hid hx
          have HOW := Lib.hid how
          obtain ⟨fn, tmps, assign, body, hy, hR⟩ := HY.out (L.take j) x _ hJj (by rw [List.length_take]; omega)
          clear hx how hcells hLj HZ HO
          gi_wp2
          refine hR.mono ?_
          rintro r W3 (⟨rfl, hJ3, hk3⟩ | ⟨rfl, hx3⟩)
          · gi_wp2
            go_roundw
            case rel => exact ⟨j + 1, by omega, by go_num, by rw [take_next HX.out]; exact hJ3, hk3.own hnW HOW.out⟩
            case measure => simp [intOf]; omega
          · gi_wp2
            refine bodyPost_ret (results_none rfl _ _ _) rfl ?_
            exact ⟨⟨_, rfl⟩, .inr ⟨_, ⟨L.drop (j + 1), by rw [← take_next HX.out, List.take_append_drop]⟩, hx3⟩⟩
        · obtain rfl : j = L.length := by omega
          rw [List.take_length] at hJj
          have HJJ := Lib.hid hJj
          clear hJj how
          gi_wp2
          go_end0
          exact ⟨⟨_, rfl⟩, .inl ⟨_, rfl, HJJ.out⟩⟩

/-- What stands while a row is looked at: the box of the list, the result's cell, the counter's. -/
structure RowI (w W : World) (B : Nat) (v : Value) (k : Nat) : Prop where
  c0 : Blk W B 61 1 (fun _ => v)
  c1 : Blk W (B + 1) 4 1 (fun _ => .bool false)
  c4 : Blk W (B + 4) 3 1 (fun _ => .int .i64 k)
  below : Below w.heap.size w W
  low : w.heap.size = B ∧ B + 5 ≤ W.heap.size

theorem RowI.grown {w W W' : World} {B k : Nat} {v : Value} (h : RowI w W B v k) {row : Option Nat} (hg : W.grownBy W' row) (hr : ∀ r, row = some r → B + 5 ≤ r) : RowI w W' B v k := by
  have hl := h.low
  have hf : ∀ j, j < B + 5 → W'.heap[j]? = W.heap[j]? := fun j hj => hg.block j (by omega) (fun e => by have := hr j e.symm; omega)
  exact ⟨h.c0.of_heap (hf _ (by omega)), h.c1.of_heap (hf _ (by omega)), h.c4.of_heap (hf _ (by omega)), h.below.trans ⟨hg.os, hg.tape, hg.output, hg.size, fun j hj => hf j (by omega)⟩, hl.1, by have := hg.size; omega⟩

theorem RowI.step {w W : World} {B k : Nat} {v : Value} (h : RowI w W B v k) : RowI w (W.setCell ⟨B + 4, 0, none⟩ (.int .i64 ((k : Int) + 1))) B v (k + 1) := by
  have hl := h.low
  refine ⟨h.c0.other (by omega) _ _, h.c1.other (by omega) _ _, ((h.c4.set 0 _).congr fun o ho => ?_), h.below.setCell (p := ⟨B + 4, 0, none⟩) (by simp only []; omega) _, hl.1, by simpa using hl.2⟩
  obtain rfl : o = 0 := by omega
  rw [upd_same]
  exact congrArg (Value.int .i64) (by omega)

theorem KN.setCell {n0 : Nat} {W : World} {p : Addr} (hp : p.block < n0) (v : Value) : KN n0 W (W.setCell p v) :=
  ⟨by simp, fun k o hk ho _ => (Below.heap_setCell _ _ _ _ (by omega)).trans ho⟩

theorem one_blk {w : World} {v : Value} {t : TypeId} : Blk (w.alloc (.cells #[v] t)) w.heap.size t 1 (fun _ => v) :=
  (Blk.new w #[v] t).congr fun o ho => by
    obtain rfl : o = 0 := by simpa using ho
    rfl

set_option maxRecDepth 100000 in
set_option maxHeartbeats 4000000 in
theorem row_in {w : World} {c bn bl N M : Nat} {vn vl : Value} {R : Nat → List Nat} (h : Has w c bn bl vn vl N M R) (i : Int) (A0 : Option Addr) (cap0 : Nat) (hs : Src w (.slice A0 (rowOf M R i).length cap0) (rowOf M R i).length (ints (rowOf M R i))) :
    CallsIn Fence.wide 5 Try.prog 23 #[.pointer (some ⟨c, 0, none⟩), .int .i64 i, .slice A0 (rowOf M R i).length cap0] w fun r w' => r = .returned (.bool true) ∧ Below w.heap.size w w' := by
  have hlen := rowOf_len h i
  have HFi := Lib.hid (fun (w' : World) (hb : Below w.heap.size w w') => by have := (h.below hb).first i; rw [first_rowOf] at this; exact this)
  have HLe := Lib.hid (fun (w' : World) (hb : Below w.heap.size w w') => by have := (h.below hb).len i; rw [len_rowOf] at this; exact this)
  have HH := Lib.hid (fun (w' : World) (hb : Below w.heap.size w w') => h.below hb)
  obtain ⟨L, hL⟩ : ∃ L, rowOf M R i = L := ⟨_, rfl⟩
  rw [hL] at hs HFi HLe hlen ⊢
  have HL := Lib.hid hL
  have HSr := Lib.hid (fun (k : Nat) (x : Nat) (hx : L[k]? = some x) => show ∃ g o, A0 = some ⟨g, o, none⟩ ∧ g < w.heap.size ∧ ∀ w', Below w.heap.size w w' → w'.cell? ⟨g, o + k, none⟩ = some (.int .i64 x) from by
    obtain ⟨A, cc, e, -, h3⟩ := hs
    simp only [Value.slice.injEq] at e
    obtain ⟨rfl, -, rfl⟩ := e
    rcases h3 with ⟨-, h3⟩ | ⟨⟨g, o, sp⟩, rfl, h4⟩
    · have := (List.getElem?_eq_some_iff.1 hx).1; omega
    · have h5 := h4 k _ (show (ints L)[k]? = some (.int .i64 x) by unfold ints; rw [List.getElem?_map, hx]; rfl)
      have hsp : sp = none := by
        have hL0 : 0 < L.length := by have := (List.getElem?_eq_some_iff.1 hx).1; omega
        have h6 := h4 0 _ (show (ints L)[0]? = some (.int .i64 L[0]) by unfold ints; rw [List.getElem?_map, List.getElem?_eq_getElem hL0]; rfl)
        simpa [Addr.add] using World.cell?_spot h6
      subst hsp
      have e : (⟨g, o, none⟩ : Addr).add k = ⟨g, o + k, none⟩ := by unfold Addr.add; split <;> simp_all
      rw [e] at h5
      have hg := World.block_lt_of_cell? _ _ h5
      exact ⟨g, o, rfl, hg, fun w' hb => (hb.cell (p := ⟨g, o + k, none⟩) hg).trans h5⟩)
  have hcl := h.ltz.1
  clear h hs hL
  refine callsIn_of_wp_marks Try.func23 rfl trivial ?_ rfl
  simp only [Try.ntmps23, List.size_toArray, List.length_cons, List.length_nil, Nat.reduceAdd, Nat.reduceSub, Array.replicate_succ, Array.replicate_zero, List.push_toArray, List.append_toArray, List.nil_append, List.cons_append]
  gi_wp2_with fail
  refine ⟨trivial, ?_⟩
  refine (callsIn_wide.2 (Each_ptr ⟨c, 0, none⟩ i _)).mono ?_
  rintro r w3 ⟨rfl, hw3⟩
  obtain ⟨B, hB⟩ : ∃ B, w.heap.size = B := ⟨_, rfl⟩
  obtain ⟨W0, hW0⟩ : ∃ W0, (((w.alloc (.cells #[.slice A0 L.length cap0] 61)).alloc (.cells #[.bool false] 4)).alloc (.cells #[.pointer (some ⟨c, 0, none⟩)] 22)).alloc (.cells #[.int .i64 i] 3) = W0 := ⟨_, rfl⟩
  have HB0 := Lib.hid (show Below w.heap.size w W0 by rw [← hW0]; exact ((((Below.refl _ _).alloc (Nat.le_refl _) _).alloc (by simp) _).alloc (by simp; omega) _).alloc (by simp; omega) _)
  have hsz0 : W0.heap.size = B + 4 := by rw [← hW0, ← hB]; simp
  have HC0 := Lib.hid (show W0.cell? ⟨B, 0, none⟩ = some (.slice A0 L.length cap0) ∧ W0.cell? ⟨B + 1, 0, none⟩ = some (.bool false) ∧ W0.cell? ⟨B + 2, 0, none⟩ = some (.pointer (some ⟨c, 0, none⟩)) ∧ W0.cell? ⟨B + 3, 0, none⟩ = some (.int .i64 i) ∧ W0.frozen? ⟨B + 1, 0, none⟩ = false by
    rw [← hW0, ← hB]; simp [go_sem])
  have HK0 := Lib.hid (show Blk W0 B 61 1 (fun _ => .slice A0 L.length cap0) ∧ Blk W0 (B + 1) 4 1 (fun _ => .bool false) by
    rw [← hW0, ← hB]
    exact ⟨((one_blk.alloc _).alloc _).alloc _, by
      have := (one_blk (w := w.alloc (.cells #[.slice A0 L.length cap0] 61)) (v := .bool false) (t := 4))
      rw [World.size_alloc] at this
      exact (this.alloc _).alloc _⟩)
  subst hw3
  gi_wp2_with fail
  refine ⟨trivial, ?_⟩
  refine (callsIn_wide.2 (HFi.out _ HB0.out)).mono ?_
  rintro r w' ⟨rfl, rfl⟩
  obtain ⟨c5, c6, c7, c8, f6⟩ := HC0.out
  have hl1 := hlen
  cases L with
  | nil =>
    rw [show tld (hd []) = .tuple #[.int .i64 0, .bool false] from rfl]
    gi_wp2_with fail
    refine wpIn_wide.2 ?_
    refine wp_region_still_tail 34 (by kernel_rfl) (by kernel_rfl) ?_
    simp only [List.take_succ_cons, List.take_zero, List.drop_succ_cons, List.drop_zero]
    still_step
    refine wpStill_step (fun K hK => ?_)
    go_simp
    refine And.intro rfl (hK _ ?_)
    clear hK K
    repeat still_step
    still_call ((HLe.out _ ((HB0.out).drew)).mono (fun r w' h => ⟨h.1, h.2.symm⟩))
    repeat still_step
    refine wpStill_nil ?_
    change wpList _ _ _ _ _ W0.drew
    go_wp2_with fail
    gi_wp2_with fail
    obtain ⟨W1, hW1⟩ : ∃ W1, (W0.alloc (.cells #[.int .i64 0] 3)).drew = W1 := ⟨_, rfl⟩
    have hRI : RowI w W1 B (.slice A0 0 cap0) 0 := by
      rw [← hW1]
      exact ⟨((HK0.out.1.alloc _).drew), ((HK0.out.2.alloc _).drew), by rw [← hsz0]; exact (one_blk (w := W0)).drew, (HB0.out.alloc HB0.out.size _).drew, hB, by simp; omega⟩
    have hsz1 : W1.heap.size = B + 5 := by rw [← hW1]; simp [hsz0]
    have c7' : W1.cell? ⟨B + 1 + 1, 0, none⟩ = some (.pointer (some ⟨c, 0, none⟩)) := by rw [← hW1]; exact (World.cell?_alloc_lt _ _ _ (by simp only []; omega)).trans c7
    have c8' : W1.cell? ⟨B + 1 + 1 + 1, 0, none⟩ = some (.int .i64 i) := by rw [← hW1]; exact (World.cell?_alloc_lt _ _ _ (by simp only []; omega)).trans c8
    have hseq := each_rowz 4 (B + 1 + 1) (B + 1 + 1 + 1) c bn bl N M (B + 5) i vn vl R W1 (by omega) (by omega) (by omega) (by omega) c7' c8' (HH.out _ hRI.below)
    rw [HL.out] at hseq
    try rw [hW1]
    clear hW1 c5 c6 c7 c8 f6 c7' c8' HC0 HFi HLe
    refine wpIn_rangeFunc_ownF rfl (by omega) (gf := 22) (lb := #[.pointer (some ⟨B + 1 + 1, 0, none⟩), .pointer (some ⟨B + 1 + 1 + 1, 0, none⟩)]) rfl trivial (enters_of Try.func22 (by kernel_rfl) rfl)
      hseq
      (fun h k => h.trans k) (fun W l o o' hl ho h1 h2 => ⟨by simp, fun k o2 hk ho2 hc => ?o1n⟩) (Below.refl _ _) (fun _ => rfl)
      (fun pre W => RowI w W B (.slice A0 0 cap0) pre.length)
      (fun cd xs _ => ¬ ∃ t, ([] : List Nat) = xs ++ t)
      (fun s W1 W2' row hs hg hr => ?o2n)
      (fun _ _ _ _ _ hs _ _ => hs)
      hRI
      ?a1n ?assignn ?bodyn ?donen ?stopn
    case assignn =>
      intro l x W K hK
      gi_wp2
      exact hK
    case bodyn =>
      intro l pre y W _ hl
      exact absurd hl (Nat.not_lt_zero _)
    case donen =>
      clear hseq hRI
      rintro D ys W hD rfl hI hK
      have b0 := hI.c0.cell (o := 0) (by omega)
      have b1 := hI.c1.cell (o := 0) (by omega)
      have b4 := hI.c4.cell (o := 0) (by omega)
      have f1 := hI.c1.frozen 0
      have HI := Lib.hid hI
      have hDl : D < W.heap.size := (Array.getElem?_eq_some_iff.1 hK).1
      have hlow := hI.low
      have HW := Lib.hid hlow.1
      have hK' : (W.setCell ⟨B + 1, 0, none⟩ (.bool true)).heap[D]? = some (.deferred (some [])) := (KeepsOthers.setCell _ _ _).same D _ hK rfl
      have HK := Lib.hid hK'
      try simp only [List.length_cons, List.length_nil] at b4
      clear hI hK hK' hlow
      gi_wp2
      have hc' : (W.setCell ⟨B + 1, 0, none⟩ (.bool true)).cell? ⟨B + 1, 0, none⟩ = some (.bool true) := World.cell?_setCell_same _ _ _ b1
      have hB' := HI.out.below.setCell (p := ⟨B + 1, 0, none⟩) (by simp only []; have := HW.out; omega) (.bool true)
      refine ⟨by simp, .inl ⟨_, _, rfl, run_takeDeferred HK.out, ?_⟩⟩
      have hc5 := cell_kept hc' (grownBy_putObj' _ D (.deferred none)) (fun r e => by cases e; exact ⟨_, HK.out, rfl⟩)
      exact ⟨_, by simp [results, Try.results23, go_sem, hc5], rfl, hB'.trans (belowK_b (w := w) (Nat.le_refl _) _ D _ _ (by have := HW.out; omega) HK.out rfl rfl)⟩
    case stopn =>
      rintro D cd pre W _ hp h _
      exact absurd hp h
    case o1n =>
      rw [World.putObj_heap_other (by rintro rfl; rw [ho] at ho2; cases ho2; rw [h1] at hc; cases hc)]
      exact ho2
    case o2n =>
      exact hs.grown hg (fun r e => by have := (hr r e).1; omega)
  | cons x r =>
    have et : tld (hd (x :: r)) = .tuple #[.int .i64 x, .bool true] := by
      unfold tld
      have a1 : max (hd (x :: r)) 0 = x := by simp only [hd]; omega
      have a2 : (hd (x :: r) != -1) = true := by simp only [hd]; simp
      rw [a1, a2]
    rw [et]
    have hz : ((r.length + 1 : Nat) : Int) > 0 := by omega
    obtain ⟨g0, o0, hA0, hg0, hcc⟩ := HSr.out 0 x rfl
    have cc0 := hcc _ HB0.out
    rw [Nat.add_zero] at cc0
    have HCC := Lib.hid hcc
    subst hA0
    rw [List.length_cons] at c5 hl1
    clear hcc et
    gi_wp2_with fail
    refine wpIn_wide.2 ?_
    refine wp_region_still_tail 34 (by kernel_rfl) (by kernel_rfl) ?_
    simp only [List.take_succ_cons, List.take_zero, List.drop_succ_cons, List.drop_zero]
    still_step
    refine wpStill_step (fun K hK => ?_)
    go_simp
    refine And.intro rfl (hK _ ?_)
    clear hK K
    repeat still_step
    still_call ((HLe.out _ ((HB0.out).drew)).mono (fun r w' h => ⟨h.1, h.2.symm⟩))
    repeat still_step
    refine wpStill_nil ?_
    change wpList _ _ _ _ _ W0.drew
    go_wp2_with fail
    gi_wp2_with fail
    obtain ⟨W1, hW1⟩ : ∃ W1, (W0.alloc (.cells #[.int .i64 0] 3)).drew = W1 := ⟨_, rfl⟩
    have hRI : RowI w W1 B (.slice (some ⟨g0, o0, none⟩) (r.length + 1) cap0) 0 := by
      rw [← hW1]
      exact ⟨((HK0.out.1.alloc _).drew), ((HK0.out.2.alloc _).drew), by rw [← hsz0]; exact (one_blk (w := W0)).drew, (HB0.out.alloc HB0.out.size _).drew, hB, by simp; omega⟩
    have hsz1 : W1.heap.size = B + 5 := by rw [← hW1]; simp [hsz0]
    have c7' : W1.cell? ⟨B + 1 + 1, 0, none⟩ = some (.pointer (some ⟨c, 0, none⟩)) := by rw [← hW1]; exact (World.cell?_alloc_lt _ _ _ (by simp only []; omega)).trans c7
    have c8' : W1.cell? ⟨B + 1 + 1 + 1, 0, none⟩ = some (.int .i64 i) := by rw [← hW1]; exact (World.cell?_alloc_lt _ _ _ (by simp only []; omega)).trans c8
    have hseq := each_rowz 4 (B + 1 + 1) (B + 1 + 1 + 1) c bn bl N M (B + 5) i vn vl R W1 (by omega) (by omega) (by omega) (by omega) c7' c8' (HH.out _ hRI.below)
    rw [HL.out] at hseq
    try rw [hW1]
    clear hW1 c5 c6 c7 c8 f6 c7' c8' HC0 HFi HLe
    refine wpIn_rangeFunc_ownF rfl (by omega) (gf := 22) (lb := #[.pointer (some ⟨B + 1 + 1, 0, none⟩), .pointer (some ⟨B + 1 + 1 + 1, 0, none⟩)]) rfl trivial (enters_of Try.func22 (by kernel_rfl) rfl)
      hseq
      (fun h k => h.trans k) (fun W l o o' hl ho h1 h2 => ⟨by simp, fun k o2 hk ho2 hc => ?o1c⟩) (Below.refl _ _) (fun _ => rfl)
      (fun pre W => RowI w W B (.slice (some ⟨g0, o0, none⟩) (r.length + 1) cap0) pre.length)
      (fun cd xs _ => ¬ ∃ t, (x :: r) = xs ++ t)
      (fun s W1 W2' row hs hg hr => ?o2c)
      (fun _ _ _ _ _ hs _ _ => hs)
      hRI
      ?a1c ?assignc ?bodyc ?donec ?stopc
    case assignc =>
      intro l x W K hK
      gi_wp2
      exact hK
    case bodyc =>
      clear hseq hRI
      rintro l pre y W hI hl
      obtain ⟨z, hz⟩ : ∃ z, ((x :: r))[pre.length]? = some z := ⟨_, List.getElem?_eq_getElem hl⟩
      obtain ⟨g, o, hA, hg, hcl⟩ := HSr.out pre.length z hz
      simp only [Option.some.injEq, Addr.mk.injEq, and_true] at hA
      obtain ⟨rfl, rfl⟩ := hA
      have cz := hcl _ hI.below
      have hl0 : (0 : Int) ≤ (pre.length : Int) := by omega
      have hl2 : (pre.length : Int) < ((r.length + 1 : Nat) : Int) := by simp only [List.length_cons, List.length_nil] at hl; omega
      have hl3 : (pre.length : Int) + 1 ≤ 10000 := by simp only [List.length_cons, List.length_nil] at hl; omega
      have b0 := hI.c0.cell (o := 0) (by omega)
      have b1 := hI.c1.cell (o := 0) (by omega)
      have b4 := hI.c4.cell (o := 0) (by omega)
      have f1 := hI.c1.frozen 0
      have f4 := hI.c4.frozen 0
      have HI := Lib.hid hI
      have HZ := Lib.hid hz
      clear hI hz hcl
      generalize hkl : pre.length = k at *
      have HKL := Lib.hid hkl
      clear hkl
      by_cases hyz : (y : Int) = z
      · have e1 : ((y : Int) != z) = false := by simp [hyz]
        have HYZ := Lib.hid hyz
        clear hyz
        gi_wp2_with fail
        refine ⟨KeepsOthers.setCell _ _ _, KN.setCell (by simp only []; omega) _, ?_⟩
        show RowI _ _ _ _ (pre ++ [y]).length
        rw [List.length_append, List.length_singleton, HKL.out]
        exact HI.out.step
      · have e1 : ((y : Int) != z) = true := by simpa using hyz
        have HYZ := Lib.hid hyz
        clear hyz
        gi_wp2_with fail
        refine ⟨KeepsOthers.setCell _ _ _, ?_⟩
        rintro ⟨t, ht⟩
        have h1 : ((x :: r))[k]? = some y := by
          rw [ht, List.append_assoc, List.getElem?_append_right (by rw [HKL.out]; exact Nat.le_refl _), HKL.out, Nat.sub_self]
          rfl
        have h2 := HZ.out.symm.trans h1
        simp only [Option.some.injEq] at h2
        exact HYZ.out (by rw [h2])
    case donec =>
      clear hseq hRI
      rintro D ys W hD rfl hI hK
      have b0 := hI.c0.cell (o := 0) (by omega)
      have b1 := hI.c1.cell (o := 0) (by omega)
      have b4 := hI.c4.cell (o := 0) (by omega)
      have f1 := hI.c1.frozen 0
      have HI := Lib.hid hI
      have hDl : D < W.heap.size := (Array.getElem?_eq_some_iff.1 hK).1
      have hlow := hI.low
      have HW := Lib.hid hlow.1
      have hK' : (W.setCell ⟨B + 1, 0, none⟩ (.bool true)).heap[D]? = some (.deferred (some [])) := (KeepsOthers.setCell _ _ _).same D _ hK rfl
      have HK := Lib.hid hK'
      try simp only [List.length_cons, List.length_nil] at b4
      clear hI hK hK' hlow
      gi_wp2
      have hc' : (W.setCell ⟨B + 1, 0, none⟩ (.bool true)).cell? ⟨B + 1, 0, none⟩ = some (.bool true) := World.cell?_setCell_same _ _ _ b1
      have hB' := HI.out.below.setCell (p := ⟨B + 1, 0, none⟩) (by simp only []; have := HW.out; omega) (.bool true)
      refine ⟨by simp, .inl ⟨_, _, rfl, run_takeDeferred HK.out, ?_⟩⟩
      have hc5 := cell_kept hc' (grownBy_putObj' _ D (.deferred none)) (fun r e => by cases e; exact ⟨_, HK.out, rfl⟩)
      exact ⟨_, by simp [results, Try.results23, go_sem, hc5], rfl, hB'.trans (belowK_b (w := w) (Nat.le_refl _) _ D _ _ (by have := HW.out; omega) HK.out rfl rfl)⟩
    case stopc =>
      rintro D cd pre W _ hp h _
      exact absurd hp h
    case o1c =>
      rw [World.putObj_heap_other (by rintro rfl; rw [ho] at ho2; cases ho2; rw [h1] at hc; cases hc)]
      exact ho2
    case o2c =>
      exact hs.grown hg (fun r e => by have := (hr r e).1; omega)
end Go.Proofs.Ytgjgcobkppmafaa
