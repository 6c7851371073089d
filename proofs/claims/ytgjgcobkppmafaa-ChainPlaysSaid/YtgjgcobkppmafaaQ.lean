/- A part of the proof of ChainEach: a loop over a row, and the walk of the law. No condition. -/
import Derived.Test.YtgjgcobkppmafaaP
import Derived.Maps.OwnIn
namespace Go.Proofs.Ytgjgcobkppmafaa
open Go.RowKit Go.Shelf

attribute [local go_sem] Oper.semAt_some

/-- What a round of a loop over a row keeps: the cells that lie from n0 on. -/
def KN (n0 : Nat) (W W' : World) : Prop := W.heap.size ≤ W'.heap.size ∧ ∀ k o, n0 ≤ k → W.heap[k]? = some o → o.isCells = true → W'.heap[k]? = some o

theorem KN.trans {n0 : Nat} {A B C : World} (h : KN n0 A B) (k : KN n0 B C) : KN n0 A C := ⟨Nat.le_trans h.1 k.1, fun i o hi ho hc => k.2 i o hi (h.2 i o hi ho hc) hc⟩

theorem KN.own {n0 base t n : Nat} {A B : World} {v : Value} {xs : List Value} (h : KN n0 A B) (hb : n0 ≤ base) (ho : A.ownsRow base t 1 v n xs) : B.ownsRow base t 1 v n xs := by
  refine ⟨ho.1, ?_⟩
  rcases ho.2 with hn | ⟨g, cap, cur, rfl, hbg, hg, rest⟩
  · exact .inl hn
  · exact .inr ⟨g, cap, cur, rfl, hbg, h.2 g _ (Nat.le_trans hb hbg) hg rfl, rest⟩

theorem Has.below {w w' : World} {c bn bl N M : Nat} {vn vl : Value} {R : Nat → List Nat} (h : Has w c bn bl vn vl N M R) (hB : Below w.heap.size w w') : Has w' c bn bl vn vl N M R := by
  obtain ⟨s, a, b⟩ := h
  exact ⟨s, ⟨a.top.of_heap (hB.block _ a.top.lt), a.sn, a.sl, fun hN => (a.nodes hN).of_heap (hB.block _ (a.nodes hN).lt), fun hM => (a.rows hM).of_heap (hB.block _ (a.rows hM).lt), a.apart, a.most⟩, b⟩

def ints (l : List Nat) : List Value := l.map fun (i : Nat) => Value.int .i64 i
theorem ints_append (l : List Nat) (i : Nat) : ints (l ++ [i]) = ints l ++ [.int .i64 i] := by simp [ints]

def lenV : Value → Nat
  | .slice _ n _ => n
  | _ => 0

theorem lenV_own {w : World} {base t n : Nat} {v : Value} {xs : List Value} (h : w.ownsRow base t 1 v n xs) : lenV v = n := by
  rcases h.2 with ⟨rfl, rfl⟩ | ⟨g, cap, cur, rfl, _⟩ <;> rfl

theorem own_form {w : World} {base t n : Nat} {v : Value} {xs : List Value} (h : w.ownsRow base t 1 v n xs) : ∃ a cap, v = .slice a n cap ∧ (n = 0 ∨ ∃ g, a = some ⟨g, 0, none⟩ ∧ ∀ j u, xs[j]? = some u → w.cell? ⟨g, j, none⟩ = some u) := by
  rcases h.2 with ⟨rfl, rfl⟩ | ⟨g, cap, cur, rfl, hb, hg, h1, h2, h3, h4⟩
  · exact ⟨none, 0, rfl, .inl rfl⟩
  · refine ⟨_, cap, rfl, .inr ⟨g, rfl, fun j u hu => ?_⟩⟩
    have := h.cells (g := g) rfl j u hu
    have e : (⟨g, 0, none⟩ : Addr).add j = ⟨g, j, none⟩ := by unfold Addr.add; split <;> simp_all
    rwa [e] at this

theorem take_next {L : List Nat} {k x : Nat} (hx : L.drop k = x :: L.drop (k + 1)) : L.take (k + 1) = L.take k ++ [x] := by
  rw [List.take_add_one]
  have h3 : L[k]? = some x := by
    have := congrArg (fun l => l[0]?) hx
    simpa using this
  rw [h3]
  rfl

theorem Try.info3q : (Try.prog.info? 3).map (fun i => (i.zero, i.size, i.bytes)) = some (some (.int .i64 0), 1, 8) := by kernel_rfl

set_option maxRecDepth 100000 in
set_option maxHeartbeats 4000000 in
theorem each_row (n Bc Bi c bn bl N M i n0 : Nat) (vn vl : Value) (R : Nat → List Nat) (w : World) (hn : 1 ≤ n) (hBc : Bc < w.heap.size) (hBi : Bi < w.heap.size) (hn0 : n0 ≤ w.heap.size)
    (hc : w.cell? ⟨Bc, 0, none⟩ = some (.pointer (some ⟨c, 0, none⟩))) (hi : w.cell? ⟨Bi, 0, none⟩ = some (.int .i64 i)) (h : Has w c bn bl vn vl N M R) (hiM : i < M) :
    SeqStopsK Fence.wide n Try.prog 22 #[.pointer (some ⟨Bc, 0, none⟩), .pointer (some ⟨Bi, 0, none⟩)] (fun x : Nat => #[Value.int .i64 x]) (KN n0) (fun ys => ys = R i) (fun pre => ∃ t, R i = pre ++ t) (R i).length w := by
  intro l J Jx W hW hJ _ hY h0
  have hc' := (hW.cell (p := ⟨Bc, 0, none⟩) hBc).trans hc
  have hi' := (hW.cell (p := ⟨Bi, 0, none⟩) hBi).trans hi
  have hH := h.below hW
  obtain ⟨f1, f2, f3, f4⟩ := h.facts
  have hnd := f1 i hiM
  have hlen : (R i).length ≤ 4096 := by
    obtain ⟨s, hs, hr, rfl, rfl⟩ := h
    have := len_le s.N (R i) (hr.nodup i hiM) (hr.lt i hiM)
    have := hs.most
    omega
  have HF := Lib.hid (hH.first i)
  have ef : firstR M R i = hd (R i) := by unfold firstR; rw [if_pos (by omega), Int.toNat_natCast]
  rw [ef] at HF
  -- the one behind the k-th
  have HN := Lib.hid (fun (k x : Nat) (hx : (R i).drop k = x :: (R i).drop (k + 1)) (w' : World) (hb : Below W.heap.size W w') => by
    have h1 := (hH.below hb).next x
    have hsp : R i = (R i).take k ++ x :: (R i).drop (k + 1) := by rw [← hx, List.take_append_drop]
    have hxi : x ∈ R i := by rw [hsp]; simp
    have hxt : x ∉ (R i).take k := by
      intro hm
      rw [hsp] at hnd
      exact (List.nodup_append.1 hnd).2.2 x hm x (by simp) rfl
    have e : behindR N M R x = hd ((R i).drop (k + 1)) := by
      unfold behindR
      have hin := f4 i x hiM hxi
      have hxN := f2 i hiM x hxi
      rw [Int.toNat_natCast, hin, if_pos ⟨by omega, by omega, by omega⟩, Int.toNat_natCast]
      conv => lhs; rw [hsp]
      rw [drop_mid hxt]
      rfl
    rw [e] at h1
    exact h1)
  have HJ := Lib.hid (fun wr (hb : Below W.heap.size W wr) => hJ [] W wr none h0 ⟨hb.os, hb.tape, hb.output, hb.size, fun k hk _ => hb.block k hk⟩ (fun r e => by cases e))
  have HY := Lib.hid hY
  have hnW : n0 ≤ W.heap.size := Nat.le_trans hn0 hW.size
  have hBcW : Bc < W.heap.size := by have := hW.size; omega
  clear hJ hY h0 hW hc hi hH h f1 f2 f3 f4 hnd ef hBc hBi hn0
  generalize R i = L at *
  obtain ⟨i3, hi3, hz3, hs3, hb3⟩ := info_parts Try.info3q
  refine callsIn_of_wp Try.func22 rfl trivial ?_ rfl
  simp only [Try.ntmps22, List.size_toArray, List.length_cons, List.length_nil, Nat.reduceAdd, Nat.reduceSub, Array.replicate_succ, Array.replicate_zero, List.push_toArray, List.append_toArray, List.nil_append, List.cons_append]
  gi_wp2_with fail
  refine ⟨trivial, ?_⟩
  refine (callsIn_wide.2 HF.out).mono ?_
  rintro r w' ⟨rfl, rfl⟩
  unfold tld
  gi_wp2_with fail
  gi_loopw [4, 5, 6] (fun a b c wr => ∃ k : Nat, k ≤ L.length ∧ wr.ownsRow W.heap.size 3 1 a k (ints (L.take k)) ∧ b = .int .i64 (max (hd (L.drop k)) 0) ∧ c = .bool (hd (L.drop k) != -1) ∧ Below W.heap.size W wr) (fun a _ _ _ => L.length - lenV a)
  case atStart => exact ⟨0, Nat.zero_le _, World.ownsRow_nil _ _ _ _, rfl, rfl, Below.refl _ _⟩
  case round =>
    rename_i u4 u5 u6
    obtain ⟨k, hk, hown, rfl, rfl, hB⟩ := hrel
    have hcw := (hB.cell (p := ⟨Bc, 0, none⟩) hBcW).trans hc'
    have hs := hB.size
    by_cases hlt : k < L.length
    · obtain ⟨x, hx⟩ : ∃ x, L.drop k = x :: L.drop (k + 1) := ⟨L[k], List.drop_eq_getElem_cons hlt⟩
      have ht := take_next hx
      have e1 : max (hd (L.drop k)) 0 = x := by rw [hx]; simp only [hd]; omega
      have e2 : (hd (L.drop k) != -1) = true := by rw [hx]; simp only [hd]; simp
      have HX := Lib.hid hx
      have HT := Lib.hid ht
      rw [e1, e2]
      clear hx ht e1 e2
      gi_wp2_with (gi_at_builtin; refine wpListIn_append_own _ rfl _ _ 61 rfl W.heap.size 3 i3 (.int .i64 0) 1 8 Try.underlying61 hi3 hz3 hs3 hb3 rfl (by decide) _ _ _ rfl (hown.alloc _) ⟨wr.heap.size, 0, none⟩ 1 1 [.int .i64 x] rfl rfl (cells_new _ _ _) (by simp [Value.oneCell']) (by simp only [maxLen]; omega) (by omega) (by simp; omega) ?_; intro v' w1 hown' hgrow _; have hB1 : Below W.heap.size W w1 := (hB.alloc hs _).grown hgrow (by simp; omega) (fun j hj => (hown.lt j hj).1); have hcw1 := (hB1.cell (p := ⟨Bc, 0, none⟩) hBcW).trans hc')
      refine ⟨trivial, ?_⟩
      refine (callsIn_wide.2 (HN.out k x HX.out _ hB1)).mono ?_
      rintro r w' ⟨rfl, rfl⟩
      unfold tld
      gi_wp2_with fail
      exact ⟨⟨k + 1, by omega, by rw [HT.out, ints_append]; exact hown', rfl, rfl, hB1⟩, by rw [lenV_own hown', lenV_own hown]; omega⟩
    · obtain rfl : k = L.length := by omega
      have e2 : (hd (L.drop L.length) != -1) = false := by rw [List.drop_length]; rfl
      have e1 : max (hd (L.drop L.length)) 0 = 0 := by rw [List.drop_length]; rfl
      rw [e1, e2]
      rw [List.take_length] at hown
      obtain ⟨a, cap, rfl, hz⟩ := own_form hown
      have HJ0 := Lib.hid (HJ.out wr hB)
      have HO := Lib.hid hown
      have HZ := Lib.hid hz
      clear hown hz hB hs hcw e2 e1
      gi_wp2_with fail
      gi_loopw [28] (fun i2 wx => ∃ j : Nat, j ≤ L.length ∧ i2 = .int .i64 j ∧ J (L.take j) wx ∧ wx.ownsRow W.heap.size 3 1 (.slice a L.length cap) L.length (ints L)) (fun i2 _ => L.length - (intOf i2).toNat)
      case atStart => exact ⟨0, Nat.zero_le _, rfl, by rw [List.take_zero]; exact HJ0.out, HO.out⟩
      case round =>
        obtain ⟨j, hj, rfl, hJj, how⟩ := hrel
        by_cases hltj : j < L.length
        · obtain ⟨x, hx⟩ : ∃ x, L.drop j = x :: L.drop (j + 1) := ⟨L[j], List.drop_eq_getElem_cons hltj⟩
          have hLj : (ints L)[j]? = some (.int .i64 x) := by
            have : L[j]? = some x := by
              have := congrArg (fun l => l[0]?) hx
              simpa using this
            unfold ints
            rw [List.getElem?_map, this]
            rfl
          obtain ⟨a', cap', e, hz⟩ := own_form how
          simp only [Value.slice.injEq] at e
          obtain ⟨rfl, -, rfl⟩ := e
          rcases hz with h0 | ⟨g, rfl, hcells⟩
          · omega
          have hcell := hcells j _ hLj
          have HX := Lib.hid hx
          have HOW := Lib.hid how
          obtain ⟨fn, tmps, assign, body, hy, hR⟩ := HY.out (L.take j) x _ hJj (by rw [List.length_take]; omega)
          clear hx how hcells hLj HZ HO
          gi_wp2
          refine hR.mono ?_
          rintro r W3 (⟨rfl, hJ3, hk3⟩ | ⟨rfl, hx3⟩)
          · gi_wp2
            go_roundw
            case rel => exact ⟨j + 1, by omega, by go_num, by rw [take_next HX.out]; exact hJ3, hk3.own hnW HOW.out⟩
            case measure => simp [intOf]; omega
          · gi_wp2
            refine bodyPost_ret (results_none rfl _ _ _) rfl ?_
            exact ⟨⟨_, rfl⟩, .inr ⟨_, ⟨L.drop (j + 1), by rw [← take_next HX.out, List.take_append_drop]⟩, hx3⟩⟩
        · obtain rfl : j = L.length := by omega
          rw [List.take_length] at hJj
          have HJJ := Lib.hid hJj
          clear hJj how
          gi_wp2
          go_end0
          exact ⟨⟨_, rfl⟩, .inl ⟨_, rfl, HJJ.out⟩⟩
end Go.Proofs.Ytgjgcobkppmafaa
