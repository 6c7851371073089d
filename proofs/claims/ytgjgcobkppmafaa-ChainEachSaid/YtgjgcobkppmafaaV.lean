/- A part of the proof of ChainEach: the walk of the law. No condition. -/
import Derived.Test.YtgjgcobkppmafaaQ
import Derived.StillTailTactics
import Derived.ControlIn
namespace Go.Proofs.Ytgjgcobkppmafaa
open Go.RowKit Go.Shelf

attribute [local go_sem] Oper.semAt_some

/-- The row that is made: k - 1 ahead of all, 0 at its end. -/
def down (k : Nat) : List Nat := (List.range k).map fun t => k - 1 - t

theorem down_len (k : Nat) : (down k).length = k := by simp [down]
theorem down_drop {k j : Nat} (h : j < k) : (down k).drop j = (k - 1 - j) :: (down k).drop (j + 1) := by
  rw [List.drop_eq_getElem_cons (by rw [down_len]; exact h)]
  simp [down]
theorem down_new {k j : Nat} (h : j < k) : (k - 1 - j) ∉ (down k).take j := by
  intro hm
  unfold down at hm
  rw [← List.map_take, List.mem_map] at hm
  obtain ⟨t, h1, h2⟩ := hm
  rw [List.take_range, List.mem_range] at h1
  omega

def out (pre L : List Nat) : List Nat := pre.foldl (fun l x => l.erase x) L
theorem out_snoc (pre L : List Nat) (x : Nat) : out (pre ++ [x]) L = (out pre L).erase x := by simp [out]
theorem out_pre (t : List Nat) : ∀ pre : List Nat, out pre (pre ++ t) = t
  | [] => rfl
  | a :: p => by
    unfold out
    rw [List.cons_append, List.foldl_cons, List.erase_cons_head]
    exact out_pre t p

theorem Has.of_heap {w w' : World} {c bn bl N M : Nat} {vn vl : Value} {R : Nat → List Nat} (h : Has w c bn bl vn vl N M R) (h1 : w'.heap[c]? = w.heap[c]?) (h2 : 0 < N → w'.heap[bn]? = w.heap[bn]?) (h3 : 0 < M → w'.heap[bl]? = w.heap[bl]?) : Has w' c bn bl vn vl N M R := by
  obtain ⟨s, a, b, e1, e2⟩ := h
  exact ⟨s, ⟨a.top.of_heap h1, a.sn, a.sl, fun hN => (a.nodes hN).of_heap (h2 (by omega)), fun hM => (a.rows hM).of_heap (h3 (by omega)), a.apart, a.most⟩, b, e1, e2⟩

theorem Has.lt {w : World} {c bn bl N M : Nat} {vn vl : Value} {R : Nat → List Nat} (h : Has w c bn bl vn vl N M R) : c < w.heap.size ∧ (0 < N → bn < w.heap.size) ∧ (0 < M → bl < w.heap.size) ∧ c ≠ bn ∧ c ≠ bl := by
  obtain ⟨s, a, b, rfl, rfl⟩ := h
  exact ⟨a.top.lt, fun h => (a.nodes h).lt, fun h => (a.rows h).lt, a.apart.1, a.apart.2.1⟩

theorem Has.isCells {w : World} {c bn bl N M : Nat} {vn vl : Value} {R : Nat → List Nat} (h : Has w c bn bl vn vl N M R) : (0 < N → ∀ o, w.heap[bn]? = some o → o.isCells = true) ∧ (0 < M → ∀ o, w.heap[bl]? = some o → o.isCells = true) := by
  obtain ⟨s, a, b, rfl, rfl⟩ := h
  refine ⟨fun h o ho => ?_, fun h o ho => ?_⟩
  · obtain ⟨arr, h1, -⟩ := a.nodes h
    rw [h1] at ho; cases ho; rfl
  · obtain ⟨arr, h1, -⟩ := a.rows h
    rw [h1] at ho; cases ho; rfl

/-- What stands while the law runs: its result's cell, the box of the rows, the rows. -/
structure St (w wr : World) (A B c bn bl k n0 : Nat) (vn vl : Value) (R : Nat → List Nat) : Prop where
  res : Blk wr A 4 1 (fun _ => .bool false)
  box : Blk wr B 22 1 (fun _ => .pointer (some ⟨c, 0, none⟩))
  has : Has wr c bn bl vn vl k 2 R
  below : Below w.heap.size w wr
  apart : (0 < k → A ≠ bn ∧ B ≠ bn ∧ bn < n0) ∧ A ≠ bl ∧ B ≠ bl ∧ bl < n0 ∧ A < n0 ∧ B < n0 ∧ c < n0
  low : w.heap.size ≤ A ∧ w.heap.size ≤ bn ∧ w.heap.size ≤ bl
  big : n0 ≤ wr.heap.size

section
variable {w wr wr' : World} {A B c bn bl k n0 : Nat} {vn vl : Value} {R R' : Nat → List Nat}

theorem St.turn (h : St w wr A B c bn bl k n0 vn vl R) (hk : 0 < k) (hF : Frm (Two bn bl) wr wr') (hH : Has wr' c bn bl vn vl k 2 R') : St w wr' A B c bn bl k n0 vn vl R' := by
  have ha := h.apart.1 hk
  have hb := h.apart.2
  have hl := h.low
  have hs := hF.size
  exact ⟨hF.blk h.res (by unfold Two; omega), hF.blk h.box (by unfold Two; omega), hH, h.below.trans (hF.below h.below.size (fun j hj => by unfold Two; omega)), h.apart, h.low, by have := h.big; omega⟩

theorem St.keeps (h : St w wr A B c bn bl k n0 vn vl R) (hk : 0 < k) (hF : Frm (Two bn bl) wr wr') : KeepsOthers wr wr' ∧ KN n0 wr wr' := by
  have ha := h.apart.1 hk
  have hb := h.apart.2
  obtain ⟨q1, q2⟩ := h.has.isCells
  refine ⟨⟨hF.size, fun j o ho hc => ?_⟩, ⟨hF.size, fun j o hj ho hc => ?_⟩⟩
  · rw [hF.block j (Array.getElem?_eq_some_iff.1 ho).1, ho]
    rintro (rfl | rfl)
    · rw [q1 hk o ho] at hc; cases hc
    · rw [q2 (by omega) o ho] at hc; cases hc
  · rw [hF.block j (Array.getElem?_eq_some_iff.1 ho).1, ho]
    unfold Two
    omega

theorem St.grown (h : St w wr A B c bn bl k n0 vn vl R) {row : Option Nat} (hg : wr.grownBy wr' row) (hr : ∀ r, row = some r → n0 ≤ r) : St w wr' A B c bn bl k n0 vn vl R := by
  have hb := h.apart.2
  have hbig := h.big
  have hl := h.low
  have hf : ∀ j, j < n0 → wr'.heap[j]? = wr.heap[j]? := fun j hj => hg.block j (by omega) (fun e => by have := hr j e.symm; omega)
  refine ⟨h.res.of_heap (hf A (by omega)), h.box.of_heap (hf B (by omega)), h.has.of_heap (hf c (by omega)) (fun hk => hf bn (h.apart.1 hk).2.2) (fun _ => hf bl (by omega)), ?_, h.apart, h.low, by have := hg.size; omega⟩
  exact h.below.trans ⟨hg.os, hg.tape, hg.output, hg.size, fun j hj => hf j (by omega)⟩
end

theorem push0 {k : Nat} {R : Nat → List Nat} {i : Nat} {x : Nat} (hi : i < 2) (hx : x < k) (h0 : x ∉ R 0) (h1 : x ∉ R 1) : pushR k 2 R i x = (0, updL R i (R i ++ [x])) := by
  unfold pushR
  have : inR R x 2 = -1 := inR_none.2 fun j hj => by
    have : j = 0 ∨ j = 1 := by omega
    rcases this with rfl | rfl
    · exact h0
    · exact h1
  rw [if_pos (by omega), Int.toNat_natCast, this, if_pos rfl, Int.toNat_natCast]

theorem remove0 {k : Nat} {R : Nat → List Nat} {x : Nat} (hx : x < k) (h0 : x ∈ R 0) (h1 : x ∉ R 1) : removeR k 2 R x = (0, 0, updL R 0 ((R 0).erase x)) := by
  unfold removeR
  have : inR R x 2 = 0 := by
    unfold inR
    rw [if_neg h1]
    unfold inR
    rw [if_pos h0]
    rfl
  rw [if_pos (by omega), Int.toNat_natCast, this, if_neg (by omega)]
  rfl

theorem remove1 {k : Nat} {R : Nat → List Nat} {x : Nat} (h0 : x ∉ R 0) : (removeR k 2 R x).2.1 ≠ 0 ∨ ((removeR k 2 R x).2.1 = 0 ∧ (removeR k 2 R x).1 ≠ 0) := by
  unfold removeR
  split
  · split
    · left; simp
    · right
      rename_i h
      refine ⟨rfl, ?_⟩
      simp only [Int.toNat_natCast] at h ⊢
      unfold inR at h ⊢
      by_cases h1 : x ∈ R 1
      · rw [if_pos h1]; simp
      · rw [if_neg h1] at h
        unfold inR at h
        rw [if_neg h0] at h
        exact absurd rfl h
  · left; simp

set_option maxRecDepth 100000 in
set_option maxHeartbeats 4000000 in
theorem each_in (n : Int) (w : World) (h0 : 0 ≤ n) (h1 : n ≤ 18446744073709551615) : CallsIn Fence.wide 5 Try.prog 4 #[.int .u64 n] w fun r w' => r = .returned (.bool true) ∧ Below w.heap.size w w' := by
  obtain ⟨k, hk⟩ : ∃ k : Nat, n % 200 = k := ⟨(n % 200).toNat, by omega⟩
  have hk2 : k < 200 := by omega
  have hcn : cntOf k = k := by unfold cntOf; omega
  have hc2 : cntOf 2 = 2 := rfl
  have HNew := Lib.hid (fun w => New_any k 2 w (by omega) (by omega) (by omega) (by omega))
  rw [hcn, hc2] at HNew
  have HK := Lib.hid hk
  clear hcn hc2
  refine callsIn_of_wp_marks Try.func4 rfl trivial ?_ rfl
  simp only [Try.ntmps4, List.size_toArray, List.length_cons, List.length_nil, Nat.reduceAdd, Nat.reduceSub, Array.replicate_succ, Array.replicate_zero, List.push_toArray, List.append_toArray, List.nil_append, List.cons_append]
  gi_wp2_with fail
  refine ⟨trivial, ?_⟩
  refine (callsIn_wide.2 (HNew.out _)).mono ?_
  rintro r w1 ⟨c, bn, bl, vn, vl, rfl, hlc, hln, hll, hH, hB⟩
  obtain ⟨A, hA⟩ : ∃ A, w.heap.size = A := ⟨_, rfl⟩
  obtain ⟨B, hBs⟩ : ∃ B, w1.heap.size = B := ⟨_, rfl⟩
  have hA1 : Blk w1 A 4 1 (fun _ => .bool false) := by
    have : Blk (w.alloc (.cells #[.bool false] 4)) A 4 1 (fun _ => .bool false) := by
      rw [← hA]
      exact (Blk.new w #[.bool false] 4).congr fun o ho => by
        obtain rfl : o = 0 := by simpa using ho
        rfl
    exact this.of_heap (hB.block _ this.lt)
  have hsz : w1.heap.size ≥ A + 1 := by have := hB.size; simp at this; omega
  obtain ⟨q1, q2, q3, q4, q5⟩ := hH.lt
  have HS := Lib.hid (show St w (w1.alloc (.cells #[.pointer (some ⟨c, 0, none⟩)] 22)) A B c bn bl k (B + 1) vn vl (fun _ => []) by
    refine ⟨Blk.alloc hA1 _, ?_, hH.alloc _, ?_, ⟨fun hk => ?_, ?_⟩, ?_, ?_⟩
    · rw [← hBs]
      exact (Blk.new w1 #[.pointer (some ⟨c, 0, none⟩)] 22).congr fun o ho => by
        obtain rfl : o = 0 := by simpa using ho
        rfl
    · exact (((Below.refl _ w).alloc (Nat.le_refl _) _).trans (hB.mono (by simp))).alloc (by omega) _
    · have := q2 hk
      simp at hln
      omega
    · have := q3 (by omega)
      simp at hll hlc
      omega
    · simp at hll hln hlc
      omega
    · simp; omega)
  have hAB : A < B := by omega
  clear hlc hln hll hH hB hA1 q1 q2 q3 q4 q5 HNew
  obtain ⟨W2, hW2⟩ : ∃ W2, w1.alloc (.cells #[.pointer (some ⟨c, 0, none⟩)] 22) = W2 := ⟨_, rfl⟩
  rw [hW2] at HS
  have cB := HS.out.box.cell (o := 0) (by omega)
  gi_wp2_with fail
  try rw [hA]
  try rw [hBs]
  try rw [hW2]
  clear hW2 hBs
  gi_loopw [19] (fun i wr => ∃ (j : Nat) (R : Nat → List Nat), j ≤ k ∧ i = .int .i64 j ∧ St w wr A B c bn bl k (B + 1) vn vl R ∧ R 0 = (down k).take j ∧ R 1 = []) (fun i _ => k - (intOf i).toNat)
  case atStart => exact ⟨0, _, Nat.zero_le _, rfl, HS.out, rfl, rfl⟩
  case round =>
    clear HS
    obtain ⟨j, R, hj, rfl, hS, hR0, hR1⟩ := hrel
    by_cases hlt : j < k
    · have cB := hS.box.cell (o := 0) (by omega)
      have hp := push0 (k := k) (R := R) (i := 0) (x := k - 1 - j) (by omega) (by omega) (by rw [hR0]; exact down_new hlt) (by rw [hR1]; simp)
      have P := hS.has.push 0 ((k - 1 - j : Nat) : Int)
      rw [show ((0 : Nat) : Int) = 0 from rfl] at hp
      rw [hp] at P
      rw [show ((k - 1 - j : Nat) : Int) = (k : Int) - 1 - j by omega] at P
      have HP := Lib.hid P
      have HS := Lib.hid hS
      have HR := Lib.hid (show updL R 0 (R 0 ++ [k - 1 - j]) 0 = (down k).take (j + 1) ∧ updL R 0 (R 0 ++ [k - 1 - j]) 1 = [] from ⟨by rw [take_next (down_drop hlt), ← hR0]; rfl, hR1⟩)
      clear hp P hS hR0 hR1
      gi_wp2_with fail
      refine ⟨trivial, ?_⟩
      refine (callsIn_wide.2 HP.out).mono ?_
      rintro r w3 ⟨rfl, h3, hF3⟩
      have HS3 := Lib.hid (HS.out.turn (by omega) hF3 h3)
      clear h3 hF3
      gi_wp2_with fail
      go_roundw
      case rel => exact ⟨j + 1, _, by omega, by go_num, HS3.out, HR.out.1, HR.out.2⟩
      case measure => simp [intOf]; omega
    · obtain rfl : j = k := by omega
      rw [List.take_of_length_le (by rw [down_len]; exact Nat.le_refl _)] at hR0
      have cB := hS.box.cell (o := 0) (by omega)
      have HS := Lib.hid hS
      have HR := Lib.hid (⟨hR0, hR1⟩ : R 0 = down j ∧ R 1 = [])
      clear hS hR0 hR1
      gi_wp2_with fail
      refine ⟨trivial, ?_⟩
      refine (callsIn_wide.2 (Each_ptr ⟨c, 0, none⟩ 0 _)).mono ?_
      rintro r w3 ⟨rfl, hw3⟩
      obtain ⟨E, hE⟩ : ∃ E, wr.heap.size = E := ⟨_, rfl⟩
      obtain ⟨W0, hW0⟩ : ∃ W0, (wr.alloc (.cells #[.pointer (some ⟨c, 0, none⟩)] 22)).alloc (.cells #[.int .i64 0] 3) = W0 := ⟨_, rfl⟩
      have hb0 : Below wr.heap.size wr W0 := by rw [← hW0]; exact (((Below.refl _ _).alloc (Nat.le_refl _) _).alloc (by simp) _)
      have hsz0 : W0.heap.size = E + 2 := by rw [← hW0, ← hE]; simp
      have hc1 : W0.cell? ⟨E, 0, none⟩ = some (.pointer (some ⟨c, 0, none⟩)) := by rw [← hW0, ← hE]; simp [go_sem]
      have hc2 : W0.cell? ⟨E + 1, 0, none⟩ = some (.int .i64 (0 : Nat)) := by rw [← hW0, ← hE]; simp [go_sem]
      have HS0 := Lib.hid (HS.out.grown (wr' := W0) (row := none) ⟨hb0.os, hb0.tape, hb0.output, hb0.size, fun k hk _ => hb0.block k hk⟩ (fun r e => by cases e))
      have hEB : B + 1 ≤ E := by have := HS.out.big; omega
      have cB0 := HS0.out.box.cell (o := 0) (by omega)
      subst hw3
      clear HS cB hb0
      gi_wp2_with fail
      gi_wp2_with fail
      rename_i hKK
      refine hKK _ _ ?_
      clear hKK
      gi_wp2_with fail
      try rw [hW0]
      try rw [hE]
      clear hW0 hE
      have hseq := each_row 4 E (E + 1) c bn bl j 2 0 (B + 1) vn vl R W0 (by omega) (by omega) (by omega) (by omega) hc1 hc2 HS0.out.has (by omega)
      rw [HR.out.1] at hseq
      rw [down_len] at hseq
      refine wpIn_rangeFunc_ownF rfl (by omega) (gf := 22) (lb := #[.pointer (some ⟨E, 0, none⟩), .pointer (some ⟨E + 1, 0, none⟩)]) rfl trivial (enters_of Try.func22 (by kernel_rfl) rfl)
        hseq
        (fun h k => h.trans k) (fun W l o o' hl ho h1 h2 => ⟨by simp, fun k o2 hk ho2 hc => ?_⟩) (Below.refl _ _) (fun _ => rfl)
        (fun pre W => ∃ R, St w W A B c bn bl j (B + 1) vn vl R ∧ R 0 = out pre (down j) ∧ R 1 = pre)
        (fun cd xs _ => ¬ ∃ t, down j = xs ++ t)
        (fun s W1 W2' row hs hg hr => ?_)
        (fun _ _ _ _ _ hs _ _ => hs)
        ⟨R, HS0.out, HR.out.1, HR.out.2⟩
        ?a1 ?assign ?body ?done ?stop
      case assign =>
        intro l x W K hK
        gi_wp2
        exact hK
      case body =>
        clear hseq HS0 HR cB cB0 hc1 hc2
        rintro l pre x W ⟨R, hS, hR0, hR1⟩ hl
        have hk0 : 0 < j := by omega
        have cBW := hS.box.cell (o := 0) (by omega)
        obtain ⟨f1, f2, f3, f4⟩ := hS.has.facts
        by_cases hx0 : x ∈ R 0
        · have hx1 : x ∉ R 1 := fun hm => by have := f3 0 1 x (by omega) (by omega) hx0 hm; omega
          have hxk := f2 0 (by omega) x hx0
          have P := hS.has.remove x
          rw [remove0 hxk hx0 hx1] at P
          have hnm : x ∉ (R 0).erase x := fun hm => ((f1 0 (by omega)).mem_erase_iff.1 hm).1 rfl
          have HP := Lib.hid P
          have HS := Lib.hid hS
          have HF := Lib.hid (⟨hx1, hxk, hnm, hR0, hR1⟩ : x ∉ R 1 ∧ x < j ∧ x ∉ (R 0).erase x ∧ R 0 = out pre (down j) ∧ R 1 = pre)
          clear P hS f1 f2 f3 f4 hx0 hx1 hxk hnm hR0 hR1
          gi_wp2_with fail
          refine ⟨trivial, ?_⟩
          refine (callsIn_wide.2 HP.out).mono ?_
          rintro r W2 ⟨rfl, h2, hF2⟩
          have hS2 := HS.out.turn hk0 hF2 h2
          have cB2 := hS2.box.cell (o := 0) (by omega)
          obtain ⟨k1, k2⟩ := HS.out.keeps hk0 hF2
          have P2 := hS2.has.push 1 x
          have e2 := push0 (k := j) (R := updL R 0 ((R 0).erase x)) (i := 1) (x := x) (by omega) HF.out.2.1 HF.out.2.2.1 HF.out.1
          rw [show ((1 : Nat) : Int) = 1 from rfl] at e2
          rw [e2] at P2
          have HP2 := Lib.hid P2
          have HS2 := Lib.hid hS2
          have HK2 := Lib.hid (And.intro k1 k2)
          clear P2 hS2 e2 h2 hF2 k1 k2 cBW
          gi_wp2_with fail
          refine ⟨trivial, ?_⟩
          refine (callsIn_wide.2 HP2.out).mono ?_
          rintro r W3 ⟨rfl, h3, hF3⟩
          have HS3 := Lib.hid (HS2.out.turn hk0 hF3 h3)
          have HK3 := Lib.hid (HS2.out.keeps hk0 hF3)
          clear h3 hF3 cB2
          gi_wp2_with fail
          refine ⟨HK2.out.1.trans HK3.out.1, HK2.out.2.trans HK3.out.2, _, HS3.out, ?_, ?_⟩
          · rw [out_snoc, ← HF.out.2.2.2.1]; rfl
          · have := HF.out.2.2.2.2
            show R 1 ++ [x] = pre ++ [x]
            rw [this]
        · have P := hS.has.remove x
          have h5 := remove1 (k := j) (R := R) (x := x) hx0
          generalize removeR j 2 R x = q at *
          obtain ⟨l1, e1, R1⟩ := q
          simp only at P h5
          have hix : ¬ ∃ t, down j = (pre ++ [x]) ++ t := by
            rintro ⟨t, ht⟩
            rw [ht, List.append_assoc, out_pre] at hR0
            rw [hR0] at hx0
            simp at hx0
          have HP := Lib.hid P
          have HS := Lib.hid hS
          have HI := Lib.hid hix
          clear P hS f1 f2 f3 f4 hx0 hR0 hR1 hix
          gi_wp2_with fail
          refine ⟨trivial, ?_⟩
          refine (callsIn_wide.2 HP.out).mono ?_
          rintro r W2 ⟨rfl, h2, hF2⟩
          have hS2 := HS.out.turn hk0 hF2 h2
          have HK2 := Lib.hid (HS.out.keeps hk0 hF2)
          have cA2 := hS2.res.cell (o := 0) (by omega)
          have fA2 := hS2.res.frozen 0
          clear hS2 h2 hF2 cBW
          rcases h5 with h5 | ⟨h5, h6⟩
          · have h5' : (e1 != 0) = true := by simpa using h5
            gi_wp2_with fail
            refine ⟨trivial, ?_⟩
            rename_i hKq
            refine hKq _ _ ?_
            clear hKq
            gi_wp2_with fail
            exact ⟨HK2.out.1.trans (KeepsOthers.setCell _ _ _), HI.out⟩
          · subst h5
            have h6' : (l1 != 0) = true := by simpa using h6
            gi_wp2_with fail
            refine ⟨trivial, ?_⟩
            rename_i hKq
            refine hKq _ _ ?_
            clear hKq
            gi_wp2_with fail
            exact ⟨HK2.out.1.trans (KeepsOthers.setCell _ _ _), HI.out⟩
      case done =>
        clear hseq HS0 HR cB cB0 hc1 hc2
        rintro D ys W hD rfl ⟨R, hS, hR0, hR1⟩ hK
        have hout : out (down j) (down j) = [] := by have := out_pre [] (down j); rwa [List.append_nil] at this
        rw [hout] at hR0
        have HS := Lib.hid hS
        have HR := Lib.hid (And.intro hR0 hR1)
        have HK := Lib.hid hK
        clear hS hR0 hR1 hK hout
        gi_wp2_with fail
        gi_loopw [55] (fun i wr => ∃ (t : Nat) (R : Nat → List Nat), t ≤ j ∧ i = .int .i64 t ∧ St w wr A B c bn bl j (B + 1) vn vl R ∧ R 0 = [] ∧ R 1 = (down j).drop t ∧ wr.heap[D]? = some (.deferred (some []))) (fun i _ => j - (intOf i).toNat)
        case atStart => exact ⟨0, R, Nat.zero_le _, rfl, HS.out, HR.out.1, HR.out.2, HK.out⟩
        case round =>
          clear HS HR HK
          obtain ⟨t, R, ht, rfl, hS, hR0, hR1, hK⟩ := hrel
          by_cases hltt : t < j
          · have cBW := hS.box.cell (o := 0) (by omega)
            have P := hS.has.pop 1
            have e1 : popR 2 R 1 = (((j - 1 - t : Nat) : Int), updL R 1 ((down j).drop (t + 1))) := by
              unfold popR
              rw [if_pos (by omega), show (1 : Int).toNat = 1 from rfl, hR1, down_drop hltt]
              rfl
            rw [e1] at P
            have e2 : tld ((j - 1 - t : Nat) : Int) = .tuple #[.int .i64 ((j : Int) - 1 - t), .bool true] := by
              unfold tld
              have a1 : max ((j - 1 - t : Nat) : Int) 0 = (j : Int) - 1 - t := by omega
              have a2 : (((j - 1 - t : Nat) : Int) != -1) = true := by simp
              rw [a1, a2]
            simp only at P
            rw [e2] at P
            have HP := Lib.hid P
            have HS := Lib.hid hS
            have HR := Lib.hid hR0
            have HK := Lib.hid hK
            clear P hS hR0 hR1 hK e1 e2
            gi_wp2_with fail
            refine ⟨trivial, ?_⟩
            refine (callsIn_wide.2 HP.out).mono ?_
            rintro r W3 ⟨rfl, h3, hF3⟩
            have HS3 := Lib.hid (HS.out.turn (by omega) hF3 h3)
            have HK3 := Lib.hid ((HS.out.keeps (by omega) hF3).1.same D _ HK.out rfl)
            clear h3 hF3
            gi_wp2_with fail
            go_roundw
            case rel => exact ⟨t + 1, _, by omega, by go_num, HS3.out, HR.out, rfl, HK3.out⟩
            case measure => simp [intOf]; omega
          · obtain rfl : t = j := by omega
            rw [List.drop_of_length_le (by rw [down_len]; exact Nat.le_refl _)] at hR1
            have cBW := hS.box.cell (o := 0) (by omega)
            have hS' : St w wr.drew A B c bn bl t (B + 1) vn vl R := hS.grown (row := none) ⟨rfl, rfl, rfl, Nat.le_refl _, fun _ _ _ => rfl⟩ (fun r e => by cases e)
            have L0 := hS'.has.len 0
            have L1 := hS'.has.len 1
            rw [if_pos (by omega)] at L0 L1
            rw [show (0 : Int).toNat = 0 from rfl, hR0] at L0
            rw [show (1 : Int).toNat = 1 from rfl, hR1] at L1
            rw [show (([] : List Nat).length : Int) = 0 from rfl] at L0 L1
            have HL0 := Lib.hid L0
            have HL1 := Lib.hid L1
            have cA := hS'.res.cell (o := 0) (by omega)
            have fA := hS'.res.frozen 0
            have hAl := hS'.res.lt
            have HB := Lib.hid hS'.below
            have HK := Lib.hid hK
            have hDl : D < wr.heap.size := (Array.getElem?_eq_some_iff.1 hK).1
            clear L0 L1 hS hS' hR0 hR1 hK
            gi_wp2_with fail
            refine wpIn_wide.2 ?_
            refine wp_region_still_tail 7 (by kernel_rfl) (by kernel_rfl) ?_
            simp only [List.take_succ_cons, List.take_zero, List.drop_succ_cons, List.drop_zero]
            still_step
            refine wpStill_step (fun K hK => ?_)
            go_simp
            refine ⟨_, (HL0.out).mono (fun r w' h => ⟨h.1, h.2.symm⟩), hK _ ?_⟩
            clear hK K
            still_step
            refine wpStill_step (fun K hK => ?_)
            go_simp
            refine ⟨_, (HL1.out).mono (fun r w' h => ⟨h.1, h.2.symm⟩), hK _ ?_⟩
            clear hK K
            still_step
            still_step
            still_step
            refine wpStill_nil ?_
            change wpList _ _ _ _ _ wr.drew
            go_wp2_with fail
            refine (lives_any _).mono ?_
            rintro r w4 ⟨rfl, hb4⟩
            have cA4 := (hb4.cell (p := ⟨A, 0, none⟩) hAl).trans cA
            have fA4 := (World.frozen?_of_block (a := ⟨A, 0, none⟩) (hb4.block A hAl)).trans fA
            have hD4 : w4.heap[D]? = some (.deferred (some [])) := (hb4.block D hDl).trans HK.out
            have hB4 : Below w.heap.size w w4 := HB.out.trans (hb4.mono HB.out.size)
            clear hb4 cA fA
            go_wp2_with fail
            gi_wp2
            have hc' : (w4.setCell ⟨A, 0, none⟩ (.bool true)).cell? ⟨A, 0, none⟩ = some (.bool true) := World.cell?_setCell_same _ _ _ cA4
            have hK' : (w4.setCell ⟨A, 0, none⟩ (.bool true)).heap[D]? = some (.deferred (some [])) := (KeepsOthers.setCell _ _ _).same D _ hD4 rfl
            have hB' := hB4.setCell (p := ⟨A, 0, none⟩) (by simp only []; omega) (.bool true)
            refine ⟨by simp, .inl ⟨_, _, rfl, run_takeDeferred hK', ?_⟩⟩
            have hc5 := cell_kept hc' (grownBy_putObj' _ D (.deferred none)) (fun r e => by cases e; exact ⟨_, hK', rfl⟩)
            exact ⟨_, by simp [results, Try.results4, go_sem, hc5], rfl, hB'.trans (belowK_b (w := w) (Nat.le_refl _) _ D _ _ (by omega) hK' rfl rfl)⟩
      case stop =>
        rintro D cd pre W _ hp h _
        exact absurd hp h
      · rw [World.putObj_heap_other (by rintro rfl; rw [ho] at ho2; cases ho2; rw [h1] at hc; cases hc)]
        exact ho2
      · obtain ⟨R, hS, h5⟩ := hs
        exact ⟨R, hS.grown hg (fun r e => by have := (hr r e).1; omega), h5⟩

theorem each_any (n : Int) (w : World) (h0 : 0 ≤ n) (h1 : n ≤ 18446744073709551615) : Calls Try.prog 4 #[.int .u64 n] w fun r w' => r = .returned (.bool true) ∧ Below w.heap.size w w' :=
  callsIn_wide.1 (each_in n w h0 h1)
end Go.Proofs.Ytgjgcobkppmafaa
