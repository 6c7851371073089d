/- The ends of calls, and what comes out of a row at rest: plain; and the marks in memory. No condition. -/
import Derived.Test.YtnjondphbfniaaaOb
import Derived.Test.YtnjondphbfniaaaX
namespace Go.Proofs.Ytnjondphbfniaaa
open Go.RowKit

/-! A call comes to its end. -/

theorem go_others (d : Dq) (i j : Nat) (h : j ≠ i) : (d.go i).2.ps j = d.ps j := by
  unfold Dq.go Dq.push Dq.pop Dq.steal
  repeat' split
  all_goals first | rfl | exact Dq.setP_other _ _ h

theorem go_up (d : Dq) (i : Nat) : (d.ps i).step ≤ ((d.go i).2.ps i).step := by
  unfold Dq.go Dq.push Dq.pop Dq.steal
  repeat' split
  all_goals first | exact Int.le_refl _ | (rw [Dq.setP_same]; simp only; first | omega | (split <;> omega)) | (show (d.ps i).step ≤ ((d.setP i _).ps i).step; rw [Dq.setP_same]; simp only; omega)

theorem done_others (h : Int × Dq) (i j : Nat) (hj : j ≠ i) : (Dq.done h i).ps j = h.2.ps j := by
  unfold Dq.done
  split <;> exact Dq.setP_other _ _ hj

theorem step_others (d : Dq) (i j : Nat) (hj : j ≠ i) : (d.step i).2.2.2.ps j = d.ps j := by
  unfold Dq.step
  rw [Int.toNat_natCast]
  split
  · split
    · exact (done_others _ _ _ hj).trans (go_others d i j hj)
    · rfl
  · rfl

theorem step_n (d : Dq) (who : Int) : (d.step who).2.2.2.n = d.n := by
  unfold Dq.step
  split
  · split
    · unfold Dq.done
      show (if (d.go who.toNat).1 = 0 then _ else _ : Dq).n = d.n
      split
      · exact Dq.go_n d who.toNat
      · exact Dq.go_n d who.toNat
    · rfl
  · rfl

/-- A step of one who is in a call ends it, or goes on. -/
theorem step_on {d : Dq} {K : Nat} (ok : d.Ok K) (i : Nat) (hi : i < d.n) : ((d.step i).2.2.2.ps i).call = 0 ∨ (d.ps i).step + 1 ≤ ((d.step i).2.2.2.ps i).step := by
  unfold Dq.step
  rw [Int.toNat_natCast, if_pos (Dq.has_iff.2 ⟨by omega, by omega⟩)]
  have hc := (ok.ps i).call
  by_cases hcall : 1 ≤ (d.ps i).call ∧ (d.ps i).call ≤ 3
  · rw [if_pos hcall]
    unfold Dq.done
    simp only
    split
    · right
      rw [Dq.setP_same]
      have := go_up d i
      simp only
      omega
    · left
      rw [Dq.setP_same]
      rfl
  · left
    rw [if_neg hcall]
    simp only
    omega

/-- Party i, behind j steps of its last: it is in no call, or far on in it. -/
def Near (d : Dq) (i j : Nat) : Prop := i < d.n → (d.ps i).call = 0 ∨ (j : Int) + 1 ≤ (d.ps i).step
/-- The parties before i are in no call. -/
def Idle (d : Dq) (i : Nat) : Prop := ∀ k, k < i → k < d.n → (d.ps k).call = 0

theorem Near.start {d : Dq} {K : Nat} (ok : d.Ok K) (i : Nat) : Near d i 0 := fun _ => by
  by_cases h : (d.ps i).call = 0
  · exact .inl h
  · have := (ok.ps i).live h
    exact .inr (by omega)

theorem Near.quiet {d : Dq} {i j : Nat} (hb : d.busy i = false) : Near d i (j + 1) := fun hi => by
  unfold Dq.busy at hb
  rw [Dq.has_iff.2 ⟨by omega, by omega⟩, Bool.true_and, Int.toNat_natCast] at hb
  exact .inl (by simpa using hb)

theorem Near.step {d : Dq} {K i j : Nat} (ok : d.Ok K) (hb : d.busy i = true) (h : Near d i j) : Near (d.step i).2.2.2 i (j + 1) := fun hi => by
  rw [step_n] at hi
  have hc : ¬ (d.ps i).call = 0 := by
    unfold Dq.busy at hb
    rw [Dq.has_iff.2 ⟨by omega, by omega⟩, Bool.true_and, Int.toNat_natCast] at hb
    simpa using hb
  have h1 := h hi
  rcases step_on ok i hi with h2 | h2
  · exact .inl h2
  · exact .inr (by omega)

theorem Near.idle {d : Dq} {K i : Nat} (ok : d.Ok K) (h : Near d i 6) (hI : Idle d i) : Idle d (i + 1) := fun k hk hn => by
  by_cases e : k = i
  · subst e
    have := (ok.ps k).step
    rcases h hn with h | h <;> omega
  · exact hI k (by omega) hn

theorem Idle.step {d : Dq} {i : Nat} (h : Idle d i) : Idle (d.step i).2.2.2 i := fun k hk hn => by
  rw [step_n] at hn
  rw [step_others d i k (by omega)]
  exact h k hk hn

/-! A row at rest. -/

/-- Nobody is in a call; what lies there bears no mark, and is less than last. -/
structure Rest (d : Dq) (T : Nat → Int) (N : Nat) (last : Int) : Prop where
  n : 1 ≤ d.n
  idle : (d.ps 0).call = 0
  le : d.top ≤ d.bottom
  cont : ∀ n, d.top ≤ n → n < d.bottom → 1 ≤ d.c n ∧ d.c n < N ∧ d.c n < last ∧ T (d.c n).toNat = 0
  inc : ∀ n m, d.top ≤ n → n < m → m < d.bottom → d.c n < d.c m

theorem Dq.Safe.rest {d : Dq} {L : Int} {T : Nat → Int} {N K : Nat} (h : d.Safe L T N) (ok : d.Ok K) (hI : Idle d 9) : Rest d T N N ∧ zer T (N - 1) = d.bottom - d.top := by
  have h0 := hI 0 (by omega) (by have := ok.n; omega)
  have hL := h.hL2 (by omega)
  have hb := h.bound
  have hc := h.count
  rw [if_neg (by omega), if_neg (by omega)] at hc
  refine ⟨⟨ok.n.1, h0, by omega, fun n h1 h2 => ?_, fun n m h1 h2 h3 => h.inc n m h1 h2 (by omega)⟩, by omega⟩
  obtain ⟨g1, g2, g3⟩ := h.cont n h1 (by omega)
  exact ⟨g1, g2, g2, g3⟩

theorem Rest.pop {d : Dq} {T : Nat → Int} {N : Nat} {last : Int} (h : Rest d T N last) (hlt : d.top < d.bottom) :
    ∃ x d', oneD d 0 = (true, x, d') ∧ 1 ≤ x ∧ x < N ∧ x < last ∧ T x.toNat = 0 ∧ Rest d' (setv T x.toNat 1) N x ∧ d'.bottom - d'.top = d.bottom - d.top - 1 := by
  have h0 : 0 < d.n := h.n
  have eb : d.begin 0 2 0 = (0, d.setP 0 ⟨2, 1, 0, 0, 0, false⟩) := by
    unfold Dq.begin
    rw [if_pos (Dq.has_iff.2 ⟨by omega, by have := h.n; omega⟩)]
    have := h.idle
    simp [this, Pt.none]
  obtain ⟨g1, g2, g3, g4⟩ := h.cont (d.bottom - 1) (by omega) (by omega)
  have rest : ∀ d' : Dq, d'.n = d.n → (d'.ps 0).call = 0 → d'.c = d.c → d'.top ≤ d'.bottom → d.top ≤ d'.top → (d'.top < d'.bottom → d'.bottom ≤ d.bottom - 1) → Rest d' (setv T (d.c (d.bottom - 1)).toNat 1) N (d.c (d.bottom - 1)) := by
    intro d' a1 a2 a3 a4 a5 a6
    refine ⟨by rw [a1]; exact h.n, a2, a4, fun n n1 n2 => ?_, fun n m n1 n2 n3 => ?_⟩
    · rw [a3]
      have := a6 (by omega)
      obtain ⟨k1, k2, k3, k4⟩ := h.cont n (by omega) (by omega)
      have k5 := h.inc n (d.bottom - 1) (by omega) (by omega) (by omega)
      refine ⟨k1, k2, k5, ?_⟩
      rw [setv_other _ _ (by omega)]
      exact k4
    · rw [a3]
      have := a6 (by omega)
      exact h.inc n m (by omega) n2 (by omega)
  unfold oneD oneBegin
  rw [if_pos rfl, eb]
  simp only
  have e1 := st21 (d := d) (i := 0) h0 (b := 0) (t := 0) (x := 0) (w := false)
  have e2 := st22 (d := d.setB (d.bottom - 1)) (i := 0) h0 (b := d.bottom - 1) (t := 0) (x := 0) (w := false) (by show ¬ d.bottom - 1 < d.top; omega)
  rw [show (d.setB (d.bottom - 1)).top = d.top from rfl] at e2
  have es : (d.setB (d.bottom - 1)).slots ((d.setB (d.bottom - 1)).at' (d.bottom - 1)) = d.c (d.bottom - 1) := rfl
  by_cases e : d.top = d.bottom - 1
  · have e3 := st23e (d := d.setB (d.bottom - 1)) (i := 0) h0 (b := d.bottom - 1) (t := d.top) (x := 0) (w := false) (by omega)
    have e4 := st24 (d := d.setB (d.bottom - 1)) (i := 0) h0 (b := d.bottom - 1) (t := d.top) (x := d.c (d.bottom - 1)) (w := false) rfl
    have e5 := st25 (d := (d.setB (d.bottom - 1)).setT (d.top + 1)) (i := 0) h0 (b := d.bottom - 1) (t := d.top) (x := d.c (d.bottom - 1))
    rw [es] at e3
    rw [show (d.setB (d.bottom - 1)).top = d.top from rfl] at e4
    rw [show ((0 : Nat) : Int) = 0 from rfl] at e1 e2 e3 e4 e5
    rw [oneGo_on e1, oneGo_on e2, oneGo_on e3, oneGo_on e4, oneGo_end e5 (by omega)]
    refine ⟨_, _, rfl, g1, g2, g3, g4, rest _ rfl ?_ rfl ?_ ?_ ?_, ?_⟩
    · rw [Dq.setP_same]; rfl
    · show d.top + 1 ≤ d.bottom - 1 + 1; omega
    · show d.top ≤ d.top + 1; omega
    · show d.top + 1 < d.bottom - 1 + 1 → _; omega
    · show d.bottom - 1 + 1 - (d.top + 1) = _; omega
  · have e3 := st23 (d := d.setB (d.bottom - 1)) (i := 0) h0 (b := d.bottom - 1) (t := d.top) (x := 0) (w := false) (by omega)
    rw [es] at e3
    rw [show ((0 : Nat) : Int) = 0 from rfl] at e1 e2 e3
    rw [oneGo_on e1, oneGo_on e2, oneGo_end e3 (by omega)]
    refine ⟨_, _, rfl, g1, g2, g3, g4, rest _ rfl ?_ rfl ?_ ?_ ?_, ?_⟩
    · rw [Dq.setP_same]; rfl
    · show d.top ≤ d.bottom - 1; omega
    · show d.top ≤ d.top; omega
    · intro _; show d.bottom - 1 ≤ _; omega
    · show d.bottom - 1 - d.top = _; omega

theorem Rest.none {d : Dq} {T : Nat → Int} {N : Nat} {last : Int} (h : Rest d T N last) (hlt : d.top = d.bottom) : (oneD d 0).1 = false := by
  have h0 : 0 < d.n := h.n
  have eb : d.begin 0 2 0 = (0, d.setP 0 ⟨2, 1, 0, 0, 0, false⟩) := by
    unfold Dq.begin
    rw [if_pos (Dq.has_iff.2 ⟨by omega, by have := h.n; omega⟩)]
    have := h.idle
    simp [this, Pt.none]
  unfold oneD oneBegin
  rw [if_pos rfl, eb]
  simp only
  have e1 := st21 (d := d) (i := 0) h0 (b := 0) (t := 0) (x := 0) (w := false)
  have e2 := st22e (d := d.setB (d.bottom - 1)) (i := 0) h0 (b := d.bottom - 1) (t := 0) (x := 0) (w := false) (by show d.bottom - 1 < d.top; omega)
  have e5 := st25n (d := d.setB (d.bottom - 1)) (i := 0) h0 (b := d.bottom - 1) (t := (d.setB (d.bottom - 1)).top) (x := 0)
  rw [show ((0 : Nat) : Int) = 0 from rfl] at e1 e2 e5
  rw [oneGo_on e1, oneGo_on e2, oneGo_end e5 (by omega)]
  rfl

/-! The marks in memory. -/

def tl (T : Nat → Int) (N : Nat) : List Value := (List.range N).map fun i => .int .i64 (T i)

theorem tl_len (T : Nat → Int) (N : Nat) : (tl T N).length = N := by simp [tl]
theorem tl_at (T : Nat → Int) {N i : Nat} (h : i < N) : (tl T N)[i]? = some (.int .i64 (T i)) := by simp [tl, h]
theorem tl_set (T : Nat → Int) (N i : Nat) (y : Int) : (tl T N).set i (.int .i64 y) = tl (setv T i y) N := by
  apply List.ext_getElem?
  intro k
  by_cases hk : k < N
  · rw [tl_at _ hk, List.getElem?_set]
    by_cases e : i = k
    · subst e
      rw [if_pos rfl, if_pos (by rw [tl_len]; exact hk), setv_same]
    · rw [if_neg e, tl_at _ hk, setv_other _ _ (fun h => e h.symm)]
  · rw [List.getElem?_eq_none (by simp [tl_len]; omega), List.getElem?_eq_none (by simp [tl_len]; omega)]
theorem tl_more (T : Nat → Int) (N : Nat) (y : Int) : tl T N ++ [.int .i64 y] = tl (setv T N y) (N + 1) := by
  unfold tl
  rw [List.range_succ, List.map_append, List.map_cons, List.map_nil, setv_same]
  congr 1
  refine List.map_congr_left fun k hk => ?_
  have := List.mem_range.1 hk
  rw [setv_other _ _ (by omega)]

/-- The row and the marks in memory. -/
structure Marked (w wr : World) (b pb cap : Nat) (d : Dq) (g cv : Nat) (T : Nat → Int) (N : Nat) : Prop where
  dq : IsDq wr b pb cap d
  own : wr.ownsRow w.heap.size 3 1 (.slice (some ⟨g, 0, none⟩) N cv) N (tl T N)
  frm : Frm (Both b pb) w wr
  low : b < w.heap.size ∧ pb < w.heap.size

section
variable {w wr w' : World} {b pb cap g cv N : Nat} {d d' : Dq} {T : Nat → Int}

theorem Marked.g_ge (h : Marked w wr b pb cap d g cv T N) : w.heap.size ≤ g ∧ g < wr.heap.size := h.own.lt g rfl
theorem Marked.cell (h : Marked w wr b pb cap d g cv T N) {i : Nat} (hi : i < N) : wr.cell? ⟨g, i, none⟩ = some (.int .i64 (T i)) := by
  rw [h.own.cellAt i (by omega)]
  exact tl_at _ hi
theorem Marked.frozen (h : Marked w wr b pb cap d g cv T N) (i : Nat) : wr.frozen? ⟨g, i, none⟩ = false := h.own.frozenAt i

theorem own_heap {w w' : World} {base t sz n : Nat} {v : Value} {xs : List Value} (h : w.ownsRow base t sz v n xs) (hh : ∀ k, v.ownBlock = some k → w'.heap[k]? = w.heap[k]?) : w'.ownsRow base t sz v n xs := by
  refine ⟨h.1, ?_⟩
  rcases h.2 with hn | ⟨g, cap, cur, rfl, hb, hg, rest⟩
  · exact .inl hn
  · exact .inr ⟨g, cap, cur, rfl, hb, (hh g rfl).trans hg, rest⟩

theorem Marked.call (h : Marked w wr b pb cap d g cv T N) (hF : Frm (Both b pb) wr w') (hq : IsDq w' b pb cap d') : Marked w w' b pb cap d' g cv T N := by
  refine ⟨hq, own_heap h.own fun k hk => ?_, h.frm.trans hF, h.low⟩
  have := h.own.lt k hk
  have := h.low
  exact hF.block k (by omega) (by unfold Both; omega)

theorem Marked.alloc (h : Marked w wr b pb cap d g cv T N) (o : Obj) : Marked w (wr.alloc o) b pb cap d g cv T N := h.call ((Frm.refl _ _).alloc o) (h.dq.alloc o)
theorem Marked.drewN (h : Marked w wr b pb cap d g cv T N) (n : Nat) : Marked w (wr.drewN n) b pb cap d g cv T N := h.call ((Frm.refl _ _).drewN n) (h.dq.drewN n)

theorem Marked.store (h : Marked w wr b pb cap d g cv T N) (i : Nat) (y : Int) : Marked w (wr.setCell ⟨g, i, none⟩ (.int .i64 y)) b pb cap d g cv (setv T i y) N := by
  have hg := h.g_ge
  have hl := h.low
  refine ⟨h.dq.of_frm (S := fun k => k = g) ((Frm.refl (fun k => k = g) wr).setCell (p := ⟨g, i, none⟩) (fun _ => rfl) _) (by omega) (by omega), ?_, h.frm.setCell (p := ⟨g, i, none⟩) (fun hk => absurd hk (by simp only []; omega)) _, h.low⟩
  rw [← tl_set]
  exact (h.own.stored i _).1

theorem Marked.grown (h : Marked w wr b pb cap d g cv T N) {v' : Value} (hg : wr.grownBy w' (some g)) (ho : w'.ownsRow w.heap.size 3 1 v' (N + 1) (tl T N ++ [.int .i64 0])) :
    ∃ g' cv', v' = .slice (some ⟨g', 0, none⟩) (N + 1) cv' ∧ Marked w w' b pb cap d g' cv' (setv T N 0) (N + 1) := by
  have hgg := h.g_ge
  have hl := h.low
  have hF : Frm (fun k => k = g) wr w' := ⟨hg.os, hg.tape, hg.output, hg.size, fun k hk hs => hg.block k hk (fun e => hs (by simpa using e))⟩
  rw [tl_more] at ho
  rcases ho.2 with ⟨_, h0⟩ | ⟨g', cv', cur, rfl, _⟩
  · omega
  · exact ⟨g', cv', rfl, h.dq.of_frm hF (by omega) (by omega), ho, ⟨hF.os.trans h.frm.os, hF.tape.trans h.frm.tape, hF.output.trans h.frm.output, Nat.le_trans h.frm.size hF.size,
      fun k hk hs => (hF.block k (Nat.lt_of_lt_of_le hk h.frm.size) (by omega)).trans (h.frm.block k hk hs)⟩, h.low⟩
end
end Go.Proofs.Ytnjondphbfniaaa
