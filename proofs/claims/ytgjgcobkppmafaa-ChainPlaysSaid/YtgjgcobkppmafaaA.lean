/- The document's rows in memory (package pinfoldref07), and append within a drawn region. No condition. -/
import Derived.Test.YtgjgcobkppmafaaQ
import Derived.Test.YtgjgcobkppmafaaCut
import Derived.Deep.AppendLies
namespace Go.Proofs.Ytgjgcobkppmafaa
open Go.RowKit Go.Deep

/-- A slice whose m cells are news; no place is asked of an empty one. -/
def Src (w : World) (v : Value) (m : Nat) (news : List Value) : Prop :=
  ∃ A c, v = .slice A m c ∧ news.length = m ∧ ((A = none ∧ m = 0) ∨ ∃ ad : Addr, A = some ad ∧ ∀ j u, news[j]? = some u → w.cell? (ad.add j) = some u)

theorem Src.len {w : World} {v : Value} {m : Nat} {news : List Value} (h : Src w v m news) : news.length = m := by
  obtain ⟨A, c, _, h, _⟩ := h
  exact h

theorem Src.own {w : World} {base t n : Nat} {v : Value} {xs : List Value} (h : w.ownsRow base t 1 v n xs) : Src w v n xs := by
  rcases h.2 with ⟨rfl, rfl⟩ | ⟨g, cap, cur, rfl, _⟩
  · exact ⟨none, 0, rfl, by simpa using h.1, .inl ⟨rfl, rfl⟩⟩
  · exact ⟨_, cap, rfl, by simpa using h.1, .inr ⟨_, rfl, h.cells (g := g) rfl⟩⟩

/-- append of what a slice has, behind a row of the call's own: what it answers with. -/
theorem run_append_src {P : Program} {w : World} (base t ty e : Nat) (i : TypeInfo) (z : Value) (bytes : Nat) (ht : P.underlying t = some (.slice e)) (hi : P.info? e = some i) (hz : i.zero = some z)
    (hsize : i.size = 1) (hby : i.bytes = bytes) (hzs : z.cells.size = 1) {v : Value} {n : Nat} {xs : List Value} (hown : w.ownsRow base e 1 v n xs) {u : Value} {m : Nat} {news : List Value} (hs : Src w u m news)
    (h1 : ∀ x ∈ news, x.oneCell' = true) (h63 : n + m ≤ maxLen) (hbytes : (n + m) * bytes ≤ 140737488355328) (hbase : base ≤ w.heap.size) :
    ∃ v' w', (Builtin.append_ #[t, t] ty #[v, u]).run P w = .ok v' w' ∧ w'.ownsRow base e 1 v' (n + m) (xs ++ news) ∧ w.grownBy w' v.ownBlock ∧ (v'.ownBlock = v.ownBlock ∨ v'.ownBlock = some w.heap.size) := by
  obtain ⟨A, c, rfl, hl, hA⟩ := hs
  rcases hA with ⟨rfl, rfl⟩ | ⟨ad, rfl, hc⟩
  · obtain rfl : news = [] := List.eq_nil_of_length_eq_zero hl
    refine ⟨v, w, ?_, by simpa using hown, World.grownBy.refl w _, .inl rfl⟩
    rcases hown.2 with ⟨rfl, rfl⟩ | ⟨g, cap, cur, rfl, _, _, hnc, _⟩
    · simp [Builtin.append_, run_underlying ht, sizeOf, typeInfo, hi, Builtin.lenOf, Builtin.firstCells]
    · simp [Builtin.append_, run_underlying ht, sizeOf, typeInfo, hi, Builtin.lenOf, Builtin.firstCells, hnc, storeCells]
  · obtain ⟨v', w', hr, h2, h3, -, h4⟩ := run_append_own_at (P := P) w base t ty e i z 1 bytes ht hi hz hsize hby hzs (by decide) v n xs hown ad m c news (by omega) hc h1 h63 hbytes hbase
    exact ⟨v', w', hr, h2, h3, h4⟩

/-- The same, as one step of a drawn region. -/
theorem step_append_src {P : Program} {ops : Array Oper} {o : Oper} {a : Act} {w : World} {K : Act → World → Prop} {Q : Exit → Act → World → Prop} {E : Prop}
    (hgd : o.guard = none) (s x : Operand) (t : Nat) (ho : o.op = .call { callee := .builtin .append, args := #[s, x], argTypes := #[t, t] })
    (base e : Nat) (i : TypeInfo) (z : Value) (bytes : Nat) (ht : P.underlying t = some (.slice e)) (hi : P.info? e = some i) (hz : i.zero = some z)
    (hsize : i.size = 1) (hby : i.bytes = bytes) (hzs : z.cells.size = 1) {v : Value} {n : Nat} {xs : List Value} (hv : a.eval s = v) (hown : w.ownsRow base e 1 v n xs) {u : Value} {m : Nat} {news : List Value} (hu : a.eval x = u) (hs : Src w u m news)
    (h1 : ∀ x ∈ news, x.oneCell' = true) (h63 : n + m ≤ maxLen) (hbytes : (n + m) * bytes ≤ 140737488355328) (hbase : base ≤ w.heap.size)
    (h : ∀ v' w', w'.ownsRow base e 1 v' (n + m) (xs ++ news) → w.grownBy w' v.ownBlock → (v'.ownBlock = v.ownBlock ∨ v'.ownBlock = some w.heap.size) → K (a.put o.dst v') w') :
    if Region.wanted o (yielded ops a.tmps) = true then Oper.wp P o a w K Q else E := by
  have hw : Region.wanted o (yielded ops a.tmps) = true := by simp [Region.wanted, hgd]
  rw [if_pos hw]
  obtain ⟨v', w', hr, h2, h3, h4⟩ := run_append_src (P := P) base t o.type e i z bytes ht hi hz hsize hby hzs hown hs h1 h63 hbytes hbase
  unfold Oper.wp
  simp [execOp, ho, resolve, invoke, builtin, hv, hu, hr, Result.andThen]
  exact h v' w' h2 h3 h4

theorem ints_one (l : List Nat) : ∀ u ∈ ints l, u.oneCell' = true := by
  intro u hu
  unfold ints at hu
  obtain ⟨i, _, rfl⟩ := List.mem_map.1 hu
  rfl

theorem ints_len (l : List Nat) : (ints l).length = l.length := by simp [ints]

theorem own_low {w : World} {base base' t n : Nat} {v : Value} {xs : List Value} (h : w.ownsRow base t 1 v n xs) (hb : base' ≤ base) : w.ownsRow base' t 1 v n xs := by
  refine ⟨h.1, ?_⟩
  rcases h.2 with hn | ⟨g, cap, cur, rfl, hg, rest⟩
  · exact .inl hn
  · exact .inr ⟨g, cap, cur, rfl, Nat.le_trans hb hg, rest⟩

theorem Frm.of_below {S : Nat → Prop} {w w' : World} (h : Below w.heap.size w w') : Frm S w w' := ⟨h.os, h.tape, h.output, h.size, fun k hk _ => h.block k hk⟩

/-- The document's rows in memory: the struct's block, the block of the rows' slices, and these. -/
structure IsRx (w : World) (rx bl cap n1 : Nat) (V : Nat → Value) (N M : Nat) (R : Nat → List Nat) : Prop where
  top : Blk w rx 42 2 (fun o => if o = 0 then .int .i64 N else .slice (some ⟨bl, 0, none⟩) M cap)
  arr : Blk w bl 61 M V
  rows : ∀ i, i < M → w.ownsRow n1 3 1 (V i) (R i).length (ints (R i))
  low : rx < n1 ∧ bl < n1 ∧ rx ≠ bl ∧ n1 ≤ w.heap.size
  cap : M ≤ cap ∧ cap ≤ 1000
  small : ∀ i, i < M → (R i).length ≤ 4096

section
variable {w w' : World} {rx bl cap n1 N M : Nat} {V : Nat → Value} {R : Nat → List Nat}

theorem IsRx.c0 (h : IsRx w rx bl cap n1 V N M R) : w.cell? ⟨rx, 0, none⟩ = some (.int .i64 N) := h.top.cell (o := 0) (by omega)
theorem IsRx.c1 (h : IsRx w rx bl cap n1 V N M R) : w.cell? ⟨rx, 1, none⟩ = some (.slice (some ⟨bl, 0, none⟩) M cap) := h.top.cell (o := 1) (by omega)
theorem IsRx.ca (h : IsRx w rx bl cap n1 V N M R) {i : Nat} (hi : i < M) : w.cell? ⟨bl, i, none⟩ = some (V i) := h.arr.cell hi

/-- What is kept where the struct's blocks, and all blocks of rows, are kept. -/
theorem IsRx.of_frm {S : Nat → Prop} (h : IsRx w rx bl cap n1 V N M R) (hF : Frm S w w') (h1 : ¬ S rx) (h2 : ¬ S bl) (h3 : ∀ k, n1 ≤ k → k < w.heap.size → ¬ S k) : IsRx w' rx bl cap n1 V N M R := by
  refine ⟨hF.blk h.top h1, hF.blk h.arr h2, fun i hi => own_of_heap (h.rows i hi) fun k hk => ?_, ⟨h.low.1, h.low.2.1, h.low.2.2.1, Nat.le_trans h.low.2.2.2 hF.size⟩, h.cap, h.small⟩
  have := (h.rows i hi).lt k hk
  exact hF.block k this.2 (h3 k this.1 this.2)

theorem IsRx.below (h : IsRx w rx bl cap n1 V N M R) (hB : Below w.heap.size w w') : IsRx w' rx bl cap n1 V N M R :=
  h.of_frm (S := fun k => w.heap.size ≤ k) ⟨hB.os, hB.tape, hB.output, hB.size, fun k hk _ => hB.block k hk⟩ (by have := h.top.lt; omega) (by have := h.low; omega) (fun k _ hk => by omega)

/-- A row's slice is another one from now on. -/
theorem IsRx.set (h : IsRx w rx bl cap n1 V N M R) (hB : Below w.heap.size w w') {i : Nat} (_hi : i < M) {v : Value} {l : List Nat} (ho : w'.ownsRow n1 3 1 v l.length (ints l)) (hl : l.length ≤ 4096) :
    IsRx (w'.setCell ⟨bl, i, none⟩ v) rx bl cap n1 (upd V i v) N M (updL R i l) := by
  have h' := h.below hB
  have hk : ∀ {v : Value} {l : List Nat}, w'.ownsRow n1 3 1 v l.length (ints l) → (w'.setCell ⟨bl, i, none⟩ v).ownsRow n1 3 1 v l.length (ints l) := fun ho => own_of_heap ho fun k hk => Below.heap_setCell _ _ _ _ (by have := (ho.lt k hk).1; have := h.low; simp only []; omega)
  refine ⟨h'.top.other h.low.2.2.1 _ _, h'.arr.set i v, fun j hj => ?_, by simpa using h'.low, h.cap, fun j hj => ?_⟩
  · by_cases e : j = i
    · subst e
      rw [upd_same]
      unfold updL
      rw [if_pos rfl]
      exact hk ho
    · rw [upd_other _ _ e]
      unfold updL
      rw [if_neg e]
      refine own_of_heap (h'.rows j hj) fun k hk => Below.heap_setCell _ _ _ _ (by have := ((h'.rows j hj).lt k hk).1; have := h.low; simp only []; omega)
  · unfold updL
    split
    · exact hl
    · exact h.small j hj
end
end Go.Proofs.Ytgjgcobkppmafaa
