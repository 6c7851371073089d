/- The document's table in memory (package pinfoldref12), and append of slices of structs. No condition. -/
import Derived.Test.YtedhhohnbekelaaTa
import Derived.Deep.AppendLies
import Derived.Outline
namespace Go.Proofs.Ytedhhohnbekelaa
open Go.RowKit Go.Deep

/-- A slice whose m elements of sz cells are news; no place is asked of an empty one. -/
def SrcN (w : World) (v : Value) (m sz : Nat) (news : List Value) : Prop :=
  ∃ A c, v = .slice A m c ∧ news.length = m * sz ∧ ((A = none ∧ m = 0) ∨ ∃ ad : Addr, A = some ad ∧ ∀ j u, news[j]? = some u → w.cell? (ad.add j) = some u)

theorem SrcN.own {w : World} {base t sz n : Nat} {v : Value} {xs : List Value} (h : w.ownsRow base t sz v n xs) : SrcN w v n sz xs := by
  rcases h.2 with ⟨rfl, rfl⟩ | ⟨g, cap, cur, rfl, _⟩
  · exact ⟨none, 0, rfl, by simpa using h.1, .inl ⟨rfl, rfl⟩⟩
  · exact ⟨_, cap, rfl, by simpa using h.1, .inr ⟨_, rfl, h.cells (g := g) rfl⟩⟩

theorem SrcN.below {w w' : World} {v : Value} {m sz : Nat} {news : List Value} (h : SrcN w v m sz news) (hb : Below w.heap.size w w') : SrcN w' v m sz news := by
  obtain ⟨A, c, h1, h2, h3⟩ := h
  refine ⟨A, c, h1, h2, ?_⟩
  rcases h3 with h3 | ⟨ad, h3, h4⟩
  · exact .inl h3
  · refine .inr ⟨ad, h3, fun j u hu => ?_⟩
    have h5 := h4 j u hu
    exact (hb.cell (World.block_lt_of_cell? _ _ h5)).trans h5

/-- append of what a slice has, behind a row of the call's own: what it answers with. -/
theorem run_append_srcN {P : Program} {w : World} (base t ty e : Nat) (i : TypeInfo) (z : Value) (sz bytes : Nat) (ht : P.underlying t = some (.slice e)) (hi : P.info? e = some i) (hz : i.zero = some z)
    (hsize : i.size = sz) (hby : i.bytes = bytes) (hzs : z.cells.size = sz) (hs0 : 0 < sz) {v : Value} {n : Nat} {xs : List Value} (hown : w.ownsRow base e sz v n xs) {u : Value} {m : Nat} {news : List Value} (hs : SrcN w u m sz news)
    (h1 : ∀ x ∈ news, x.oneCell' = true) (h63 : n + m ≤ maxLen) (hbytes : (n + m) * bytes ≤ 140737488355328) (hbase : base ≤ w.heap.size) :
    ∃ v' w', (Builtin.append_ #[t, t] ty #[v, u]).run P w = .ok v' w' ∧ w'.ownsRow base e sz v' (n + m) (xs ++ news) ∧ w.grownBy w' v.ownBlock ∧ (v'.ownBlock = v.ownBlock ∨ v'.ownBlock = some w.heap.size) := by
  obtain ⟨A, c, rfl, hl, hA⟩ := hs
  rcases hA with ⟨rfl, rfl⟩ | ⟨ad, rfl, hc⟩
  · obtain rfl : news = [] := List.eq_nil_of_length_eq_zero (by rw [hl]; omega)
    refine ⟨v, w, ?_, by simpa using hown, World.grownBy.refl w _, .inl rfl⟩
    rcases hown.2 with ⟨rfl, rfl⟩ | ⟨g, cap, cur, rfl, _, _, hnc, _⟩
    · simp [Builtin.append_, run_underlying ht, sizeOf, typeInfo, hi, Builtin.lenOf, Builtin.firstCells]
    · simp [Builtin.append_, run_underlying ht, sizeOf, typeInfo, hi, Builtin.lenOf, Builtin.firstCells, hnc, storeCells]
  · obtain ⟨v', w', hr, h2, h3, -, h4⟩ := run_append_own_at (P := P) w base t ty e i z sz bytes ht hi hz hsize hby hzs hs0 v n xs hown ad m c news (by omega) hc h1 h63 hbytes hbase
    exact ⟨v', w', hr, h2, h3, h4⟩

/-- The same, as one step of a drawn region. -/
theorem step_append_srcN {P : Program} {ops : Array Oper} {o : Oper} {a : Act} {w : World} {K : Act → World → Prop} {Q : Exit → Act → World → Prop} {E : Prop}
    (hgd : o.guard = none) (s x : Operand) (t : Nat) (ho : o.op = .call { callee := .builtin .append, args := #[s, x], argTypes := #[t, t] })
    (base e : Nat) (i : TypeInfo) (z : Value) (sz bytes : Nat) (ht : P.underlying t = some (.slice e)) (hi : P.info? e = some i) (hz : i.zero = some z)
    (hsize : i.size = sz) (hby : i.bytes = bytes) (hzs : z.cells.size = sz) (hs0 : 0 < sz) {v : Value} {n : Nat} {xs : List Value} (hv : a.eval s = v) (hown : w.ownsRow base e sz v n xs) {u : Value} {m : Nat} {news : List Value} (hu : a.eval x = u) (hs : SrcN w u m sz news)
    (h1 : ∀ x ∈ news, x.oneCell' = true) (h63 : n + m ≤ maxLen) (hbytes : (n + m) * bytes ≤ 140737488355328) (hbase : base ≤ w.heap.size)
    (h : ∀ v' w', w'.ownsRow base e sz v' (n + m) (xs ++ news) → w.grownBy w' v.ownBlock → (v'.ownBlock = v.ownBlock ∨ v'.ownBlock = some w.heap.size) → K (a.put o.dst v') w') :
    if Region.wanted o (yielded ops a.tmps) = true then Oper.wp P o a w K Q else E := by
  have hw : Region.wanted o (yielded ops a.tmps) = true := by simp [Region.wanted, hgd]
  rw [if_pos hw]
  obtain ⟨v', w', hr, h2, h3, h4⟩ := run_append_srcN (P := P) base t o.type e i z sz bytes ht hi hz hsize hby hzs hs0 hown hs h1 h63 hbytes hbase
  unfold Oper.wp
  simp [execOp, ho, resolve, invoke, builtin, hv, hu, hr, Result.andThen]
  exact h v' w' h2 h3 h4

/-- The same, in a region that draws nothing. -/
theorem wpList_append_srcN {P : Program} {ops : Array Oper} {rest : List Oper} {o : Oper} {a : Act} {w : World} {Q : Exit → Act → World → Prop}
    (hgd : o.guard = none) (s x : Operand) (t : Nat) (ho : o.op = .call { callee := .builtin .append, args := #[s, x], argTypes := #[t, t] })
    (base e : Nat) (i : TypeInfo) (z : Value) (sz bytes : Nat) (ht : P.underlying t = some (.slice e)) (hi : P.info? e = some i) (hz : i.zero = some z)
    (hsize : i.size = sz) (hby : i.bytes = bytes) (hzs : z.cells.size = sz) (hs0 : 0 < sz) {v : Value} {n : Nat} {xs : List Value} (hv : a.eval s = v) (hown : w.ownsRow base e sz v n xs) {u : Value} {m : Nat} {news : List Value} (hu : a.eval x = u) (hs : SrcN w u m sz news)
    (h1 : ∀ x ∈ news, x.oneCell' = true) (h63 : n + m ≤ maxLen) (hbytes : (n + m) * bytes ≤ 140737488355328) (hbase : base ≤ w.heap.size)
    (h : ∀ v' w', w'.ownsRow base e sz v' (n + m) (xs ++ news) → w.grownBy w' v.ownBlock → (v'.ownBlock = v.ownBlock ∨ v'.ownBlock = some w.heap.size) → wpList P ops Q rest (a.put o.dst v') w') :
    wpList P ops Q (o :: rest) a w := wpList_plain hgd fun _ hK => by
  obtain ⟨v', w', hr, h2, h3, h4⟩ := run_append_srcN (P := P) base t o.type e i z sz bytes ht hi hz hsize hby hzs hs0 hown hs h1 h63 hbytes hbase
  unfold Oper.wp
  simp [execOp, ho, resolve, invoke, builtin, hv, hu, hr, Result.andThen]
  exact hK _ _ (h v' w' h2 h3 h4)

/-- A slice of no task. -/
theorem step_build0 {ops : Array Oper} {o : Oper} {a : Act} {w : World} {K : Act → World → Prop} {Q : Exit → Act → World → Prop} {E : Prop}
    (hgd : o.guard = none) (ho : o.op = .buildSlice 47 0 #[])
    (h : K (a.put o.dst (.slice (some ⟨w.heap.size, 0, none⟩) 0 0)) (w.alloc (.cells #[] 30))) :
    if Region.wanted o (yielded ops a.tmps) = true then Oper.wp Try.prog o a w K Q else E := by
  have hw : Region.wanted o (yielded ops a.tmps) = true := by simp [Region.wanted, hgd]
  rw [if_pos hw]
  obtain ⟨i, hi, hz, hs, hb⟩ := info_parts Try.info30
  have hr : (Instr.buildSlice 47 0 #[]).run Try.prog w = .ok (.slice (some ⟨w.heap.size, 0, none⟩) 0 0) (w.alloc (.cells #[] 30)) := by
    simp [Instr.buildSlice, run_underlying Try.underlying47, sizeOf, typeInfo, hi, Instr.fill, newRow]
    rw [show Array.map (fun _ => (default : Value)) (Array.range 0) = #[] from Array.eq_empty_of_size_eq_zero (by simp)]
  unfold Oper.wp execOp
  simp only [ho, Sem.run_bind, List.map_toArray, List.map_nil, hr, Result.andThen_ok]
  exact h

/-- The document's table, as it counts. -/
structure Rb where
  n : Nat
  ts : Nat → Tk
  W : List (Nat × Nat)

def prs (W : List (Nat × Nat)) : List Value := W.flatMap fun p => [.int .i64 (p.1 : Nat), .int .i64 (p.2 : Nat)]
theorem prs_len (W : List (Nat × Nat)) : (prs W).length = W.length * 2 := by
  unfold prs
  induction W with
  | nil => rfl
  | cons p W ih => simp only [List.flatMap_cons, List.length_append, ih, List.length_cons, List.length_nil]; omega
theorem prs_at {W : List (Nat × Nat)} : ∀ {k : Nat} {p : Nat × Nat}, W[k]? = some p → (prs W)[k * 2]? = some (.int .i64 (p.1 : Nat)) ∧ (prs W)[k * 2 + 1]? = some (.int .i64 (p.2 : Nat)) := by
  induction W with
  | nil => intro k p h; simp at h
  | cons q W ih =>
    intro k p h
    have e : prs (q :: W) = .int .i64 (q.1 : Nat) :: .int .i64 (q.2 : Nat) :: prs W := rfl
    rw [e]
    cases k with
    | zero => simp at h; subst h; exact ⟨rfl, rfl⟩
    | succ k =>
      have := ih (k := k) (p := p) (by simpa using h)
      rw [show (k + 1) * 2 = k * 2 + 1 + 1 by omega, show k * 2 + 1 + 1 + 1 = (k * 2 + 1) + 1 + 1 by omega]
      simpa using this
theorem prs_more (W : List (Nat × Nat)) (p : Nat × Nat) : prs W ++ [.int .i64 (p.1 : Nat), .int .i64 (p.2 : Nat)] = prs (W ++ [p]) := by simp [prs]
theorem prs_one (W : List (Nat × Nat)) : ∀ x ∈ prs W, x.oneCell' = true := by
  intro x hx
  simp only [prs, List.mem_flatMap, List.mem_cons, List.not_mem_nil, or_false] at hx
  obtain ⟨p, _, rfl | rfl⟩ := hx <;> rfl
theorem flat_one (ts : Nat → Tk) (n : Nat) : ∀ x ∈ flat ts n, x.oneCell' = true := by
  intro x hx
  simp only [flat, List.mem_map] at hx
  obtain ⟨o, _, rfl⟩ := hx
  rfl

def refF (room : Nat) (lv wv : Value) (o : Nat) : Value := if o = 0 then .int .i64 room else if o = 1 then lv else wv
/-- What the document's calls may turn. -/
def RefS (rb : Nat) (lv : Value) : Nat → Prop := fun k => k = rb ∨ some k = lv.ownBlock

/-- The document's table in memory. -/
structure IsRef (w : World) (rb rs : Nat) (lv wv : Value) (room : Nat) (e : Rb) : Prop where
  top : Blk w rb 50 3 (refF room lv wv)
  own : w.ownsRow rs 30 29 lv e.n (flat e.ts e.n)
  wts : w.ownsRow rs 82 2 wv e.W.length (prs e.W)
  low : rb < rs ∧ rs ≤ w.heap.size
  apart : ∀ g, lv.ownBlock = some g → wv.ownBlock ≠ some g
  most : e.n ≤ room ∧ room ≤ 256 ∧ e.W.length ≤ 100

section
variable {w w' : World} {rb rs room : Nat} {lv wv : Value} {e : Rb}

theorem IsRef.of_frm {S : Nat → Prop} (h : IsRef w rb rs lv wv room e) (hF : Frm S w w') (h1 : ¬ S rb) (h2 : ∀ g, lv.ownBlock = some g ∨ wv.ownBlock = some g → ¬ S g) : IsRef w' rb rs lv wv room e :=
  ⟨hF.blk h.top h1, own_of_heap h.own fun k hk => hF.block k (h.own.lt k hk).2 (h2 k (.inl hk)), own_of_heap h.wts fun k hk => hF.block k (h.wts.lt k hk).2 (h2 k (.inr hk)), ⟨h.low.1, Nat.le_trans h.low.2 hF.size⟩, h.apart, h.most⟩
theorem IsRef.below (h : IsRef w rb rs lv wv room e) (hB : Below w.heap.size w w') : IsRef w' rb rs lv wv room e :=
  h.of_frm (S := fun k => w.heap.size ≤ k) ⟨hB.os, hB.tape, hB.output, hB.size, fun k hk _ => hB.block k hk⟩ (by have := h.low; omega) (fun g hg hs => hg.elim (fun e => by have := (h.own.lt g e).2; omega) (fun e => by have := (h.wts.lt g e).2; omega))
theorem IsRef.alloc (h : IsRef w rb rs lv wv room e) (o : Obj) : IsRef (w.alloc o) rb rs lv wv room e := h.below ((Below.refl _ _).alloc (Nat.le_refl _) o)
theorem IsRef.drewN (h : IsRef w rb rs lv wv room e) (k : Nat) : IsRef (w.drewN k) rb rs lv wv room e := h.below (Go.Proofs.Ytedhhohnbekelaa.Below.drewN (Below.refl _ _) k)
theorem IsRef.c0 (h : IsRef w rb rs lv wv room e) : w.cell? ⟨rb, 0, none⟩ = some (.int .i64 room) := h.top.cell (o := 0) (by omega)
theorem IsRef.c1 (h : IsRef w rb rs lv wv room e) : w.cell? ⟨rb, 1, none⟩ = some lv := h.top.cell (o := 1) (by omega)
theorem IsRef.c2 (h : IsRef w rb rs lv wv room e) : w.cell? ⟨rb, 2, none⟩ = some wv := h.top.cell (o := 2) (by omega)
theorem IsRef.lvForm (h : IsRef w rb rs lv wv room e) : ∃ a cap, lv = .slice a e.n cap ∧ (0 < e.n → ∃ g, a = some ⟨g, 0, none⟩) := by
  rcases h.own.2 with ⟨rfl, h0⟩ | ⟨g, cap, cur, rfl, hb, _⟩
  · exact ⟨none, 0, by rw [h0], fun h => by omega⟩
  · exact ⟨_, cap, rfl, fun _ => ⟨g, rfl⟩⟩
theorem IsRef.wvForm (h : IsRef w rb rs lv wv room e) : ∃ a cap, wv = .slice a e.W.length cap ∧ (0 < e.W.length → ∃ g, a = some ⟨g, 0, none⟩) := by
  rcases h.wts.2 with ⟨rfl, h0⟩ | ⟨g, cap, cur, rfl, hb, _⟩
  · exact ⟨none, 0, by rw [h0], fun h => by omega⟩
  · exact ⟨_, cap, rfl, fun _ => ⟨g, rfl⟩⟩
theorem IsRef.cell {g cap : Nat} (h : IsRef w rb rs (.slice (some ⟨g, 0, none⟩) e.n cap) wv room e) {i o : Nat} (hi : i < e.n) (ho : o < 29) : w.cell? ⟨g, i * 29 + o, none⟩ = some (.int (tkKind o) (e.ts i o)) := by
  rw [h.own.cellAt (i * 29 + o) (by omega)]
  exact flat_at e.ts hi ho
theorem IsRef.range {g cap : Nat} (h : IsRef w rb rs (.slice (some ⟨g, 0, none⟩) e.n cap) wv room e) {i : Nat} (hi : i < e.n) : w.rangeAt g (i * 29) (tkArr (e.ts i)).toList := by
  intro j v hv
  have hj : j < 29 := by
    have := (List.getElem?_eq_some_iff.1 hv).1
    rw [Array.length_toList, tkArr_size] at this
    exact this
  rw [h.cell hi hj, ← hv, Array.getElem?_toList, tkArr_at _ hj]
theorem IsRef.wcell {g cap : Nat} (h : IsRef w rb rs lv (.slice (some ⟨g, 0, none⟩) e.W.length cap) room e) {k : Nat} {p : Nat × Nat} (hk : e.W[k]? = some p) : w.cell? ⟨g, k * 2, none⟩ = some (.int .i64 (p.1 : Nat)) ∧ w.cell? ⟨g, k * 2 + 1, none⟩ = some (.int .i64 (p.2 : Nat)) := by
  have hl := (List.getElem?_eq_some_iff.1 hk).1
  have := prs_at hk
  exact ⟨by rw [h.wts.cellAt (k * 2) (by omega)]; exact this.1, by rw [h.wts.cellAt (k * 2 + 1) (by omega)]; exact this.2⟩
end
end Go.Proofs.Ytedhhohnbekelaa
