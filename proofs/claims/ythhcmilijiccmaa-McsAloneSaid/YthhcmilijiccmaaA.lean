/- A row that may begin amid its block: how it grows at its end. No condition. -/
import Derived.Laws.AppendOwn
import Derived.Deep.MidRow
namespace Go

/-- A value that owns the elements xs, each of one cell, from some place of its block on. -/
def World.qRow (w : World) (base : Nat) (e : TypeId) (v : Value) (xs : List Value) : Prop :=
  (v = .slice none 0 0 ∧ xs = []) ∨
  ∃ g off cap cur, v = .slice (some ⟨g, off, none⟩) xs.length cap ∧ base ≤ g ∧ w.heap[g]? = some (.cells cur e (0, 0)) ∧ xs.length ≤ cap ∧ cap ≤ maxLen ∧ off + cap ≤ cur.size ∧ ∀ j u, xs[j]? = some u → cur[off + j]? = some u

theorem World.qRow_nil (w : World) (base : Nat) (e : TypeId) : w.qRow base e (.slice none 0 0) [] := .inl ⟨rfl, rfl⟩

theorem World.qRow.form {w : World} {base : Nat} {e : TypeId} {v : Value} {xs : List Value} (h : w.qRow base e v xs) : ∃ a cap, v = .slice a xs.length cap ∧ xs.length ≤ cap := by
  rcases h with ⟨rfl, rfl⟩ | ⟨g, off, cap, cur, rfl, _, _, h, _⟩
  · exact ⟨none, 0, rfl, Nat.le_refl _⟩
  · exact ⟨_, _, rfl, h⟩

theorem World.qRow.lt {w : World} {base : Nat} {e : TypeId} {v : Value} {xs : List Value} (h : w.qRow base e v xs) : ∀ k, v.ownBlock = some k → base ≤ k ∧ k < w.heap.size := by
  intro k hk
  rcases h with ⟨rfl, _⟩ | ⟨g, off, cap, cur, rfl, hb, hg, _⟩
  · simp [Value.ownBlock] at hk
  · simp [Value.ownBlock] at hk
    subst hk
    exact ⟨hb, (Array.getElem?_eq_some_iff.1 hg).1⟩

theorem World.qRow.of_heap {w w' : World} {base : Nat} {e : TypeId} {v : Value} {xs : List Value} (h : w.qRow base e v xs) (hh : ∀ k, v.ownBlock = some k → w'.heap[k]? = w.heap[k]?) : w'.qRow base e v xs := by
  rcases h with h | ⟨g, off, cap, cur, rfl, hb, hg, rest⟩
  · exact .inl h
  · exact .inr ⟨g, off, cap, cur, rfl, hb, (hh g rfl).trans hg, rest⟩

/-- The one at its head, and the row behind it. -/
theorem World.qRow.head {w : World} {base : Nat} {e : TypeId} {v x : Value} {xs : List Value} (h : w.qRow base e v (x :: xs)) :
    ∃ g off cap, v = .slice (some ⟨g, off, none⟩) (xs.length + 1) cap ∧ xs.length + 1 ≤ cap ∧ base ≤ g ∧ w.cell? ⟨g, off, none⟩ = some x ∧ w.qRow base e (.slice (some ⟨g, off + 1, none⟩) xs.length (cap - 1)) xs ∧ (cap - 1 = 0 → w.qRow base e (.slice (some ⟨g, off, none⟩) xs.length 0) xs) := by
  rcases h with ⟨_, h⟩ | ⟨g, off, cap, cur, rfl, hb, hg, h1, h2, h3, h4⟩
  · cases h
  · simp only [List.length_cons] at *
    refine ⟨g, off, cap, rfl, h1, hb, ?_, .inr ⟨g, off + 1, cap - 1, cur, rfl, hb, hg, by omega, by omega, by omega, fun j u hu => ?_⟩, fun hc => .inr ⟨g, off, 0, cur, rfl, hb, hg, by omega, by omega, by omega, fun j u hu => ?_⟩⟩
    · rw [cell_of_row w g off cur e (0, 0) hg]
      exact h4 0 x rfl
    · have := h4 (j + 1) u (by simpa using hu)
      rw [← this]
      congr 1
      omega
    · have := (List.getElem?_eq_some_iff.1 hu).1
      omega

section
variable {P : Program} (w : World)

theorem run_append_q (base : Nat) (t ty e : TypeId) (i : TypeInfo) (z : Value) (bytes : Nat) (ht : P.underlying t = some (.slice e)) (hi : P.info? e = some i) (hz : i.zero = some z)
    (hsize : i.size = 1) (hby : i.bytes = bytes) (hzs : z.cells.size = 1)
    (v : Value) (xs : List Value) (hown : w.qRow base e v xs)
    (a : Addr) (c : Nat) (x : Value) (hx : w.cell? a = some x) (h1 : x.oneCell' = true)
    (h63 : xs.length + 1 ≤ maxLen) (hbytes : (xs.length + 1) * bytes ≤ 140737488355328) (hbase : base ≤ w.heap.size) :
    ∃ v' w', (Builtin.append_ #[t, t] ty #[v, .slice (some a) 1 c]).run P w = .ok v' w' ∧ w'.qRow base e v' (xs ++ [x]) ∧ w.grownBy w' v.ownBlock ∧ (v'.ownBlock = v.ownBlock ∨ v'.ownBlock = some w.heap.size) := by
  subst hby
  have hsmall : xs.length + 1 ≤ 9223372036854775807 := by simp only [maxLen] at h63; omega
  have hnews : ∀ j u, [x][j]? = some u → w.cell? (a.add j) = some u := by
    intro j u hu
    cases j with
    | zero =>
      have : a.add 0 = a := by unfold Addr.add; split <;> simp_all
      rw [this, hx]; simpa using hu
    | succ j => simp at hu
  have grown : ∀ (old : Nat) (row : Option Nat),
      (w.drew.alloc (.cells (xs.toArray ++ #[x] ++ Builtin.zeroCells z.cells (grownCap w (xs.length + 1) old e - (xs.length + 1))) e)).qRow base e
        (.slice (some ⟨w.heap.size, 0, none⟩) (xs.length + 1) (grownCap w (xs.length + 1) old e)) (xs ++ [x]) ∧
      w.grownBy (w.drew.alloc (.cells (xs.toArray ++ #[x] ++ Builtin.zeroCells z.cells (grownCap w (xs.length + 1) old e - (xs.length + 1))) e)) row := by
    intro old row
    have hge := grownCap_ge w (xs.length + 1) old e
    have hcm : grownCap w (xs.length + 1) old e ≤ maxLen := grownCap_le_maxLen w (xs.length + 1) old e h63
    refine ⟨.inr ⟨w.heap.size, 0, _, _, by simp, hbase, heap_alloc_new w.drew _, by simpa using hge, hcm, ?_, fun j u hu => ?_⟩, ⟨rfl, rfl, rfl, by simp, fun k hk _ => heap_alloc_old w.drew _ k hk⟩⟩
    · simp only [Array.size_append, List.size_toArray, size_zeroCells, hzs]
      simp
      omega
    · have hj : j < xs.length + 1 := by have := (List.getElem?_eq_some_iff.1 hu).1; simpa using this
      rw [Nat.zero_add, Array.getElem?_append_left (by simp; omega), ← hu]
      have : xs.toArray ++ #[x] = (xs ++ [x]).toArray := by simp
      rw [this]
      simp
  rcases hown with ⟨rfl, rfl⟩ | ⟨g, off, cap, cur, rfl, hbg, hg, hnc, hcm, hcs, hxs⟩
  · have hr := run_append_nil (P := P) w t ty e i z ht hi hz a 1 c [x] (by simp [hsize]) hnews (by omega) (by omega) (by have := hbytes; simp only [List.length_nil, Nat.zero_add] at this ⊢; omega)
    have hgr := grown 0 (Value.ownBlock (.slice none 0 0))
    simp only [List.length_nil, Nat.zero_add, List.nil_append, Array.empty_append] at hgr
    exact ⟨_, _, hr, by simpa using hgr.1, by simpa using hgr.2, .inr rfl⟩
  · have hadd : ∀ j, (⟨g, off, none⟩ : Addr).add j = ⟨g, off + j, none⟩ := Addr.add_mid g off
    by_cases hroom : xs.length + 1 ≤ cap
    · have hf := run_firstCells_some (P := P) w i.size 1 a 1 c [x] (by simp [hsize]) hnews
      have hst := run_storeCells_at P g (off + xs.length * i.size) e [x] 0 cur w hg (by simp [hsize]; omega) (by simpa using h1)
      simp only [Nat.add_zero] at hst
      have hr : (Builtin.append_ #[t, t] ty #[.slice (some ⟨g, off, none⟩) xs.length cap, .slice (some a) 1 c]).run P w =
          .ok (.slice (some ⟨g, off, none⟩) (xs.length + 1) cap) (w.setRow g (cur.toList.take (off + xs.length * i.size) ++ [x] ++ cur.toList.drop (off + xs.length * i.size + [x].length)).toArray) := by
        simp [Builtin.append_, run_underlying ht, sizeOf, typeInfo, hi, Builtin.lenOf, hroom, hf, hadd, hst]
      refine ⟨_, _, hr, .inr ⟨g, off, cap, _, by simp, hbg, setRow_heap w g cur _ e _ hg, by simpa using hroom, hcm, ?_, fun j u hu => ?_⟩, ⟨rfl, rfl, rfl, by simp, fun k _ hk => setRow_other w g k _ (fun e => hk (by simp [Value.ownBlock, e]))⟩, .inl rfl⟩
      · simp only [List.size_toArray, List.length_append, List.length_take, List.length_drop, Array.length_toList, hsize, List.length_singleton]
        omega
      · have hj : j < xs.length + 1 := by have := (List.getElem?_eq_some_iff.1 hu).1; simpa using this
        have htk : (List.take (off + xs.length * i.size) cur.toList).length = off + xs.length := by
          have hcl : cur.toList.length = cur.size := rfl
          rw [List.length_take, hcl, hsize]; omega
        simp only [List.getElem?_toArray]
        by_cases hj2 : j < xs.length
        · rw [List.append_assoc, List.getElem?_append_left (show off + j < (List.take (off + xs.length * i.size) cur.toList).length by rw [htk]; omega), List.getElem?_take_of_lt (by rw [hsize]; omega)]
          rw [List.getElem?_append_left hj2] at hu
          simpa using hxs j u hu
        · obtain rfl : j = xs.length := by omega
          rw [List.getElem?_append_left (by rw [List.length_append, htk]; simp), List.getElem?_append_right (by omega), htk]
          simpa using hu
    · have holds : ∀ j u, xs[j]? = some u → w.cell? ((⟨g, off, none⟩ : Addr).add j) = some u := by
        intro j u hu
        rw [hadd, cell_of_row w g _ cur e (0, 0) hg]
        exact hxs j u hu
      have hr := run_append_grow (P := P) w t ty e i z ht hi hz ⟨g, off, none⟩ xs.length cap xs (by simp [hsize]) holds a 1 c [x] (by simp [hsize]) hnews (by omega) (by omega) (growslice_fits (by omega) hbytes)
      have hgr := grown cap (Value.ownBlock (.slice (some ⟨g, off, none⟩) xs.length cap))
      exact ⟨_, _, hr, hgr.1, hgr.2, .inr rfl⟩

theorem wpList_append_q {ops : Array Oper} {rest : List Oper} {o : Oper} {a : Act} {Q : Exit → Act → World → Prop} (hgd : o.guard = none) (s x : Operand) (t : TypeId)
    (ho : o.op = .call { callee := .builtin .append, args := #[s, x], argTypes := #[t, t] })
    (base : Nat) (e : TypeId) (i : TypeInfo) (z : Value) (bytes : Nat) (ht : P.underlying t = some (.slice e)) (hi : P.info? e = some i) (hz : i.zero = some z)
    (hsize : i.size = 1) (hby : i.bytes = bytes) (hzs : z.cells.size = 1)
    (v : Value) (xs : List Value) (hs : a.eval s = v) (hown : w.qRow base e v xs)
    (ad : Addr) (c : Nat) (new : Value) (hx : a.eval x = .slice (some ad) 1 c) (hnew : w.cell? ad = some new) (h1 : new.oneCell' = true)
    (h63 : xs.length + 1 ≤ maxLen) (hbytes : (xs.length + 1) * bytes ≤ 140737488355328) (hbase : base ≤ w.heap.size)
    (h : ∀ v' w', w'.qRow base e v' (xs ++ [new]) → w.grownBy w' v.ownBlock → (v'.ownBlock = v.ownBlock ∨ v'.ownBlock = some w.heap.size) → wpList P ops Q rest (a.put o.dst v') w') : wpList P ops Q (o :: rest) a w :=
  wpList_plain hgd fun _ hK => by
    obtain ⟨v', w', hr, h2, h3, h4⟩ := run_append_q (P := P) w base t o.type e i z bytes ht hi hz hsize hby hzs v xs hown ad c new hnew h1 h63 hbytes hbase
    unfold Oper.wp execOp
    simp only [ho, resolve, invoke, builtin, Sem.run_bind, Sem.run_pure, Result.andThen_ok, List.map_toArray, List.map_cons, List.map_nil, hs, hx, hr]
    exact hK _ _ (h v' w' h2 h3 h4)
end
end Go
