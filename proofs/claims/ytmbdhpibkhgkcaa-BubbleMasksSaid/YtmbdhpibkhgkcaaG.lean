/- The forest in memory (package bubble): its cells, single steps on bubbles in a drawn region. No condition. -/
import Derived.Test.YtmbdhpibkhgkcaaF
namespace Go.Proofs.Ytmbdhpibkhgkcaa
open Go.RowKit

/-- The cells of so many tasks. -/
def flat (ts : Nat → Bk) (n : Nat) : List Value := (List.range (n * 19)).map fun j => .int (buKind (j % 19)) (ts (j / 19) (j % 19))

theorem flat_len (ts : Nat → Bk) (n : Nat) : (flat ts n).length = n * 19 := by simp [flat]
theorem flat_at (ts : Nat → Bk) {n i o : Nat} (hi : i < n) (ho : o < 19) : (flat ts n)[i * 19 + o]? = some (.int (buKind o) (ts i o)) := by
  have h : i * 19 + o < n * 19 := by omega
  unfold flat
  rw [List.getElem?_map, List.getElem?_range h]
  simp only [Option.map_some]
  rw [show (i * 19 + o) / 19 = i by omega, show (i * 19 + o) % 19 = o by omega]

def updT (ts : Nat → Bk) (i : Nat) (t : Bk) : Nat → Bk := fun k => if k = i then t else ts k
theorem updT_same (ts : Nat → Bk) (i : Nat) (t : Bk) : updT ts i t i = t := by simp [updT]
theorem updT_other (ts : Nat → Bk) {i k : Nat} (t : Bk) (h : k ≠ i) : updT ts i t k = ts k := by simp [updT, h]

theorem flat_more (ts : Nat → Bk) (n : Nat) (t : Bk) : flat ts n ++ (buArr t).toList = flat (updT ts n t) (n + 1) := by
  apply List.ext_getElem?
  intro j
  by_cases hj : j < n * 19
  · rw [List.getElem?_append_left (by rw [flat_len]; exact hj)]
    have e : j = j / 19 * 19 + j % 19 := by omega
    rw [e, flat_at ts (i := j / 19) (by omega) (by omega), flat_at _ (i := j / 19) (by omega) (by omega), updT_other _ _ (by omega)]
  · rw [List.getElem?_append_right (by rw [flat_len]; omega), flat_len]
    by_cases h2 : j < (n + 1) * 19
    · have e : j = n * 19 + (j - n * 19) := by omega
      have h3 : (flat (updT ts n t) (n + 1))[n * 19 + (j - n * 19)]? = _ := flat_at (updT ts n t) (i := n) (by omega) (by omega)
      rw [← e] at h3
      rw [h3, updT_same]
      have := buArr_at t (o := j - n * 19) (by omega)
      simpa using this
    · rw [List.getElem?_eq_none (by simp [buArr]; omega), List.getElem?_eq_none (by rw [flat_len]; omega)]

def setL (xs : List Value) : Nat → List Value → List Value
  | _, [] => xs
  | o, v :: vs => setL (xs.set o v) (o + 1) vs

theorem setL_len : ∀ (vs xs : List Value) (o : Nat), (setL xs o vs).length = xs.length
  | [], _, _ => rfl
  | v :: vs, xs, o => by
    unfold setL
    rw [setL_len vs, List.length_set]

theorem setL_at : ∀ (vs xs : List Value) (o k : Nat), o + vs.length ≤ xs.length → (setL xs o vs)[k]? = if o ≤ k ∧ k < o + vs.length then vs[k - o]? else xs[k]?
  | [], xs, o, k, _ => by
    unfold setL
    rw [if_neg (by first | (simp; done) | (simp; omega))]
  | v :: vs, xs, o, k, h => by
    simp only [List.length_cons] at h
    unfold setL
    rw [setL_at vs (xs.set o v) (o + 1) k (by rw [List.length_set]; omega), List.getElem?_set]
    simp only [List.length_cons]
    by_cases e : o = k
    · subst e
      rw [if_neg (by omega), if_pos rfl, if_pos (by omega), if_pos (by omega), Nat.sub_self]
      rfl
    · rw [if_neg e]
      by_cases h1 : o + 1 ≤ k ∧ k < o + 1 + vs.length
      · rw [if_pos h1, if_pos (by omega), show k - o = (k - (o + 1)) + 1 by omega]
        rfl
      · rw [if_neg h1, if_neg (by omega)]

theorem own_setCells {base e sz g n cap : Nat} : ∀ (vs : List Value) (o : Nat) (w : World) (xs : List Value), w.ownsRow base e sz (.slice (some ⟨g, 0, none⟩) n cap) n xs → (w.setCells g o vs).ownsRow base e sz (.slice (some ⟨g, 0, none⟩) n cap) n (setL xs o vs)
  | [], _, _, _, h => h
  | v :: vs, o, w, xs, h => own_setCells vs (o + 1) (w.setCell ⟨g, o, none⟩ v) (xs.set o v) (h.stored o v).1

theorem flat_set (ts : Nat → Bk) {n i : Nat} (hi : i < n) (t : Bk) : setL (flat ts n) (i * 19) (buArr t).toList = flat (updT ts i t) n := by
  apply List.ext_getElem?
  intro k
  have hl : (buArr t).toList.length = 19 := by rw [Array.length_toList, buArr_size]
  rw [setL_at _ _ _ _ (by rw [hl, flat_len]; omega), hl]
  by_cases hk : k < n * 19
  · have ek : k = k / 19 * 19 + k % 19 := by omega
    by_cases h1 : i * 19 ≤ k ∧ k < i * 19 + 19
    · have e1 : k / 19 = i := by omega
      have h3 : (flat (updT ts i t) n)[i * 19 + (k - i * 19)]? = _ := flat_at (updT ts i t) (i := i) hi (by omega)
      rw [show i * 19 + (k - i * 19) = k by omega, updT_same] at h3
      rw [if_pos h1, h3, Array.getElem?_toList, buArr_at t (by omega)]
    · rw [if_neg h1]
      conv => lhs; rw [ek]
      conv => rhs; rw [ek]
      rw [flat_at ts (i := k / 19) (by omega) (by omega), flat_at _ (i := k / 19) (by omega) (by omega), updT_other _ _ (by omega)]
  · rw [if_neg (by omega), List.getElem?_eq_none (by rw [flat_len]; omega), List.getElem?_eq_none (by rw [flat_len]; omega)]
theorem Try.info35 : (Try.prog.info? 35).map (fun i => (i.zero, i.size, i.bytes)) = some (some (buV bk0), 19, 152) := by kernel_rfl

theorem fill_one (t : Bk) (zs : Array Value) (hz : zs.size = 19) : Instr.fill (fun i => some (i * 19, 19)) zs [(0, buV t)] = some (buArr t) := by
  have h := Great.fill_whole (s := 19) (by omega) [buV t] zs (fun v hv => by
    rw [List.mem_singleton] at hv
    rw [hv]
    exact buArr_size t) (by simp [hz])
  have e : ([buV t].zipIdx 0).map (fun x => (x.2, x.1)) = [(0, buV t)] := rfl
  rw [e] at h
  rw [h]
  simp [buV, Value.cells]

theorem yields35 {a : Act} {o : Oper} {w : World} {V : Array Value} (x : Operand) (ho : o.op = .load 35 x) (A : Nat) (hx : a.eval x = .pointer (some ⟨A, 0, none⟩)) (hg : w.heap[A]? = some (.cells V 35 (0, 0))) (h1 : (Try.prog.info? 35).map (·.size) = some V.size) :
    (execOp a.eval o).run Try.prog w = .ok (.value (.agg V)) w := by
  unfold execOp
  simp only [ho, hx, Instr.loadAt, Instr.sureAddr, Sem.run_bind, Sem.run_pure, Result.andThen_ok, run_loadVar_row w A 35 35 V (0, 0) _ hg Try.underlying35 rfl h1]

/-- A slice of one task. -/
theorem step_build1 {ops : Array Oper} {o : Oper} {a : Act} {w : World} {K : Act → World → Prop} {Q : Exit → Act → World → Prop} {E : Prop}
    (hgd : o.guard = none) (x : Operand) (ho : o.op = .buildSlice 43 1 #[(0, x)]) (t : Bk) (hx : a.eval x = buV t)
    (h : K (a.put o.dst (.slice (some ⟨w.heap.size, 0, none⟩) 1 1)) (w.alloc (.cells (buArr t) 35))) :
    if Region.wanted o (yielded ops a.tmps) = true then Oper.wp Try.prog o a w K Q else E := by
  have hw : Region.wanted o (yielded ops a.tmps) = true := by simp [Region.wanted, hgd]
  rw [if_pos hw]
  obtain ⟨i, hi, hz, hs, hb⟩ := info_parts Try.info35
  refine wp_buildSlice 43 35 1 #[(0, x)] ho (buArr t) i (buV bk0) Try.underlying43 hi hz (by rw [hs]; omega) (by rw [hs]; omega) ?_ h
  rw [hs]
  simp only [List.map_toArray, List.map_cons, List.map_nil, hx]
  exact fill_one t _ (by simp)

/-- A task read whole. -/
theorem step_load35 {ops : Array Oper} {o : Oper} {a : Act} {w : World} {K : Act → World → Prop} {Q : Exit → Act → World → Prop} {E : Prop}
    (hgd : o.guard = none) (x : Operand) (ho : o.op = .load 35 x) (t : Bk) (A : Nat) (hx : a.eval x = .pointer (some ⟨A, 0, none⟩)) (hg : w.heap[A]? = some (.cells (buArr t) 35 (0, 0)))
    (h : K (a.put o.dst (buV t)) w) :
    if Region.wanted o (yielded ops a.tmps) = true then Oper.wp Try.prog o a w K Q else E := by
  have hw : Region.wanted o (yielded ops a.tmps) = true := by simp [Region.wanted, hgd]
  rw [if_pos hw]
  exact wp_load_row 35 x ho A hx 35 (buArr t) (0, 0) _ hg Try.underlying35 rfl (size35 t) h

/-- One task is appended. -/
theorem step_append35 {ops : Array Oper} {o : Oper} {a : Act} {w : World} {K : Act → World → Prop} {Q : Exit → Act → World → Prop} {E : Prop}
    (hgd : o.guard = none) (s x : Operand) (ho : o.op = .call { callee := .builtin .append, args := #[s, x], argTypes := #[43, 43] })
    (base : Nat) {v : Value} {n : Nat} {ts : Nat → Bk} (t : Bk) (hv : a.eval s = v) (hown : w.ownsRow base 35 19 v n (flat ts n)) (A : Nat) (hx : a.eval x = .slice (some ⟨A, 0, none⟩) 1 1) (hg : w.heap[A]? = some (.cells (buArr t) 35 (0, 0)))
    (hn : n ≤ 1000) (hbase : base ≤ w.heap.size)
    (h : ∀ v' w', w'.ownsRow base 35 19 v' (n + 1) (flat (updT ts n t) (n + 1)) → w.grownBy w' v.ownBlock → (v'.ownBlock = v.ownBlock ∨ v'.ownBlock = some w.heap.size) → K (a.put o.dst v') w') :
    if Region.wanted o (yielded ops a.tmps) = true then Oper.wp Try.prog o a w K Q else E := by
  have hw : Region.wanted o (yielded ops a.tmps) = true := by simp [Region.wanted, hgd]
  rw [if_pos hw]
  obtain ⟨i, hi, hz, hs, hb⟩ := info_parts Try.info35
  obtain ⟨v', w', hr, h2, h3, -, h4⟩ := run_append_own_at (P := Try.prog) w base 43 o.type 35 i (buV bk0) 19 152 Try.underlying43 hi hz hs hb (buArr_size bk0) (by omega) v n (flat ts n) hown ⟨A, 0, none⟩ 1 1 (buArr t).toList (by simp [buArr]) (fun j u hu => by
    have hadd : (⟨A, 0, none⟩ : Addr).add j = ⟨A, j, none⟩ := by unfold Addr.add; split <;> simp_all
    rw [hadd, cell_of_row w A j _ _ _ hg]
    simpa using hu) (fun u hu => by
    have := one35 t
    rw [Array.all_eq_true_iff_forall_mem] at this
    exact this u (by simpa using hu)) (by simp only [maxLen]; omega) (by omega) hbase
  unfold Oper.wp
  simp [execOp, ho, resolve, invoke, builtin, hv, hx, hr, Result.andThen]
  exact h v' w' (by rw [← flat_more]; exact h2) h3 h4
end Go.Proofs.Ytmbdhpibkhgkcaa
