/- Single operations on tasks within a drawn region. No condition. -/
import Derived.Test.YtedhhohnbekelaaL
import Derived.Test.YtedhhohnbekelaaCut
import Derived.Great.BuildSlice
import Derived.Maps.AppendAt
namespace Go.Proofs.Ytedhhohnbekelaa
open Go.RowKit Go.Deep

theorem Try.info30 : (Try.prog.info? 30).map (fun i => (i.zero, i.size, i.bytes)) = some (some (tkV tk0), 29, 216) := by kernel_rfl

theorem fill_one (t : Tk) (zs : Array Value) (hz : zs.size = 29) : Instr.fill (fun i => some (i * 29, 29)) zs [(0, tkV t)] = some (tkArr t) := by
  have h := Great.fill_whole (s := 29) (by omega) [tkV t] zs (fun v hv => by
    rw [List.mem_singleton] at hv
    rw [hv]
    exact tkArr_size t) (by simp [hz])
  have e : ([tkV t].zipIdx 0).map (fun x => (x.2, x.1)) = [(0, tkV t)] := rfl
  rw [e] at h
  rw [h]
  simp [tkV, Value.cells]

theorem yields30 {a : Act} {o : Oper} {w : World} {V : Array Value} (x : Operand) (ho : o.op = .load 30 x) (A : Nat) (hx : a.eval x = .pointer (some ⟨A, 0, none⟩)) (hg : w.heap[A]? = some (.cells V 30 (0, 0))) (h1 : (Try.prog.info? 30).map (·.size) = some V.size) :
    (execOp a.eval o).run Try.prog w = .ok (.value (.agg V)) w := by
  unfold execOp
  simp only [ho, hx, Instr.loadAt, Instr.sureAddr, Sem.run_bind, Sem.run_pure, Result.andThen_ok, run_loadVar_row w A 30 30 V (0, 0) _ hg Try.underlying30 rfl h1]

/-- A slice of one task. -/
theorem step_build1 {ops : Array Oper} {o : Oper} {a : Act} {w : World} {K : Act → World → Prop} {Q : Exit → Act → World → Prop} {E : Prop}
    (hgd : o.guard = none) (x : Operand) (ho : o.op = .buildSlice 47 1 #[(0, x)]) (t : Tk) (hx : a.eval x = tkV t)
    (h : K (a.put o.dst (.slice (some ⟨w.heap.size, 0, none⟩) 1 1)) (w.alloc (.cells (tkArr t) 30))) :
    if Region.wanted o (yielded ops a.tmps) = true then Oper.wp Try.prog o a w K Q else E := by
  have hw : Region.wanted o (yielded ops a.tmps) = true := by simp [Region.wanted, hgd]
  rw [if_pos hw]
  obtain ⟨i, hi, hz, hs, hb⟩ := info_parts Try.info30
  refine wp_buildSlice 47 30 1 #[(0, x)] ho (tkArr t) i (tkV tk0) Try.underlying47 hi hz (by rw [hs]; omega) (by rw [hs]; omega) ?_ h
  rw [hs]
  simp only [List.map_toArray, List.map_cons, List.map_nil, hx]
  exact fill_one t _ (by simp)

/-- A task read whole. -/
theorem step_load30 {ops : Array Oper} {o : Oper} {a : Act} {w : World} {K : Act → World → Prop} {Q : Exit → Act → World → Prop} {E : Prop}
    (hgd : o.guard = none) (x : Operand) (ho : o.op = .load 30 x) (t : Tk) (A : Nat) (hx : a.eval x = .pointer (some ⟨A, 0, none⟩)) (hg : w.heap[A]? = some (.cells (tkArr t) 30 (0, 0)))
    (h : K (a.put o.dst (tkV t)) w) :
    if Region.wanted o (yielded ops a.tmps) = true then Oper.wp Try.prog o a w K Q else E := by
  have hw : Region.wanted o (yielded ops a.tmps) = true := by simp [Region.wanted, hgd]
  rw [if_pos hw]
  exact wp_load_row 30 x ho A hx 30 (tkArr t) (0, 0) _ hg Try.underlying30 rfl (size30 t) h

/-- One task is appended. -/
theorem step_append30 {ops : Array Oper} {o : Oper} {a : Act} {w : World} {K : Act → World → Prop} {Q : Exit → Act → World → Prop} {E : Prop}
    (hgd : o.guard = none) (s x : Operand) (ho : o.op = .call { callee := .builtin .append, args := #[s, x], argTypes := #[47, 47] })
    (base : Nat) {v : Value} {n : Nat} {ts : Nat → Tk} (t : Tk) (hv : a.eval s = v) (hown : w.ownsRow base 30 29 v n (flat ts n)) (A : Nat) (hx : a.eval x = .slice (some ⟨A, 0, none⟩) 1 1) (hg : w.heap[A]? = some (.cells (tkArr t) 30 (0, 0)))
    (hn : n ≤ 1000) (hbase : base ≤ w.heap.size)
    (h : ∀ v' w', w'.ownsRow base 30 29 v' (n + 1) (flat (updT ts n t) (n + 1)) → w.grownBy w' v.ownBlock → (v'.ownBlock = v.ownBlock ∨ v'.ownBlock = some w.heap.size) → K (a.put o.dst v') w') :
    if Region.wanted o (yielded ops a.tmps) = true then Oper.wp Try.prog o a w K Q else E := by
  have hw : Region.wanted o (yielded ops a.tmps) = true := by simp [Region.wanted, hgd]
  rw [if_pos hw]
  obtain ⟨i, hi, hz, hs, hb⟩ := info_parts Try.info30
  obtain ⟨v', w', hr, h2, h3, -, h4⟩ := run_append_own_at (P := Try.prog) w base 47 o.type 30 i (tkV tk0) 29 216 Try.underlying47 hi hz hs hb (tkArr_size tk0) (by omega) v n (flat ts n) hown ⟨A, 0, none⟩ 1 1 (tkArr t).toList (by simp [tkArr]) (fun j u hu => by
    have hadd : (⟨A, 0, none⟩ : Addr).add j = ⟨A, j, none⟩ := by unfold Addr.add; split <;> simp_all
    rw [hadd, cell_of_row w A j _ _ _ hg]
    simpa using hu) (fun u hu => by
    have := one30 t
    rw [Array.all_eq_true_iff_forall_mem] at this
    exact this u (by simpa using hu)) (by simp only [maxLen]; omega) (by omega) hbase
  unfold Oper.wp
  simp [execOp, ho, resolve, invoke, builtin, hv, hx, hr, Result.andThen]
  exact h v' w' (by rw [← flat_more]; exact h2) h3 h4
end Go.Proofs.Ytedhhohnbekelaa
