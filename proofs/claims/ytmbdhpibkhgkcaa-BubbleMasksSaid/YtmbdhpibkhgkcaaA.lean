/- Bubbles and sets as numbers. No condition. -/
import Derived.Test.YtmbdhpibkhgkcaaRows
import Derived.Test.YtmbdhpibkhgkcaaB
import Derived.Test.YtmbdhpibkhgkcaaCut
import Derived.WalkSpells
import Derived.Deep.CutBlock
import Derived.Deep.DeepCutAuto
import Derived.Laws.Rows
import Derived.Laws.OwnMore
import Derived.Deep.MidRow
import Derived.Deep.AppendLies
import Derived.RangeFuncBox
import Derived.Great.BuildSlice
import Derived.Maps.AppendAt
import Derived.Deep.RegionWith
import Derived.IntWalk
import Derived.Outline
namespace Go.Proofs.Ytmbdhpibkhgkcaa
open Go.RowKit

/-- A bubble: its 19 numbers: 0 Up, 1 to 16 the mask's words, 17 State, 18 Home. -/
abbrev Bk := Nat → Int
def buKind (o : Nat) : IntKind := if 1 ≤ o ∧ o ≤ 16 then .u64 else .i64
def buArr (t : Bk) : Array Value := ((List.range 19).map fun o => .int (buKind o) (t o)).toArray
def buV (t : Bk) : Value := .agg (buArr t)
theorem buArr_at (t : Bk) {o : Nat} (h : o < 19) : (buArr t)[o]? = some (.int (buKind o) (t o)) := by simp [buArr, h]
theorem buArr_size (t : Bk) : (buArr t).size = 19 := by simp [buArr]

/-- A set: its 16 words. -/
abbrev Ws := Nat → Int
def wsArr (t : Ws) : Array Value := ((List.range 16).map fun o => .int .u64 (t o)).toArray
def wsV (t : Ws) : Value := .agg (wsArr t)
theorem wsArr_at (t : Ws) {o : Nat} (h : o < 16) : (wsArr t)[o]? = some (.int .u64 (t o)) := by simp [wsArr, h]
theorem wsArr_size (t : Ws) : (wsArr t).size = 16 := by simp [wsArr]
theorem wsArr_congr {s t : Ws} (h : ∀ o, o < 16 → s o = t o) : wsArr s = wsArr t := by
  unfold wsArr
  congr 1
  apply List.map_congr_left
  intro o ho
  rw [h o (List.mem_range.1 ho)]
theorem buArr_congr {s t : Bk} (h : ∀ o, o < 19 → s o = t o) : buArr s = buArr t := by
  unfold buArr
  congr 1
  apply List.map_congr_left
  intro o ho
  rw [h o (List.mem_range.1 ho)]

def bk0 : Bk := fun _ => 0
def ws0 : Ws := fun _ => 0
theorem zero35 (w : World) : (zeroValue 35).run Try.prog w = .ok (.agg (buArr bk0)) w := by kernel_rfl
theorem zero29 (w : World) : (zeroValue 29).run Try.prog w = .ok (.agg (wsArr ws0)) w := by kernel_rfl
theorem built35 : (Try.prog.built 35 []).isSome = true ∧ (Try.prog.built 35 []).getD #[] = buArr bk0 := ⟨by kernel_rfl, by kernel_rfl⟩
theorem built29 : (Try.prog.built 29 []).isSome = true ∧ (Try.prog.built 29 []).getD #[] = wsArr ws0 := ⟨by kernel_rfl, by kernel_rfl⟩
theorem size35 (t : Bk) : (Try.prog.info? 35).map (·.size) = some (buArr t).size := by
  rw [buArr_size]
  kernel_rfl
theorem size29 (t : Ws) : (Try.prog.info? 29).map (·.size) = some (wsArr t).size := by
  rw [wsArr_size]
  kernel_rfl
theorem one35 (t : Bk) : (buArr t).all (·.oneCell') = true := by
  rw [Array.all_eq_true_iff_forall_mem]
  intro v hv
  simp only [buArr, List.mem_toArray, List.mem_map] at hv
  obtain ⟨o, _, rfl⟩ := hv
  rfl
theorem one29 (t : Ws) : (wsArr t).all (·.oneCell') = true := by
  rw [Array.all_eq_true_iff_forall_mem]
  intro v hv
  simp only [wsArr, List.mem_toArray, List.mem_map] at hv
  obtain ⟨o, _, rfl⟩ := hv
  rfl

theorem setRow_new (w : World) (cs ds : Array Value) (ty : TypeId) : (w.alloc (.cells cs ty)).setRow w.heap.size ds = w.alloc (.cells ds ty) := by
  unfold World.setRow World.alloc
  congr 1
  apply Array.ext
  · simp
  · intro k h1 h2
    simp only [Array.getElem_modify, Array.getElem_push]
    split
    · rename_i hk
      subst hk
      simp
    · rename_i hk
      have : k < w.heap.size := by simp at h2; omega
      rw [dif_pos this, dif_pos this]

/-- What is returned: a row of cells, and a slot. -/
theorem results_cr {P : Program} {fn : Func} {p q : Tmp} {ty : TypeId} (h : fn.results = #[.cell p ty, .tmp q]) (tmps : Array Value) (w : World) (g : Nat) (t : TypeId) (cs : Array Value) (d : TypeDesc)
    (hp : tmps.getD p undef = .pointer (some ⟨g, 0, none⟩)) (hg : w.heap[g]? = some (.cells cs t (0, 0)))
    (hu : P.underlying ty = some d) (hd : (match d with | .struct _ | .array _ _ => true | _ => false) = true) (hi : (P.info? ty).map (·.size) = some cs.size) :
    (results fn tmps).run P w = .ok (.tuple #[.agg cs, tmps.getD q undef]) w := by
  have hp' : tmps[p]?.getD undef = .pointer (some ⟨g, 0, none⟩) := by simpa using hp
  simp [results, h, hp', asAddr, run_loadVar_row w g t ty cs (0, 0) d hg hu hd hi]
theorem results_c1 {P : Program} {fn : Func} {p : Tmp} {ty : TypeId} (h : fn.results = #[.cell p ty]) (tmps : Array Value) (w : World) (g : Nat) (t : TypeId) (cs : Array Value) (d : TypeDesc)
    (hp : tmps.getD p undef = .pointer (some ⟨g, 0, none⟩)) (hg : w.heap[g]? = some (.cells cs t (0, 0)))
    (hu : P.underlying ty = some d) (hd : (match d with | .struct _ | .array _ _ => true | _ => false) = true) (hi : (P.info? ty).map (·.size) = some cs.size) :
    (results fn tmps).run P w = .ok (.agg cs) w := by
  have hp' : tmps[p]?.getD undef = .pointer (some ⟨g, 0, none⟩) := by simpa using hp
  simp [results, h, hp', asAddr, run_loadVar_row w g t ty cs (0, 0) d hg hu hd hi]

theorem cell_of {w : World} {A t o : Nat} {V : Array Value} {fr : Nat × Nat} {v : Value} (h : w.heap[A]? = some (.cells V t fr)) (hv : V[o]? = some v) : w.cell? ⟨A, o, none⟩ = some v := by
  simp [World.cell?, h, hv]

/-- A word of a set is turned. -/
def setw (s : Ws) (i : Nat) (x : Int) : Ws := fun o => if o = i then x else s o
theorem wsArr_set (s : Ws) (i : Nat) (x : Int) : (wsArr s).setIfInBounds i (.int .u64 x) = wsArr (setw s i x) := by
  apply Array.ext'
  apply List.ext_getElem?
  intro j
  rw [Array.getElem?_toList, Array.getElem?_toList]
  by_cases hj : j < 16
  · rw [wsArr_at _ hj, Array.getElem?_setIfInBounds, wsArr_at _ hj]
    simp only [wsArr_size]
    unfold setw
    by_cases e : i = j
    · subst e; rw [if_pos rfl, if_pos hj, if_pos rfl]
    · rw [if_neg e, if_neg (fun h => e h.symm)]
  · rw [Array.getElem?_eq_none (by simp [wsArr_size]; omega), Array.getElem?_eq_none (by simp [wsArr_size]; omega)]

theorem Frm.ofBelow {S : Nat → Prop} {w w' : World} (h : Below w.heap.size w w') : Frm S w w' := ⟨h.os, h.tape, h.output, h.size, fun k hk _ => h.block k hk⟩
end Go.Proofs.Ytmbdhpibkhgkcaa
