/- Contracts of the table's functions (package table) where there is no table. No condition. -/
import Derived.Test.YtedhhohnbekelaaH
import Derived.Laws.Rows
namespace Go.Proofs.Ytedhhohnbekelaa
open Go.RowKit

def tk0 : Tk := fun _ => 0
theorem zero30 (w : World) : (zeroValue 30).run Try.prog w = .ok (.agg (tkArr tk0)) w := by kernel_rfl
theorem built30 : (Try.prog.built 30 []).isSome = true ∧ (Try.prog.built 30 []).getD #[] = tkArr tk0 := ⟨by kernel_rfl, by kernel_rfl⟩
theorem size30 (t : Tk) : (Try.prog.info? 30).map (·.size) = some (tkArr t).size := by
  rw [tkArr_size]
  kernel_rfl
theorem one30 (t : Tk) : (tkArr t).all (·.oneCell') = true := by
  rw [Array.all_eq_true_iff_forall_mem]
  intro v hv
  simp only [tkArr, List.mem_toArray, List.mem_map] at hv
  obtain ⟨o, _, rfl⟩ := hv
  rfl

theorem setRow_new (w : World) (cs ds : Array Value) (ty : TypeId) : (w.alloc (.cells cs ty)).setRow w.heap.size ds = w.alloc (.cells ds ty) := by
  unfold World.setRow World.alloc
  congr 1
  apply Array.ext
  · simp
  · intro k h1 h2
    simp only [Array.getElem_modify, Array.getElem_push]
    split
    · rename_i hk
      subst hk
      simp
    · rename_i hk
      have : k < w.heap.size := by simp at h2; omega
      rw [dif_pos this, dif_pos this]

/-- What is returned: a row of cells, and a slot. -/
theorem results_cr {P : Program} {fn : Func} {p q : Tmp} {ty : TypeId} (h : fn.results = #[.cell p ty, .tmp q]) (tmps : Array Value) (w : World) (g : Nat) (t : TypeId) (cs : Array Value) (d : TypeDesc)
    (hp : tmps.getD p undef = .pointer (some ⟨g, 0, none⟩)) (hg : w.heap[g]? = some (.cells cs t (0, 0)))
    (hu : P.underlying ty = some d) (hd : (match d with | .struct _ | .array _ _ => true | _ => false) = true) (hi : (P.info? ty).map (·.size) = some cs.size) :
    (results fn tmps).run P w = .ok (.tuple #[.agg cs, tmps.getD q undef]) w := by
  have hp' : tmps[p]?.getD undef = .pointer (some ⟨g, 0, none⟩) := by simpa using hp
  simp [results, h, hp', asAddr, run_loadVar_row w g t ty cs (0, 0) d hg hu hd hi]

theorem TLen_nil (w : World) : Calls Try.prog 12 #[.pointer none] w fun r w' => r = .returned (.int .i64 0) ∧ w = w' := by
  go_enter Try.func12, Try.ntmps12
  go_wp2_with fail
  go_ret
  exact ⟨rfl, rfl⟩

theorem TRoom_nil (w : World) : Calls Try.prog 15 #[.pointer none] w fun r w' => r = .returned (.int .i64 0) ∧ w = w' := by
  go_enter Try.func15, Try.ntmps15
  go_wp2_with fail
  go_ret
  exact ⟨rfl, rfl⟩

theorem TIs_nil (i : Int) (w : World) : Calls Try.prog 24 #[.pointer none, .int .i64 i] w fun r w' => r = .returned (.bool false) ∧ w = w' := by
  by_cases h : 0 ≤ i
  · go_enter Try.func24, Try.ntmps24
    go_wp2_with fail
    refine (TLen_nil _).mono ?_
    rintro r w' ⟨rfl, rfl⟩
    go_wp2_with fail
    go_ret
    exact ⟨by simp; omega, rfl⟩
  · go_enter Try.func24, Try.ntmps24
    go_wp2_with fail
    go_ret
    exact ⟨rfl, rfl⟩

set_option maxRecDepth 100000 in
theorem TGet_nil (i : Int) (w : World) : Calls Try.prog 11 #[.pointer none, .int .i64 i] w fun r w' => r = .returned (.tuple #[tkV tk0, .bool false]) ∧ Below w.heap.size w w' := by
  have hz := zero30
  have hb := built30
  have h1 := size30 tk0
  have h2 := one30 tk0
  unfold tkV
  obtain ⟨V, hV⟩ : ∃ V, tkArr tk0 = V := ⟨_, rfl⟩
  rw [hV] at hb h1 h2
  rw [hV]
  simp only [hV] at hz
  clear hV
  obtain ⟨b1, b2⟩ := hb
  have B1 := Lib.hid b1
  have B2 := Lib.hid b2
  clear b1 b2
  go_enter Try.func11, Try.ntmps11
  go_wp2_with fail
  refine (TIs_nil _ _).mono ?_
  rintro r w' ⟨rfl, rfl⟩
  go_wp2_with (first | (refine wpList_build rfl 30 #[] rfl B1.out ?_; simp only [B2.out, List.map_toArray, List.map_nil]) | (refine wpList_store_row rfl 30 _ _ rfl w.heap.size V rfl rfl 30 V (heap_alloc_new _ _) h1 rfl h2 ?_; rw [setRow_new]))
  exact bodyPost_ret (results_cr rfl _ _ w.heap.size 30 V _ rfl (heap_alloc_new _ _) Try.underlying30 rfl h1) rfl ⟨rfl, (Below.refl _ _).alloc (Nat.le_refl _) _⟩

set_option maxRecDepth 100000 in
theorem TAdd_nil (t : Tk) (w : World) : Calls Try.prog 8 #[.pointer none, tkV t] w fun r w' => r = .returned (.tuple #[.int .i64 0, .int .i64 (if may t = true then 4 else 1)]) ∧ Below w.heap.size w w' := by
  have HM := Lib.hid (fun w => May_any t w)
  have h1 := size30 t
  unfold tkV at HM ⊢
  obtain ⟨V, hV⟩ : ∃ V, tkArr t = V := ⟨_, rfl⟩
  rw [hV] at HM h1
  rw [hV]
  clear hV
  have HB := Lib.hid ((Below.refl w.heap.size w).alloc (Nat.le_refl _) (.cells V 30))
  obtain ⟨m, hm⟩ : ∃ m, may t = m := ⟨_, rfl⟩
  rw [hm] at HM ⊢
  clear hm
  cases m with
  | false =>
    go_enter Try.func8, Try.ntmps8
    go_wp2_with (refine wpList_load_row rfl 30 _ rfl w.heap.size rfl 30 V (0, 0) _ (heap_alloc_new _ _) Try.underlying30 rfl h1 ?_)
    refine (HM.out _).mono ?_
    rintro r w2 ⟨rfl, hb2⟩
    go_wp2_with fail
    go_ret2
    exact ⟨rfl, HB.out.trans (hb2.mono HB.out.size)⟩
  | true =>
    go_enter Try.func8, Try.ntmps8
    go_wp2_with (refine wpList_load_row rfl 30 _ rfl w.heap.size rfl 30 V (0, 0) _ (heap_alloc_new _ _) Try.underlying30 rfl h1 ?_)
    refine (HM.out _).mono ?_
    rintro r w2 ⟨rfl, hb2⟩
    go_wp2_with fail
    refine (TLen_nil _).mono ?_
    rintro r w' ⟨rfl, rfl⟩
    go_wp2_with fail
    refine (TRoom_nil _).mono ?_
    rintro r w' ⟨rfl, rfl⟩
    go_wp2_with fail
    go_ret2
    exact ⟨rfl, HB.out.trans (hb2.mono HB.out.size)⟩

set_option maxRecDepth 100000 in
theorem TSet_nil (i : Int) (t : Tk) (w : World) : Calls Try.prog 9 #[.pointer none, .int .i64 i, tkV t] w fun r w' => r = .returned (.int .i64 3) ∧ Below w.heap.size w w' := by
  unfold tkV
  obtain ⟨V, hV⟩ : ∃ V, tkArr t = V := ⟨_, rfl⟩
  rw [hV]
  clear hV
  have HB := Lib.hid ((Below.refl w.heap.size w).alloc (Nat.le_refl _) (.cells V 30))
  go_enter Try.func9, Try.ntmps9
  go_wp2_with fail
  refine (TIs_nil _ _).mono ?_
  rintro r w' ⟨rfl, rfl⟩
  go_wp2_with fail
  go_ret
  exact ⟨rfl, HB.out⟩

theorem TJoin_nil (i j : Int) (w : World) : Calls Try.prog 10 #[.pointer none, .int .i64 i, .int .i64 j] w fun r w' => r = .returned (.int .i64 3) ∧ w = w' := by
  go_enter Try.func10, Try.ntmps10
  go_wp2_with fail
  refine (TIs_nil _ _).mono ?_
  rintro r w' ⟨rfl, rfl⟩
  go_wp2_with fail
  go_ret
  exact ⟨rfl, rfl⟩

theorem TJoined_nil (i : Int) (w : World) : Calls Try.prog 20 #[.pointer none, .int .i64 i] w fun r w' => r = .returned (.slice none 0 0) ∧ w = w' := by
  go_enter Try.func20, Try.ntmps20
  go_wp2_with fail
  refine (TIs_nil _ _).mono ?_
  rintro r w' ⟨rfl, rfl⟩
  go_wp2_with fail
  go_ret
  exact ⟨rfl, rfl⟩

theorem TIn_nil (i j : Int) (w : World) : Calls Try.prog 21 #[.pointer none, .int .i64 i, .int .i64 j] w fun r w' => r = .returned (.slice none 0 0) ∧ w = w' := by
  go_enter Try.func21, Try.ntmps21
  go_wp2_with fail
  refine (TLen_nil _).mono ?_
  rintro r w' ⟨rfl, rfl⟩
  go_wp2_with fail
  go_loop [6, 10] (fun v u => u = .int .i64 0 ∧ v = .slice none 0 0) (fun _ _ => 0)
  case atStart => exact ⟨rfl, rfl⟩
  case round =>
    obtain ⟨rfl, rfl⟩ := hrel
    go_wp2_with fail
    go_ret
    exact ⟨rfl, rfl⟩

theorem TCount_nil (i : Int) (w : World) : Calls Try.prog 22 #[.pointer none, .int .i64 i] w fun r w' => r = .returned (.int .i64 0) ∧ w = w' := by
  go_enter Try.func22, Try.ntmps22
  go_wp2_with fail
  refine (TLen_nil _).mono ?_
  rintro r w' ⟨rfl, rfl⟩
  go_wp2_with fail
  go_loop [4, 8] (fun v u => u = .int .i64 0 ∧ v = .int .i64 0) (fun _ _ => 0)
  case atStart => exact ⟨rfl, rfl⟩
  case round =>
    obtain ⟨rfl, rfl⟩ := hrel
    go_wp2_with fail
    go_ret
    exact ⟨rfl, rfl⟩
end Go.Proofs.Ytedhhohnbekelaa
