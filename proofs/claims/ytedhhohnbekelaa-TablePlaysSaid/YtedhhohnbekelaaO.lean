/- Whether two slices are the same, where they are; a task that may be; Add where there is no room. No condition. -/
import Derived.Test.YtedhhohnbekelaaA
import Derived.Deep.RegionWith
namespace Go.Proofs.Ytedhhohnbekelaa
open Go.RowKit Go.Deep

/-- A slice that reads as a list. -/
def SlL (w : World) (v : Value) (l : List Nat) : Prop := ∃ a cap, v = .slice a l.length cap ∧ (0 < l.length → ∃ g off, a = some ⟨g, off, none⟩ ∧ ∀ i x, l[i]? = some x → w.cell? ⟨g, off + i, none⟩ = some (.int .i64 (x : Nat)))

theorem SlL.own {w : World} {base : Nat} {v : Value} {l : List Nat} (h : w.ownsRow base 3 1 v l.length (intsL l)) : SlL w v l := by
  rcases h.2 with ⟨rfl, h0⟩ | ⟨g, cap, cur, rfl, _⟩
  · exact ⟨none, 0, by rw [h0], fun h => by omega⟩
  · refine ⟨_, cap, rfl, fun _ => ⟨g, 0, rfl, fun i x hx => ?_⟩⟩
    have hi : i < l.length := (List.getElem?_eq_some_iff.1 hx).1
    rw [Nat.zero_add, h.cellAt i (by omega)]
    unfold intsL
    rw [List.getElem?_map, hx]
    rfl

theorem SlL.of_cells {w w' : World} {v : Value} {l : List Nat} (h : SlL w v l) (hc : ∀ p : Addr, p.block < w.heap.size → w'.cell? p = w.cell? p) : SlL w' v l := by
  obtain ⟨a, cap, rfl, h⟩ := h
  refine ⟨a, cap, rfl, fun h0 => ?_⟩
  obtain ⟨g, off, rfl, hx⟩ := h h0
  exact ⟨g, off, rfl, fun i x hi => (hc _ (World.block_lt_of_cell? _ _ (hx i x hi))).trans (hx i x hi)⟩

set_option maxRecDepth 100000 in
theorem Same_eq {w : World} {u v : Value} {l : List Nat} (hu : SlL w u l) (hv : SlL w v l) (hl : l.length ≤ 1000) : Calls Try.prog 26 #[u, v] w fun r w' => r = .returned (.bool true) ∧ ∃ k, w' = w.drewN k := by
  obtain ⟨a, cap, rfl, ha⟩ := hu
  obtain ⟨b, cap2, rfl, hb⟩ := hv
  have HA := Lib.hid ha
  have HBb := Lib.hid hb
  obtain ⟨n, hn⟩ : ∃ n, l.length = n := ⟨_, rfl⟩
  have HN := Lib.hid hn
  rw [hn] at HA HBb hl
  rw [hn]
  clear ha hb hn
  go_enter Try.func26, Try.ntmps26
  go_wp2_with fail
  go_loopw [13] (fun i wr => ∃ k : Nat, k ≤ n ∧ i = .int .i64 k ∧ ∃ m, wr = w.drewN m) (fun i _ => n - (intOf i).toNat)
  case atStart => exact ⟨0, Nat.zero_le _, rfl, 0, rfl⟩
  case round =>
    obtain ⟨k, hk, rfl, m, rfl⟩ := hrel
    by_cases hlt : k < n
    · obtain ⟨g, off, rfl, hx⟩ := HA.out (by omega)
      obtain ⟨g2, off2, rfl, hy⟩ := HBb.out (by omega)
      have hkl : k < l.length := by have := HN.out; omega
      obtain ⟨x, hx0⟩ : ∃ x, l[k]? = some x := ⟨_, List.getElem?_eq_getElem hkl⟩
      have c0 : (w.drewN m).cell? ⟨g, off + k, none⟩ = some (.int .i64 x) := hx k x hx0
      have c1 : (w.drewN m).cell? ⟨g2, off2 + k, none⟩ = some (.int .i64 x) := hy k x hx0
      obtain ⟨wo, hwo⟩ : ∃ wo : World, w.drewN m = wo := ⟨_, rfl⟩
      have HWO := Lib.hid hwo
      rw [hwo] at c0 c1
      rw [hwo]
      clear hwo hx hy hx0 hkl
      go_wp2_with fail
      go_region
      go_wp2_with fail
      go_roundw
      case rel => exact ⟨k + 1, by omega, by go_num, m + 1, by rw [← HWO.out]; rfl⟩
      case measure => simp [intOf]; omega
    · obtain rfl : k = n := by omega
      go_wp2_with fail
      go_ret
      exact ⟨rfl, m, rfl⟩

def smT : Tk := fun o => if o = 23 then -1 else if o = 24 then -1 else if o = 25 then 7 else 0
theorem builtSome : (Try.prog.built 30 [(5, .int .i64 (-1)), (6, .int .i64 (-1)), (7, .int .i64 7)]).isSome = true ∧ (Try.prog.built 30 [(5, .int .i64 (-1)), (6, .int .i64 (-1)), (7, .int .i64 7)]).getD #[] = tkArr smT := ⟨by kernel_rfl, by kernel_rfl⟩
theorem may_some : may smT = true := by decide +kernel

theorem results_c1 {P : Program} {fn : Func} {p : Tmp} {ty : TypeId} (h : fn.results = #[.cell p ty]) (tmps : Array Value) (w : World) (g : Nat) (t : TypeId) (cs : Array Value) (d : TypeDesc)
    (hp : tmps.getD p undef = .pointer (some ⟨g, 0, none⟩)) (hg : w.heap[g]? = some (.cells cs t (0, 0)))
    (hu : P.underlying ty = some d) (hd : (match d with | .struct _ | .array _ _ => true | _ => false) = true) (hi : (P.info? ty).map (·.size) = some cs.size) :
    (results fn tmps).run P w = .ok (.agg cs) w := results_cell_row h tmps w g t cs (0, 0) d hp hg hu hd hi

set_option maxRecDepth 100000 in
theorem some_any (w : World) : Calls Try.prog 7 #[] w fun r w' => r = .returned (tkV smT) ∧ Below w.heap.size w w' := by
  have hz := zero30
  have hb := builtSome
  have h1 := size30 smT
  have h2 := one30 smT
  have h3 : (tkArr tk0).size = (tkArr smT).size := by rw [tkArr_size, tkArr_size]
  unfold tkV
  obtain ⟨V, hV⟩ : ∃ V, tkArr smT = V := ⟨_, rfl⟩
  obtain ⟨Z, hZ⟩ : ∃ Z, tkArr tk0 = Z := ⟨_, rfl⟩
  rw [hV] at hb h1 h2 h3
  rw [hZ] at h3
  rw [hV]
  simp only [hZ] at hz
  clear hV hZ
  obtain ⟨b1, b2⟩ := hb
  have B1 := Lib.hid b1
  have B2 := Lib.hid b2
  clear b1 b2
  go_enter Try.func7, Try.ntmps7
  go_wp2_with (first | (refine wpList_build rfl 30 _ rfl (by simp only [List.map_toArray, List.map_cons, List.map_nil]; exact B1.out) ?_; simp only [List.map_toArray, List.map_cons, List.map_nil, Act.eval, B2.out]) | (refine wpList_store_row rfl 30 _ _ rfl w.heap.size V rfl rfl 30 Z (heap_alloc_new _ _) h1 h3 h2 ?_; rw [setRow_new]))
  exact bodyPost_ret (results_c1 rfl _ _ w.heap.size 30 V _ rfl (heap_alloc_new _ _) Try.underlying30 rfl h1) rfl ⟨rfl, (Below.refl _ _).alloc (Nat.le_refl _) _⟩
end Go.Proofs.Ytedhhohnbekelaa
