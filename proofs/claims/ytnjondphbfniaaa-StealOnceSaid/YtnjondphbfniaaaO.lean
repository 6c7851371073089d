/- The row and the document's row are made (package steal: New; package pinfoldref28: New). No condition. -/
import Derived.Test.YtnjondphbfniaaaN
import Derived.Laws.OwnMore
import Derived.Deep.OwnRows
namespace Go.Proofs.Ytnjondphbfniaaa
open Go.RowKit Go.Deep

theorem Try.info65 : (Try.prog.info? 65).map (fun i => (i.zero, i.size, i.bytes)) = some (some (.agg #[.int .i64 0, .int .i64 0, .int .i64 0, .int .i64 0, .int .i64 0, .bool false]), 6, 48) := by kernel_rfl
theorem Try.info38 : (Try.prog.info? 38).map (fun i => (i.zero, i.size, i.bytes)) = some (some (.agg #[.int .i64 0, .int .i64 0, .int .i64 0, .int .i64 0, .int .i64 0, .bool false]), 6, 48) := by kernel_rfl
theorem Try.info3r : (Try.prog.info? 3).map (fun i => (i.zero, i.size, i.bytes)) = some (some (.int .i64 0), 1, 8) := by kernel_rfl

/-- The cells of a party in no call. -/
def nobody : Array Value := #[.int .i64 0, .int .i64 0, .int .i64 0, .int .i64 0, .int .i64 0, .bool false]

theorem made6 (n o : Nat) (h : o < n * 6) : (madeCells nobody (n * 6))[o]? = some (encP (fun _ => Pt.none) o) := by
  unfold madeCells
  simp only [Array.getElem?_map, Array.getElem?_range, h, if_true, Option.map_some]
  unfold encP
  have : nobody.size = 6 := rfl
  rw [this]
  have hk : o % 6 = 0 ∨ o % 6 = 1 ∨ o % 6 = 2 ∨ o % 6 = 3 ∨ o % 6 = 4 ∨ o % 6 = 5 := by omega
  rcases hk with hk | hk | hk | hk | hk | hk <;> rw [hk] <;> rfl

theorem mk65 (v : Int) (n : Nat) (hv : v = n) (hn : n ≤ 9) (w : World) : (Instr.makeSlice 53 (.int .i64 v) (.int .i64 v)).run Try.prog w = .ok (.slice (some ⟨w.heap.size, 0, none⟩) n n) (w.alloc (.cells (madeCells nobody (n * 6)) 65)) := by
  subst hv
  obtain ⟨i, hi, hz, hs, hb⟩ := info_parts Try.info65
  have := run_make (P := Try.prog) w 53 65 i _ Try.underlying53 hi hz .i64 .i64 n n (by omega) (Int.le_refl _) (by rw [hb]; omega) (by omega)
  rw [hs, Int.toNat_natCast] at this
  exact this
theorem mk38 (v : Int) (n : Nat) (hv : v = n) (hn : n ≤ 9) (w : World) : (Instr.makeSlice 33 (.int .i64 v) (.int .i64 v)).run Try.prog w = .ok (.slice (some ⟨w.heap.size, 0, none⟩) n n) (w.alloc (.cells (madeCells nobody (n * 6)) 38)) := by
  subst hv
  obtain ⟨i, hi, hz, hs, hb⟩ := info_parts Try.info38
  have := run_make (P := Try.prog) w 33 38 i _ Try.underlying33 hi hz .i64 .i64 n n (by omega) (Int.le_refl _) (by rw [hb]; omega) (by omega)
  rw [hs, Int.toNat_natCast] at this
  exact this
theorem mk3 (v : Int) (n : Nat) (hv : v = n) (hn : n ≤ 64) (w : World) : (Instr.makeSlice 32 (.int .i64 v) (.int .i64 v)).run Try.prog w = .ok (.slice (some ⟨w.heap.size, 0, none⟩) n n) (w.alloc (.cells (madeCells #[.int .i64 0] n) 3)) := by
  subst hv
  obtain ⟨i, hi, hz, hs, hb⟩ := info_parts Try.info3r
  have := run_make (P := Try.prog) w 32 3 i _ Try.underlying32 hi hz .i64 .i64 n n (by omega) (Int.le_refl _) (by rw [hb]; omega) (by omega)
  rw [hs, Int.toNat_natCast, Nat.mul_one] at this
  exact this

theorem made1 (n o : Nat) (h : o < n) : (madeCells #[.int .i64 0] n)[o]? = some (.int .i64 0) := by
  have : (madeCells #[.int .i64 0] n).toList[o]? = some (.int .i64 0) := by rw [toList_madeCells_one, List.getElem?_replicate]; simp [h]
  simpa using this

/-- The row that has been made. -/
theorem dq_made {w W : World} (rm : Int) (n : Nat) (arr : Array Value) (harr : W = (w.alloc (.cells (madeCells nobody (n * 6)) 65)).alloc (.cells arr 56)) (hs : arr.size = 68)
    (ha : ∀ o, o < 68 → arr[o]? = some (encD ⟨0, 0, rm, fun _ => 0, fun _ => Pt.none, n⟩ (.slice (some ⟨w.heap.size, 0, none⟩) n n) o)) :
    IsDq W (w.heap.size + 1) w.heap.size n ⟨0, 0, rm, fun _ => 0, fun _ => Pt.none, n⟩ := by
  subst harr
  refine ⟨?_, ?_, by omega⟩
  · refine ⟨arr, ?_, by omega, ha⟩
    have := heap_alloc_new (w.alloc (.cells (madeCells nobody (n * 6)) 65)) (.cells arr 56)
    rw [World.size_alloc] at this
    exact this
  · refine Blk.alloc ?_ _
    have := Blk.new w (madeCells nobody (n * 6)) 65
    rw [size_madeCells] at this
    exact this.congr fun o ho => by rw [made6 n o ho]; rfl

/-- The cells of a row that nobody has filled. -/
def zeros : Array Value := (Array.replicate 67 (.int .i64 0)).push (.slice none 0 0)
theorem zeros_size : zeros.size = 68 := rfl
theorem zero56 (w : World) : (zeroValue 56).run Try.prog w = .ok (.agg zeros) w := by kernel_rfl
theorem zeros_at (rm : Int) (n S : Nat) (o : Nat) (ho : o < 68) :
    ((zeros.setIfInBounds 66 (.int .i64 rm)).setIfInBounds 67 (.slice (some ⟨S, 0, none⟩) n n))[o]? = some (encD ⟨0, 0, rm, fun _ => 0, fun _ => Pt.none, n⟩ (.slice (some ⟨S, 0, none⟩) n n) o) := by
  rw [Array.getElem?_setIfInBounds, Array.getElem?_setIfInBounds]
  simp only [Array.size_setIfInBounds, zeros_size]
  unfold encD
  by_cases e1 : o = 67
  · subst e1; simp
  by_cases e2 : o = 66
  · subst e2; simp
  rw [if_neg (fun e => e1 e.symm), if_neg (fun e => e2 e.symm)]
  have h3 : zeros[o]? = some (.int .i64 0) := by
    unfold zeros
    rw [Array.getElem?_push, Array.size_replicate, if_neg e1, Array.getElem?_replicate, if_pos (by omega)]
  rw [h3]
  by_cases e3 : o = 0
  · subst e3; rfl
  by_cases e4 : o = 1
  · subst e4; rfl
  simp [e1, e2, e3, e4]

def Made (w : World) (d : Dq) (r : Ending) (w' : World) : Prop := ∃ b pb cap, r = .returned (.pointer (some ⟨b, 0, none⟩)) ∧ w.heap.size ≤ b ∧ w.heap.size ≤ pb ∧ IsDq w' b pb cap d ∧ Below w.heap.size w w'

set_option maxRecDepth 100000 in
set_option maxHeartbeats 2000000 in
theorem New_any (room thieves : Int) (w : World) (h0 : -9223372036854775808 ≤ room) (h1 : room ≤ 9223372036854775807) (h2 : -9223372036854775808 ≤ thieves) (h3 : thieves ≤ 9223372036854775807) :
    Calls Try.prog 6 #[.int .i64 room, .int .i64 thieves] w fun r w' => Made w (Dq.fresh room thieves) r w' := by
  have e : Dq.fresh room thieves = ⟨0, 0, max 1 (min room 64), fun _ => 0, fun _ => Pt.none, (1 + max 0 (min thieves 8)).toNat⟩ := rfl
  rw [e]
  clear e
  obtain ⟨n, hn⟩ : ∃ n : Nat, (1 + max 0 (min thieves 8)).toNat = n := ⟨_, rfl⟩
  obtain ⟨rm, hrm⟩ : ∃ rm : Int, max 1 (min room 64) = rm := ⟨_, rfl⟩
  rw [hn, hrm]
  have hn9 : n ≤ 9 := by omega
  have hnv : 1 + max 0 (min thieves 8) = (n : Int) := by omega
  clear hn
  obtain ⟨v, hv, hvn⟩ : ∃ v : Int, v = (n : Int) ∧ ((8 < thieves ∧ v = 9) ∨ (¬ 8 < thieves ∧ 0 < thieves ∧ v = 1 + thieves) ∨ (¬ 0 < thieves ∧ v = 1)) := ⟨n, rfl, by omega⟩
  have hmk := fun w => mk65 v n hv hn9 w
  have hz56 := zero56
  have hzs := zeros_size
  have hr : (64 < room ∧ rm = 64) ∨ (¬ 64 < room ∧ 1 < room ∧ rm = room) ∨ (¬ 1 < room ∧ rm = 1) := by omega
  clear hnv hv hrm
  rcases hvn with ⟨a1, rfl⟩ | ⟨a1, a2, rfl⟩ | ⟨a1, rfl⟩ <;> rcases hr with ⟨r1, rfl⟩ | ⟨r1, r2, rfl⟩ | ⟨r1, rfl⟩
  all_goals
    go_enter Try.func6, Try.ntmps6
    go_wp2_with fail
    all_goals
      go_ret
      refine ⟨_, _, n, rfl, by omega, Nat.le_refl _, ?_, ((Below.refl _ _).alloc (Nat.le_refl _) _).alloc (by simp) _⟩
      exact dq_made _ n _ rfl (by simp [zeros_size]) (fun o ho => zeros_at _ n _ o ho)
end Go.Proofs.Ytnjondphbfniaaa
