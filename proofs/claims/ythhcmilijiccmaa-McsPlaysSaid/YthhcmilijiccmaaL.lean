/- The document's answer for the lock (package pinfoldref29): the contract of New. No condition. -/
import Derived.Test.YthhcmilijiccmaaG
import Derived.Deep.OwnRows
import Derived.Deep.DeepCutAuto
import Derived.Maps.AppendAt
import Derived.RangeFuncBox
namespace Go.Proofs.Ythhcmilijiccmaa
open Go.RowKit

theorem Try.info3 : (Try.prog.info? 3).map (fun i => (i.zero, i.size, i.bytes)) = some (some (.int .i64 0), 1, 8) := by kernel_rfl
theorem Try.info4 : (Try.prog.info? 4).map (fun i => (i.zero, i.size, i.bytes)) = some (some (.bool false), 1, 1) := by kernel_rfl

theorem heap_at (w : World) (o : Obj) (k : Nat) (hk : k = w.heap.size) : (w.alloc o).heap[k]? = some o := by subst hk; exact heap_alloc_new w o
theorem heap_past (w : World) (o : Obj) (k : Nat) (x : Option Obj) (hk : k < w.heap.size) (h : w.heap[k]? = x) : (w.alloc o).heap[k]? = x := by rw [← h]; exact Below.heap_alloc w o k hk

/-- Four lists and the struct, as they are laid ahead of the loop. -/
structure Laid (w wr : World) (m r bw bs ba bo : Nat) : Prop where
  hr : wr.heap[r]? = some (.cells #[.int .i64 (-1), .slice none 0 0, .slice (some ⟨bw, 0, none⟩) m m, .slice (some ⟨bs, 0, none⟩) m m, .slice (some ⟨ba, 0, none⟩) m m, .slice (some ⟨bo, 0, none⟩) m m] 41)
  hbw : wr.heap[bw]? = some (.cells (madeCells #[.bool false] m) 4)
  hbs : wr.heap[bs]? = some (.cells (madeCells #[.int .i64 0] m) 3)
  hba : wr.heap[ba]? = some (.cells (madeCells #[.int .i64 0] m) 3)
  hbo : wr.heap[bo]? = some (.cells (madeCells #[.int .i64 0] m) 3)
  low : w.heap.size ≤ r ∧ w.heap.size ≤ bw ∧ w.heap.size ≤ bs ∧ w.heap.size ≤ ba ∧ w.heap.size ≤ bo
  d0 : r ≠ bw ∧ r ≠ bs ∧ r ≠ ba ∧ r ≠ bo
  d1 : bw ≠ bs ∧ bw ≠ ba ∧ bw ≠ bo ∧ bs ≠ ba ∧ bs ≠ bo ∧ ba ≠ bo
  below : Below w.heap.size w wr

theorem Laid.drew {w wr : World} {m r bw bs ba bo : Nat} (h : Laid w wr m r bw bs ba bo) : Laid w wr.drew m r bw bs ba bo := ⟨h.hr, h.hbw, h.hbs, h.hba, h.hbo, h.low, h.d0, h.d1, h.below.drew⟩

theorem blk_made {w : World} {b : Nat} {z : Value} {n : Nat} {t : TypeId} (h : w.heap[b]? = some (.cells (madeCells #[z] n) t)) : Blk w b t n (fun _ => z) :=
  ⟨_, h, by rw [size_madeCells]; omega, fun i hi => by simp [madeCells, hi, Nat.mod_one]⟩

/-- The struct's fields while the loop runs. -/
def mid (v : Value) (m bw bs ba bo : Nat) : Nat → Value
  | 0 => .int .i64 (-1)
  | 1 => v
  | 2 => .slice (some ⟨bw, 0, none⟩) m m
  | 3 => .slice (some ⟨bs, 0, none⟩) m m
  | 4 => .slice (some ⟨ba, 0, none⟩) m m
  | _ => .slice (some ⟨bo, 0, none⟩) m m

/-- What lies when k of the list Next are there. -/
structure Mid (w wr : World) (N m r bw bs ba bo : Nat) (v : Value) (k : Nat) : Prop where
  hr : Blk wr r 41 6 (mid v m bw bs ba bo)
  hbw : Blk wr bw 4 m (fun _ => .bool false)
  hbs : Blk wr bs 3 m (fun _ => .int .i64 0)
  hba : Blk wr ba 3 m (fun _ => .int .i64 0)
  hbo : Blk wr bo 3 m (fun _ => .int .i64 0)
  own : wr.ownsRow N 3 1 v k (List.replicate k (.int .i64 (-1)))
  below : Below w.heap.size w wr

/-- Which blocks are which. -/
structure Sep (N r bw bs ba bo : Nat) : Prop where
  lt : r < N ∧ bw < N ∧ bs < N ∧ ba < N ∧ bo < N
  d0 : r ≠ bw ∧ r ≠ bs ∧ r ≠ ba ∧ r ≠ bo
  d1 : bw ≠ bs ∧ bw ≠ ba ∧ bw ≠ bo ∧ bs ≠ ba ∧ bs ≠ bo ∧ ba ≠ bo

theorem Mid.app {w wr w1 : World} {N m r bw bs ba bo k g cap : Nat} {v : Value} (hm : Mid w wr N m r bw bs ba bo v k) (hs : Sep N r bw bs ba bo) (o : Obj) (hg : (wr.alloc o).grownBy w1 v.ownBlock)
    (hown : w1.ownsRow N 3 1 (.slice (some ⟨g, 0, none⟩) (k + 1) cap) (k + 1) (List.replicate k (.int .i64 (-1)) ++ [.int .i64 (-1)])) (hN : N ≤ wr.heap.size) (hlow : w.heap.size ≤ r) (hwN : w.heap.size ≤ N) :
    Mid w (w1.setCell ⟨r, 1, none⟩ (.slice (some ⟨g, 0, none⟩) (k + 1) cap)) N m r bw bs ba bo (.slice (some ⟨g, 0, none⟩) (k + 1) cap) (k + 1) ∧ N ≤ (w1.setCell ⟨r, 1, none⟩ (.slice (some ⟨g, 0, none⟩) (k + 1) cap)).heap.size := by
  have hlt := hs.lt
  have hd0 := hs.d0
  have hk : ∀ x, x < N → w1.heap[x]? = wr.heap[x]? := fun x hx => by
    refine (hg.block x (by simp; omega) (fun e => ?_)).trans (Below.heap_alloc _ _ _ (by omega))
    have := (hm.own.lt x e.symm).1
    omega
  have hgN : N ≤ g := (hown.lt g rfl).1
  refine ⟨⟨?_, ?_, ?_, ?_, ?_, ?_, ?_⟩, ?_⟩
  · refine ((hm.hr.of_heap (hk r hlt.1)).set 1 _).congr fun o ho => ?_
    match o, ho with
    | 0, _ => rfl
    | 1, _ => rfl
    | 2, _ => rfl
    | 3, _ => rfl
    | 4, _ => rfl
    | 5, _ => rfl
  · exact (hm.hbw.of_heap (hk _ hlt.2.1)).other (Ne.symm hd0.1) _ _
  · exact (hm.hbs.of_heap (hk _ hlt.2.2.1)).other (Ne.symm hd0.2.1) _ _
  · exact (hm.hba.of_heap (hk _ hlt.2.2.2.1)).other (Ne.symm hd0.2.2.1) _ _
  · exact (hm.hbo.of_heap (hk _ hlt.2.2.2.2)).other (Ne.symm hd0.2.2.2) _ _
  · rw [List.replicate_succ']
    have hgs : w1.grownBy (w1.setCell ⟨r, 1, none⟩ (.slice (some ⟨g, 0, none⟩) (k + 1) cap)) (some r) := ⟨rfl, rfl, rfl, by simp, fun j _ hne => Below.heap_setCell _ _ _ _ (fun e => hne (by rw [e]))⟩
    exact hown.kept hgs (.inr (by simp [Value.ownBlock]; omega))
  · exact ((hm.below.alloc hm.below.size o).grown hg (by have := hm.below.size; simp; omega) (fun j hj => by have := (hm.own.lt j hj).1; omega)).setCell (p := ⟨r, 1, none⟩) hlow _
  · have := hg.size; simp at this ⊢; omega

/-- The blocks and capacities of what is made. -/
def mB (r g bw bs ba bo : Nat) : Nat → Nat
  | 0 => r
  | 1 => g
  | 2 => bw
  | 3 => bs
  | 4 => ba
  | _ => bo
def mC (cap m : Nat) : Nat → Nat
  | 1 => cap
  | _ => m

theorem Mid.isRef {w wr : World} {N m r bw bs ba bo g cap : Nat} (n : Int) (hmn : m = (Lock.fresh n).n) (hm : Mid w wr N m r bw bs ba bo (.slice (some ⟨g, 0, none⟩) m cap) m) (hs : Sep N r bw bs ba bo) :
    IsRef wr (mB r g bw bs ba bo) (mC cap m) (Lock.fresh n) (fun _ => 0) := by
  have hlt := hs.lt
  have hd0 := hs.d0
  have hd1 := hs.d1
  have hgN : N ≤ g := (hm.own.lt g rfl).1
  subst hmn
  refine ⟨hm.hr.congr fun o ho => ?_, fun k h1 h2 => ?_, fun j k hj hk hne => ?_⟩
  · match o, ho with
    | 0, _ => rfl
    | 1, _ => rfl
    | 2, _ => rfl
    | 3, _ => rfl
    | 4, _ => rfl
    | 5, _ => rfl
  · match k, h1, h2 with
    | 1, _, _ =>
      obtain ⟨_, h | ⟨g', cap', cur, hv, _, hh, hnc, _, hsz, htk⟩⟩ := hm.own
      · exact absurd h.1 (by simp)
      · cases hv
        refine ⟨cur, hh, by omega, fun i hi => ?_⟩
        have : (cur.toList.take ((Lock.fresh n).n * 1))[i]? = (List.replicate (Lock.fresh n).n (Value.int .i64 (-1)))[i]? := by rw [htk]
        rw [List.getElem?_take, if_pos (by omega), List.getElem?_replicate, if_pos hi] at this
        simpa [fld, Lock.fresh] using this
    | 2, _, _ => exact hm.hbw
    | 3, _, _ => exact hm.hbs
    | 4, _, _ => exact hm.hba
    | 5, _, _ => exact hm.hbo
  · have hj' : j = 0 ∨ j = 1 ∨ j = 2 ∨ j = 3 ∨ j = 4 ∨ j = 5 := by omega
    have hk' : k = 0 ∨ k = 1 ∨ k = 2 ∨ k = 3 ∨ k = 4 ∨ k = 5 := by omega
    rcases hj' with rfl | rfl | rfl | rfl | rfl | rfl <;> rcases hk' with rfl | rfl | rfl | rfl | rfl | rfl <;> simp only [mB] <;> omega

set_option maxRecDepth 100000 in
set_option maxHeartbeats 4000000 in
theorem RNew_any (n : Int) (w : World) (h0 : -9223372036854775808 ≤ n) (h1 : n ≤ 9223372036854775807) :
    Calls Try.prog 12 #[.int .i64 n] w fun r w' => ∃ B C, r = .returned (.pointer (some ⟨B 0, 0, none⟩)) ∧ IsRef w' B C (Lock.fresh n) (fun _ => 0) ∧ (∀ k, k ≤ 5 → w.heap.size ≤ B k ∧ B k < w'.heap.size) ∧ Below w.heap.size w w' := by
  obtain ⟨m, hm⟩ : ∃ m : Nat, m = (Lock.fresh n).n := ⟨_, rfl⟩
  have hm' : (m : Int) = max 1 (min n 16) := by rw [hm]; simp only [Lock.fresh]; omega
  have HM := Lib.hid hm
  have hm1 : m ≤ 16 := by omega
  have hm2 : 1 ≤ m := by omega
  have HM2 := Lib.hid hm'
  clear hm hm'
  have k1 := fun w => run_make_row' (P := Try.prog) 25 3 (.int .i64 0) 8 Try.underlying25 Try.info3 rfl .i64 .i64 m (by omega) (by omega) w
  have k2 := fun w => run_make_row' (P := Try.prog) 39 4 (.bool false) 1 Try.underlying39 Try.info4 rfl .i64 .i64 m (by omega) (by omega) w
  go_enter Try.func12, Try.ntmps12
  go_upto_if 8 with fail
  go_cut [3] (fun s3 wr => ∃ q : Int, s3 = .int .i64 q ∧ q = max 1 n ∧ w = wr)
  case first =>
    by_cases h : n < 1
    all_goals
      go_wp2_with fail
      go_meet
      case rel => exact ⟨_, rfl, by omega, rfl⟩
  case rest =>
    obtain ⟨q, rfl, hq, rfl⟩ := hcut
    have HQ := Lib.hid hq
    clear hq
    go_upto_if 10 with fail
    go_cut [3] (fun s3 wr => s3 = .int .i64 m ∧ w = wr)
    case first =>
      have hq := HQ.out
      have hm' := HM2.out
      by_cases h : 16 < q
      · have e : (16 : Int) = m := by omega
        clear hm' hq
        go_wp2_with fail
        go_meet
        case rel => exact ⟨by rw [← e], rfl⟩
      · have e : q = m := by omega
        have HE := Lib.hid e
        clear e hq hm'
        go_wp2_with fail
        go_meet
        case rel => exact ⟨by rw [HE.out], rfl⟩
    case rest =>
      obtain ⟨rfl, rfl⟩ := hcut
      go_upto_region 6 with fail
      go_cut [4] (fun s4 wr => ∃ r bw bs ba bo, s4 = .pointer (some ⟨r, 0, none⟩) ∧ Laid w wr m r bw bs ba bo)
      case first =>
        go_region
        all_goals
          go_wp2_with fail
          go_meet
          case rel =>
            refine ⟨_, _, _, _, _, rfl, Laid.drew ⟨heap_at _ _ _ (by simp), ?_, ?_, ?_, ?_, ?_, ?_, ?_, ?_⟩⟩
            · repeat (first | (refine heap_at _ _ _ ?_; simp; done) | (refine heap_past _ _ _ _ ?_ ?_; · simp only [World.size_alloc]; omega))
            · repeat (first | (refine heap_at _ _ _ ?_; simp; done) | (refine heap_past _ _ _ _ ?_ ?_; · simp only [World.size_alloc]; omega))
            · repeat (first | (refine heap_at _ _ _ ?_; simp; done) | (refine heap_past _ _ _ _ ?_ ?_; · simp only [World.size_alloc]; omega))
            · repeat (first | (refine heap_at _ _ _ ?_; simp; done) | (refine heap_past _ _ _ _ ?_ ?_; · simp only [World.size_alloc]; omega))
            · omega
            · omega
            · omega
            · exact (((((Below.refl _ _).alloc (Nat.le_refl _) _).alloc (by simp) _).alloc (by simp; omega) _).alloc (by simp; omega) _).alloc (by simp; omega) _
      case rest =>
        obtain ⟨r, bw, bs, ba, bo, rfl, hl⟩ := hcut
        obtain ⟨N, hN⟩ : ∃ N, N = wc.heap.size := ⟨_, rfl⟩
        have hlr : r < wc.heap.size := (Array.getElem?_eq_some_iff.1 hl.hr).1
        have hlw : bw < wc.heap.size := (Array.getElem?_eq_some_iff.1 hl.hbw).1
        have hls : bs < wc.heap.size := (Array.getElem?_eq_some_iff.1 hl.hbs).1
        have hla : ba < wc.heap.size := (Array.getElem?_eq_some_iff.1 hl.hba).1
        have hlo : bo < wc.heap.size := (Array.getElem?_eq_some_iff.1 hl.hbo).1
        have hM0 : Mid w wc N m r bw bs ba bo (.slice none 0 0) 0 := by
          refine ⟨⟨_, hl.hr, by simp, fun o ho => ?_⟩, blk_made hl.hbw, blk_made hl.hbs, blk_made hl.hba, blk_made hl.hbo, World.ownsRow_nil _ _ _ _, hl.below⟩
          match o, ho with
          | 0, _ => rfl
          | 1, _ => rfl
          | 2, _ => rfl
          | 3, _ => rfl
          | 4, _ => rfl
          | 5, _ => rfl
        have hlow := hl.low
        have hd0 := hl.d0
        have hd1 := hl.d1
        have hN' : N = wc.heap.size := hN
        have HH := Lib.hid (show Sep N r bw bs ba bo from ⟨⟨by omega, by omega, by omega, by omega, by omega⟩, hd0, hd1⟩)
        have HW := Lib.hid hlow
        have hwN : w.heap.size ≤ N := by have := hl.below.size; omega
        have HM0 := Lib.hid hM0
        have hNs : N ≤ wc.heap.size := by omega
        clear hlow hd0 hd1 hl hM0 hN hN' hlr hlw hls hla hlo k1 k2
        obtain ⟨i0, hi, hz0, hz1, hz2⟩ := info_parts Try.info3
        go_wp2_with fail
        go_loopw [5] (fun i wr => ∃ (k : Nat) (v : Value), k ≤ m ∧ i = .int .i64 k ∧ Mid w wr N m r bw bs ba bo v k ∧ N ≤ wr.heap.size) (fun i _ => m - (intOf i).toNat)
        case atStart => exact ⟨0, _, Nat.zero_le _, rfl, HM0.out, hNs⟩
        case round =>
          obtain ⟨k, v, hk, rfl, hm, hsz⟩ := hrel
          by_cases hlt : k < m
          · have c1 : wr.cell? ⟨r, 1, none⟩ = some v := (hm.hr.cell (o := 1) (by omega)).trans rfl
            have hown := hm.own
            have hrl : r < wr.heap.size := hm.hr.lt
            have HMm := Lib.hid hm
            clear hm
            go_wp2_with (at_builtin; refine wpList_append_own _ rfl _ _ 25 rfl N 3 i0 _ 1 8 Try.underlying25 hi hz0 hz1 hz2 rfl (by decide) _ _ _ rfl (hown.alloc _) ⟨wr.heap.size, 0, none⟩ 1 1 [.int .i64 (-1)] rfl rfl (cell_one_new _ _ _) (by simp [Value.oneCell']) (by simp only [maxLen]; omega) (by omega) (by simp; omega) ?_; intro v' w1 hown' hgrow _; obtain ⟨g', cap', rfl⟩ := ownsRow_succ hown'; have hne : some r ≠ v.ownBlock := (by intro e; have := (hown.lt r e.symm).1; have := HH.out.lt; omega); have c1' : w1.cell? ⟨r, 1, none⟩ = some v := hgrow.cell ((World.cell?_alloc_lt _ _ _ hrl).trans c1) hne; have f1' : w1.frozen? ⟨r, 1, none⟩ = false := (World.frozen?_of_block (w := wr) ((hgrow.block r (by simp; omega) hne).trans (Below.heap_alloc _ _ _ hrl))).trans (HMm.out.hr.frozen 1))
            obtain ⟨hm', hsz'⟩ := HMm.out.app HH.out _ hgrow hown' hsz HW.out.1 hwN
            exact ⟨⟨k + 1, _, by omega, by go_num, hm', hsz'⟩, by simp [intOf]; omega⟩
          · obtain rfl : k = m := by omega
            obtain ⟨k, rfl⟩ : ∃ j, k = j + 1 := ⟨k - 1, by omega⟩
            obtain ⟨g, cap, rfl⟩ := ownsRow_succ hm.own
            have hgN := hm.own.lt g rfl
            have HMm := Lib.hid hm
            clear hm
            go_wp2_with fail
            go_ret
            refine ⟨_, _, rfl, HMm.out.isRef n HM.out HH.out, ?_, HMm.out.below⟩
            intro j hj
            have h1 := HH.out.lt
            have h2 := HW.out
            have hj' : j = 0 ∨ j = 1 ∨ j = 2 ∨ j = 3 ∨ j = 4 ∨ j = 5 := by omega
            rcases hj' with rfl | rfl | rfl | rfl | rfl | rfl <;> simp only [mB] <;> omega
end Go.Proofs.Ythhcmilijiccmaa
