/- A part of the proof that fair.Window is one more than the greatest of its gaps (contracts of the functions of package fair). No condition. -/
import Derived.Test.YtnldnhmkljfodaaB
import Derived.RangeFuncFrom
namespace Go.Proofs.Ytnldnhmkljfodaa
open Go.RowKit Go.Shelf

attribute [local go_sem] Oper.semAt_some

set_option maxRecDepth 100000 in
set_option maxHeartbeats 1000000 in
/-- The same over a slice of none, whatever its address. -/
theorem gaps1_none_in (S : Nat → Prop) (n l Bs Bc cap : Nat) (a : Option Addr) (cpu : Int) (hn : 1 ≤ n) (J Jx : List Nat → World → Prop)
    (hY : ∀ pre x W, J pre W → pre.length < 1 → YieldAt Fence.wide (n - 1) Try.prog l #[.int .i64 (x : Nat)] W fun r W' =>
      (r = .returned (.bool true) ∧ J (pre ++ [x]) W' ∧ Same S W W') ∨ (r = .returned (.bool false) ∧ Jx (pre ++ [x]) W'))
    (W : World) (hBs : W.cell? ⟨Bs, 0, none⟩ = some (.slice a 0 cap)) (_hBcc : W.cell? ⟨Bc, 0, none⟩ = some (.int .i64 cpu)) (h0 : J [] W) :
    CallsIn Fence.wide n Try.prog 16 #[.func (.yield l) #[] #[], .pointer (some ⟨Bs, 0, none⟩), .pointer (some ⟨Bc, 0, none⟩)] W fun r W' => (∃ v, r = .returned v) ∧
      ((∃ ys, ys = [0] ∧ J ys W') ∨ (∃ pre, Jx pre W')) := by
  refine callsIn_of_wp Try.func16 rfl trivial ?_ rfl
  simp only [Try.ntmps16, List.size_toArray, List.length_cons, List.length_nil, Nat.reduceAdd, Nat.reduceSub, Array.replicate_succ, Array.replicate_zero, List.push_toArray, List.append_toArray, List.nil_append, List.cons_append]
  gi_wp2
  gi_loopw [4, 9] (fun v i wr => i = .int .i64 0 ∧ v = .int .i64 0 ∧ J [] wr) (fun _ _ _ => 0)
  case atStart => exact ⟨rfl, rfl, h0⟩
  case round =>
    obtain ⟨rfl, rfl, hJs⟩ := hrel
    obtain ⟨fn, tmps, assign, body, hy, hR⟩ := hY [] 0 wr hJs (by simp)
    rw [show ((0 : Nat) : Int) = 0 from rfl] at hy
    gi_wp2
    refine hR.mono ?_
    rintro r W3 (⟨rfl, hJ3, hk3⟩ | ⟨rfl, hx3⟩)
    · gi_wp2
      go_end0
      exact ⟨⟨_, rfl⟩, .inl ⟨_, rfl, hJ3⟩⟩
    · gi_wp2
      go_end0
      exact ⟨⟨_, rfl⟩, .inr ⟨_, hx3⟩⟩

/-- A slice of entries: of none, or in a block below n₀. -/
def Ents (n₀ : Nat) (w : World) (a : Option Addr) (len : Nat) (e : Nat → E) : Prop :=
  len * 40 ≤ 140737488351232 ∧ (len = 0 ∨ ∃ b off, a = some ⟨b, off, none⟩ ∧ b < n₀ ∧ Cells w b off len e)

theorem Ents.below {n₀ : Nat} {w w' : World} {a : Option Addr} {len : Nat} {e : Nat → E} (h : Below n₀ w w') (hc : Ents n₀ w a len e) : Ents n₀ w' a len e :=
  ⟨hc.1, hc.2.imp id fun ⟨b, off, ha, hb, hc⟩ => ⟨b, off, ha, hb, hc.below hb h⟩⟩

theorem Ents.mono {n₀ n₁ : Nat} {w : World} {a : Option Addr} {len : Nat} {e : Nat → E} (h : n₀ ≤ n₁) (hc : Ents n₀ w a len e) : Ents n₁ w a len e :=
  ⟨hc.1, hc.2.imp id fun ⟨b, off, ha, hb, hc⟩ => ⟨b, off, ha, by omega, hc⟩⟩

/-- What a round of a loop over the gaps keeps: what lay ahead of the call, and the iterator's own box. -/
def Keep (n₀ Bc k : Nat) : Prop := k < n₀ ∨ k = Bc

theorem gaps_stops (n Bs Bc n₀ len cap : Nat) (a : Option Addr) (cpu : Int) (e : Nat → E) (w : World) (hn : 1 ≤ n) (hBc : Bc < w.heap.size) (hBs : Bs < w.heap.size) (hn₀ : n₀ ≤ w.heap.size)
    (hc : w.cell? ⟨Bs, 0, none⟩ = some (.slice a len cap)) (hcc : w.cell? ⟨Bc, 0, none⟩ = some (.int .i64 cpu)) (hI : Ents n₀ w a len e) :
    SeqStopsK Fence.wide n Try.prog 16 #[.pointer (some ⟨Bs, 0, none⟩), .pointer (some ⟨Bc, 0, none⟩)] (fun x : Nat => #[Value.int .i64 x]) (Same (Keep n₀ Bc)) (fun ys => ys = gapsGo (steps e len cpu) 0) (fun _ => True) (len + 1) w := by
  intro l J Jx W hW hJ _ hY h0
  have hc' := (hW.cell (p := ⟨Bs, 0, none⟩) hBs).trans hc
  have hcc' := (hW.cell (p := ⟨Bc, 0, none⟩) hBc).trans hcc
  rcases hI with ⟨hreach, rfl | ⟨b, off, rfl, hb, hcs⟩⟩
  · refine (gaps1_none_in (Keep n₀ Bc) n l Bs Bc cap a cpu hn J Jx hY W hc' hcc' h0).mono ?_
    rintro r W' ⟨hr, ⟨ys, rfl, hj⟩ | ⟨pre, hj⟩⟩
    · exact ⟨hr, .inl ⟨_, by simp [steps, gapsGo], hj⟩⟩
    · exact ⟨hr, .inr ⟨_, trivial, hj⟩⟩
  · refine (gaps1_in n l Bs Bc b off len cap cpu e hn hreach (Keep n₀ Bc) (.inl hb) (.inr rfl) J Jx hY W ?_ hJ hc' hcc' (hcs.below (by omega) hW) h0).mono ?_
    · rintro k (hk | rfl) <;> have := hW.size <;> omega
    rintro r W' ⟨hr, ⟨ys, rfl, hj⟩ | ⟨pre, hj⟩⟩
    · exact ⟨hr, .inl ⟨_, rfl, hj⟩⟩
    · exact ⟨hr, .inr ⟨_, trivial, hj⟩⟩

/-- The greatest of some. -/
def most (l : List Nat) : Nat := l.foldl max 0
theorem most_snoc (l : List Nat) (x : Nat) : most (l ++ [x]) = max (most l) x := by simp [most]
def gapOf (e : Nat → E) (len : Nat) (cpu : Int) : Nat := most (gapsGo (steps e len cpu) 0)

set_option maxRecDepth 100000 in
set_option maxHeartbeats 2000000 in
theorem gap_in (a : Option Addr) (len cap : Nat) (cpu : Int) (e : Nat → E) (w : World) (hI : Ents w.heap.size w a len e) :
    CallsIn Fence.wide 5 Try.prog 5 #[.slice a len cap, .int .i64 cpu] w fun r w' => r = .returned (.int .i64 (gapOf e len cpu : Nat)) ∧ Below w.heap.size w w' := by
  refine callsIn_of_wp_marks Try.func5 rfl trivial ?_ rfl
  simp only [Try.ntmps5, List.size_toArray, List.length_cons, List.length_nil, Nat.reduceAdd, Nat.reduceSub, Array.replicate_succ, Array.replicate_zero, List.push_toArray, List.append_toArray, List.nil_append, List.cons_append]
  gi_wp2_with (refine ⟨trivial, ?_⟩; gi_at_call 10; refine (callsIn_wide.2 (gaps_any _ _ _ _ _)).mono ?_; rintro r w' ⟨rfl, rfl⟩)
  obtain ⟨W0, hW0⟩ : ∃ W0, ((w.alloc (.cells #[.int .i64 0] 3)).alloc (.cells #[.slice a len cap] 22)).alloc (.cells #[.int .i64 cpu] 3) = W0 := ⟨_, rfl⟩
  have hsz : W0.heap.size = w.heap.size + 3 := by rw [← hW0]; simp
  have hb0 : Below w.heap.size w W0 := by rw [← hW0]; exact (((Below.refl _ _).alloc (Nat.le_refl _) _).alloc (by simp) _).alloc (by simp; omega) _
  have hc0 : W0.cell? ⟨w.heap.size, 0, none⟩ = some (.int .i64 0) := by rw [← hW0]; simp [go_sem]
  have hf0 : W0.frozen? ⟨w.heap.size, 0, none⟩ = false := by rw [← hW0]; simp [go_sem]
  have hc1 : W0.cell? ⟨w.heap.size + 1, 0, none⟩ = some (.slice a len cap) := by rw [← hW0]; simp [go_sem]
  have hc2 : W0.cell? ⟨w.heap.size + 1 + 1, 0, none⟩ = some (.int .i64 cpu) := by rw [← hW0]; simp [go_sem]
  rw [hW0]
  clear hW0
  refine wpIn_rangeFunc_ownF rfl (by omega) (gf := 16) (lb := #[.pointer (some ⟨w.heap.size + 1, 0, none⟩), .pointer (some ⟨w.heap.size + 1 + 1, 0, none⟩)]) rfl trivial (enters_of Try.func16 (by kernel_rfl) rfl)
    (gaps_stops 4 (w.heap.size + 1) (w.heap.size + 1 + 1) w.heap.size len cap a cpu e W0 (by omega) (by omega) (by omega) (by omega) hc1 hc2 (hI.below hb0))
    (fun h k => h.trans k) (fun W l o o' hl ho h1 h2 => ⟨by simp, fun k hk => World.putObj_heap_other (by rcases hk with hk | hk <;> omega)⟩) (Below.refl _ _) (fun _ => rfl)
    (fun pre W => (W.cell? ⟨w.heap.size, 0, none⟩ = some (.int .i64 (most pre : Nat)) ∧ W.frozen? ⟨w.heap.size, 0, none⟩ = false) ∧ Below w.heap.size w W)
    (fun _ _ _ => False)
    (OwnFrom.and (Own.from (fun s A B row hs hg hr => ⟨cell_kept hs.1 hg hr, (frozen_kept hs.1 hg hr).trans hs.2⟩) _) (ownFrom_below (Nat.le_refl _) (by omega)))
    (fun _ _ _ _ _ hs _ _ => hs.elim)
    ⟨⟨hc0, hf0⟩, hb0⟩
    (fun x => { tmps := #[.slice a len cap, .int .i64 cpu, undef, undef, .pointer (some ⟨w.heap.size, 0, none⟩), .int .i64 (x : Nat), .slice a len cap, .int .i64 cpu, .func (.func 16) #[] #[.pointer (some ⟨w.heap.size + 1, 0, none⟩), .pointer (some ⟨w.heap.size + 1 + 1, 0, none⟩)], .int .i64 (x : Nat), undef, undef, undef, undef], defers := [] }) ?assign ?body ?done ?stop
  case assign =>
    intro l x W K hK
    gi_wp2
    exact hK
  case body =>
    rintro l pre x W ⟨⟨hc, hf⟩, hB⟩ _
    gi_wp2
    all_goals
      have hm : max (most pre) x = most (pre ++ [x]) := (most_snoc _ _).symm
      refine ⟨KeepsOthers.setCell _ _ _, ⟨by simp, fun k hk => Below.heap_setCell _ _ _ _ (by rcases hk with hk | hk <;> simp <;> omega)⟩, ⟨?_, by rw [World.frozen?_setCell]; exact hf⟩, hB.setCell (p := ⟨w.heap.size, 0, none⟩) (Nat.le_refl _) _⟩
      rw [World.cell?_setCell_same _ _ _ hc, ← hm]
      congr 3
      omega
  case done =>
    rintro D ys W hD rfl ⟨⟨hc, hf⟩, hB⟩ hK
    gi_wp2
    have hc' : (W.setCell ⟨w.heap.size, 0, none⟩ (.int .i64 (most (gapsGo (steps e len cpu) 0) : Nat))).cell? ⟨w.heap.size, 0, none⟩ = some (.int .i64 (most (gapsGo (steps e len cpu) 0) : Nat)) := World.cell?_setCell_same _ _ _ hc
    have hK' : (W.setCell ⟨w.heap.size, 0, none⟩ (.int .i64 (most (gapsGo (steps e len cpu) 0) : Nat))).heap[D]? = some (.deferred (some [])) := (KeepsOthers.setCell _ _ _).same D _ hK rfl
    have hB' := hB.setCell (p := ⟨w.heap.size, 0, none⟩) (Nat.le_refl _) (.int .i64 (most (gapsGo (steps e len cpu) 0) : Nat))
    refine ⟨by simp, .inl ⟨_, _, rfl, run_takeDeferred hK', ?_⟩⟩
    have hc5 := cell_kept hc' (grownBy_putObj' _ D (.deferred none)) (fun r e => by cases e; exact ⟨_, hK', rfl⟩)
    refine ⟨_, by simp [results, Try.results5, go_sem, hc5, gapOf], rfl, hB'.trans (belowK_b (w := w) (Nat.le_refl _) _ D _ _ (by omega) hK' rfl rfl)⟩
  case stop =>
    rintro D c pre W _ _ h _
    exact h.elim

theorem gap_any (a : Option Addr) (len cap : Nat) (cpu : Int) (e : Nat → E) (w : World) (hI : Ents w.heap.size w a len e) :
    Calls Try.prog 5 #[.slice a len cap, .int .i64 cpu] w fun r w' => r = .returned (.int .i64 (gapOf e len cpu : Nat)) ∧ Below w.heap.size w w' :=
  callsIn_wide.1 (gap_in a len cap cpu e w hI)
end Go.Proofs.Ytnldnhmkljfodaa
