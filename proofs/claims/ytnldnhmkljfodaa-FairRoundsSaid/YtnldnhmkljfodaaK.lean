/- A part of the proof that a round of any workers is even (contracts of Steps, Max, Min, Even of package fair). No condition. -/
import Derived.Test.YtnldnhmkljfodaaI
namespace Go.Proofs.Ytnldnhmkljfodaa
open Go.RowKit

def cnt (e : Nat → E) (len : Nat) (cpu : Int) : Nat := ((List.range len).filter fun k => isB (e k) cpu).length
theorem cnt_succ (e : Nat → E) (len : Nat) (cpu : Int) : cnt e (len + 1) cpu = cnt e len cpu + if isB (e len) cpu then 1 else 0 := by
  simp only [cnt, List.range_succ, List.filter_append, List.length_append]
  cases h : isB (e len) cpu <;> simp [List.filter_cons, h]
theorem cnt_le (e : Nat → E) (len : Nat) (cpu : Int) : cnt e len cpu ≤ len := by
  have := List.length_filter_le (fun k => isB (e k) cpu) (List.range len)
  simpa [cnt] using this

theorem Try.info3 : (Try.prog.info? 3).map (fun i => (i.zero, i.size, i.bytes)) = some (some (.int .i64 0), 1, 8) := by kernel_rfl

def cnts (e : Nat → E) (len : Nat) (c : Nat → Int) (k : Nat) : List Value := (List.range k).map fun j => .int .i64 (cnt e len (c j) : Nat)
theorem cnts_succ (e : Nat → E) (len : Nat) (c : Nat → Int) (k : Nat) : cnts e len c (k + 1) = cnts e len c k ++ [.int .i64 (cnt e len (c k) : Nat)] := by simp [cnts, List.range_succ]

set_option maxRecDepth 100000 in
set_option maxHeartbeats 2000000 in
theorem steps_any (a ac : Option Addr) (len cap lc cc : Nat) (e : Nat → E) (c : Nat → Int) (w : World) (hI : Ents w.heap.size w a len e) (hC : Ints w.heap.size w ac lc c) :
    Calls Try.prog 13 #[.slice a len cap, .slice ac lc cc] w fun r w' => ∃ v, r = .returned v ∧ w'.ownsRow w.heap.size 3 1 v lc (cnts e len c lc) ∧ Below w.heap.size w w' := by
  obtain ⟨hrc, hC⟩ := hC
  obtain ⟨hre, hI⟩ := hI
  have HI := Lib.hid hI
  have HC := Lib.hid hC
  clear hI hC
  obtain ⟨i0, hi, hz0, hz1, hz2⟩ := info_parts Try.info3
  go_enter Try.func13, Try.ntmps13
  go_wp2_with fail
  go_loopw [4, 12] (fun v i wr => ∃ k : Nat, k ≤ lc ∧ i = .int .i64 k ∧ wr.ownsRow w.heap.size 3 1 v k (cnts e len c k) ∧ Below w.heap.size w wr) (fun _ i _ => lc - (intOf i).toNat)
  case atStart => exact ⟨0, Nat.zero_le _, rfl, by simpa [cnts] using World.ownsRow_nil _ _ _ _, Below.refl _ _⟩
  case round =>
    obtain ⟨k, hk, rfl, hown, hB⟩ := hrel
    obtain ⟨wo, rfl⟩ : ∃ wo : World, wo = wr := ⟨_, rfl⟩
    by_cases hlt : k < lc
    · rcases HC.out with h0 | ⟨b, off, rfl, hb, hc⟩
      · omega
      have hck := (hB.cell (p := ⟨b, off + k, none⟩) hb).trans (hc k hlt)
      clear hc
      have HO := Lib.hid hown
      have HB := Lib.hid hB
      clear hown hB
      go_wp2_with fail
      go_loopw [7, 18] (fun v i wr => ∃ j : Nat, j ≤ len ∧ i = .int .i64 j ∧ v = .int .i64 (cnt e j (c k) : Nat) ∧ Below wo.heap.size wo wr) (fun _ i _ => len - (intOf i).toNat)
      case atStart => exact ⟨0, Nat.zero_le _, rfl, rfl, Below.refl _ _⟩
      case round =>
        obtain ⟨j, hj, rfl, rfl, hB2⟩ := hrel
        by_cases hltj : j < len
        · rcases HI.out with h0 | ⟨b2, off2, rfl, hb2, hcs⟩
          · omega
          have hs := HB.out.size
          obtain ⟨c0, c1, c2, c3, c4⟩ := ((hcs.below hb2 HB.out).below (by omega) hB2) j hltj
          have Hs := Lib.hid (cnt_succ e j (c k))
          have hle := cnt_le e j (c k)
          clear hcs
          have hs2 := hB2.size
          cases hB3 : isB (e j) (c k) with
          | true =>
            go_wp2_with (go_at_call 17; refine (is_any (e j) (c k) _).mono ?_; rintro r w' ⟨rfl, rfl⟩)
            go_roundw
            case rel => exact ⟨j + 1, by omega, by go_num, by rw [Hs.out, hB3]; go_num, (hB2.alloc hs2 _).alloc (by simp; omega) _⟩
            case measure => simp [intOf]; omega
          | false =>
            go_wp2_with (go_at_call 17; refine (is_any (e j) (c k) _).mono ?_; rintro r w' ⟨rfl, rfl⟩)
            go_roundw
            case rel => exact ⟨j + 1, by omega, by go_num, by rw [Hs.out, hB3]; rfl, (hB2.alloc hs2 _).alloc (by simp; omega) _⟩
            case measure => simp [intOf]; omega
        · obtain rfl : j = len := by omega
          have hown2 : wr.ownsRow w.heap.size 3 1 u4 k (cnts e j c k) := by
            refine HO.out.kept (row := none) ⟨hB2.os, hB2.tape, hB2.output, hB2.size, fun i hi _ => hB2.block i hi⟩ ?_
            cases u4.ownBlock <;> simp
          have hBw : Below w.heap.size w wr := HB.out.trans (hB2.mono HB.out.size)
          have HBw := Lib.hid hBw
          have hs2 := hBw.size
          have Hs := Lib.hid (cnts_succ e j c k)
          clear hB2 hBw
          go_wp2_with (at_builtin; refine wpList_append_own _ rfl _ _ 23 rfl w.heap.size 3 i0 _ 1 8 Try.underlying23 hi hz0 hz1 hz2 rfl (by decide) _ _ _ rfl (hown2.alloc _) ⟨wr.heap.size, 0, none⟩ 1 1 [.int .i64 (cnt e j (c k) : Nat)] rfl rfl (cell_one_new _ _ _) (by simp [Value.oneCell']) (by simp only [maxLen]; omega) (by omega) (by simp; omega) ?_; intro v' w1 hown' hgrow _)
          have hown3 : w1.ownsRow w.heap.size 3 1 v' (k + 1) (cnts e j c (k + 1)) := by rw [Hs.out]; exact hown'
          exact ⟨⟨k + 1, by omega, by go_num, hown3, (HBw.out.alloc hs2 _).grown hgrow (by simp; omega) (fun i hi => (hown2.lt i hi).1)⟩, by simp [intOf]; omega⟩
    · obtain rfl : k = lc := by omega
      go_wp2_with fail
      go_ret
      exact ⟨_, rfl, hown, hB⟩

theorem smax_new {s : Nat → Nat} {k M : Nat} (he : ∃ j, j < k ∧ M = s j) (ha : ∀ j, j < k → s j ≤ M) (M' : Nat) (h : M' = max M (s k)) : (∃ j, j < k + 1 ∧ M' = s j) ∧ (∀ j, j < k + 1 → s j ≤ M') := by
  obtain ⟨i, hi, rfl⟩ := he
  refine ⟨?_, fun j hj => ?_⟩
  · by_cases h2 : M' = s k
    · exact ⟨k, by omega, h2⟩
    · exact ⟨i, by omega, by omega⟩
  · by_cases h2 : j = k
    · subst h2; omega
    · have := ha j (by omega); omega

set_option maxHeartbeats 1000000 in
theorem smax_any (b off lc cc : Nat) (s : Nat → Nat) (w : World) (hr : lc * 8 ≤ 140737488351232) (hl : 0 < lc) (hs : ∀ j, j < lc → s j ≤ 140737488351232) (hc : ∀ j, j < lc → w.cell? ⟨b, off + j, none⟩ = some (.int .i64 (s j : Nat))) :
    Calls Try.prog 14 #[.slice (some ⟨b, off, none⟩) lc cc] w fun r w' => ∃ M : Nat, r = .returned (.int .i64 (M : Nat)) ∧ (∃ j, j < lc ∧ M = s j) ∧ (∀ j, j < lc → s j ≤ M) ∧ w = w' := by
  have h0 : w.cell? ⟨b, off, none⟩ = some (.int .i64 (s 0 : Nat)) := hc 0 hl
  have hn : ¬ (lc : Int) < 1 := by omega
  go_enter Try.func14, Try.ntmps14
  go_wp2_with fail
  go_loop [3, 4] (fun m i => ∃ (k M : Nat), 1 ≤ k ∧ k ≤ lc ∧ i = .int .i64 k ∧ m = .int .i64 M ∧ (∃ j, j < k ∧ M = s j) ∧ (∀ j, j < k → s j ≤ M)) (fun _ i => lc - (intOf i).toNat)
  case atStart =>
    refine ⟨1, s 0, by omega, by omega, rfl, rfl, ⟨0, by omega, rfl⟩, fun j hj => ?_⟩
    obtain rfl : j = 0 := by omega
    exact Nat.le_refl _
  case round =>
    obtain ⟨k, M, hk1, hk, rfl, rfl, hex, hall⟩ := hrel
    by_cases hlt : k < lc
    · have hck := hc k hlt
      have HN := Lib.hid (smax_new hex hall)
      have hM : M ≤ 140737488351232 := by obtain ⟨j, hj, rfl⟩ := hex; exact hs j (by omega)
      have hsk := hs k hlt
      clear hex hall hc hs h0
      go_wp2_with fail
      all_goals
        go_round
        case rel => exact ⟨k + 1, max M (s k), by omega, by omega, by go_num, congrArg (Value.int .i64) (by split <;> omega), HN.out _ rfl⟩
        case measure => simp [intOf]; omega
    · obtain rfl : k = lc := by omega
      go_wp2_with fail
      go_ret
      exact ⟨M, rfl, hex, hall, rfl⟩

theorem smin_new {s : Nat → Nat} {k M : Nat} (he : ∃ j, j < k ∧ M = s j) (ha : ∀ j, j < k → s j ≥ M) (M' : Nat) (h : M' = min M (s k)) : (∃ j, j < k + 1 ∧ M' = s j) ∧ (∀ j, j < k + 1 → s j ≥ M') := by
  obtain ⟨i, hi, rfl⟩ := he
  refine ⟨?_, fun j hj => ?_⟩
  · by_cases h2 : M' = s k
    · exact ⟨k, by omega, h2⟩
    · exact ⟨i, by omega, by omega⟩
  · by_cases h2 : j = k
    · subst h2; omega
    · have := ha j (by omega); omega

set_option maxHeartbeats 1000000 in
theorem smin_any (b off lc cc : Nat) (s : Nat → Nat) (w : World) (hr : lc * 8 ≤ 140737488351232) (hl : 0 < lc) (hs : ∀ j, j < lc → s j ≤ 140737488351232) (hc : ∀ j, j < lc → w.cell? ⟨b, off + j, none⟩ = some (.int .i64 (s j : Nat))) :
    Calls Try.prog 15 #[.slice (some ⟨b, off, none⟩) lc cc] w fun r w' => ∃ M : Nat, r = .returned (.int .i64 (M : Nat)) ∧ (∃ j, j < lc ∧ M = s j) ∧ (∀ j, j < lc → s j ≥ M) ∧ w = w' := by
  have h0 : w.cell? ⟨b, off, none⟩ = some (.int .i64 (s 0 : Nat)) := hc 0 hl
  have hn : ¬ (lc : Int) < 1 := by omega
  go_enter Try.func15, Try.ntmps15
  go_wp2_with fail
  go_loop [3, 4] (fun m i => ∃ (k M : Nat), 1 ≤ k ∧ k ≤ lc ∧ i = .int .i64 k ∧ m = .int .i64 M ∧ (∃ j, j < k ∧ M = s j) ∧ (∀ j, j < k → s j ≥ M)) (fun _ i => lc - (intOf i).toNat)
  case atStart =>
    refine ⟨1, s 0, by omega, by omega, rfl, rfl, ⟨0, by omega, rfl⟩, fun j hj => ?_⟩
    obtain rfl : j = 0 := by omega
    exact Nat.le_refl _
  case round =>
    obtain ⟨k, M, hk1, hk, rfl, rfl, hex, hall⟩ := hrel
    by_cases hlt : k < lc
    · have hck := hc k hlt
      have HN := Lib.hid (smin_new hex hall)
      have hM : M ≤ 140737488351232 := by obtain ⟨j, hj, rfl⟩ := hex; exact hs j (by omega)
      have hsk := hs k hlt
      clear hex hall hc hs h0
      go_wp2_with fail
      all_goals
        go_round
        case rel => exact ⟨k + 1, min M (s k), by omega, by omega, by go_num, congrArg (Value.int .i64) (by split <;> omega), HN.out _ rfl⟩
        case measure => simp [intOf]; omega
    · obtain rfl : k = lc := by omega
      go_wp2_with fail
      go_ret
      exact ⟨M, rfl, hex, hall, rfl⟩

theorem even_any (a ac : Option Addr) (len cap lc cc q : Nat) (e : Nat → E) (c : Nat → Int) (w : World) (hI : Ents w.heap.size w a len e) (hC : Ints w.heap.size w ac lc c) (hl : 0 < lc)
    (hq : ∀ j, j < lc → q ≤ cnt e len (c j) ∧ cnt e len (c j) ≤ q + 1) :
    Calls Try.prog 9 #[.slice a len cap, .slice ac lc cc] w fun r w' => r = .returned (.bool true) ∧ Below w.heap.size w w' := by
  have hrc := hC.1
  have hre := hI.1
  have HI := Lib.hid hI
  have HC := Lib.hid hC
  have HQ := Lib.hid hq
  clear hI hC hq
  go_enter Try.func9, Try.ntmps9
  go_wp2_with fail
  refine (steps_any _ _ _ _ _ _ e c _ HI.out HC.out).mono ?_
  rintro r w1 ⟨v, rfl, hown, hb⟩
  obtain ⟨lc, rfl⟩ : ∃ m, lc = m + 1 := ⟨lc - 1, by omega⟩
  obtain ⟨g, cp, rfl⟩ := ownsRow_succ hown
  have hcs : ∀ j, j < lc + 1 → w1.cell? ⟨g, 0 + j, none⟩ = some (.int .i64 (cnt e len (c j) : Nat)) := fun j hj => by
    rw [Nat.zero_add, hown.cellAt j (by omega)]
    simp [cnts, hj]
  have hle : ∀ j, j < lc + 1 → cnt e len (c j) ≤ 140737488351232 := fun j hj => by have := cnt_le e len (c j); omega
  have HS := Lib.hid (smax_any g 0 (lc + 1) cp (fun j => cnt e len (c j)) w1 hrc hl hle hcs)
  have HT := Lib.hid (smin_any g 0 (lc + 1) cp (fun j => cnt e len (c j)) w1 hrc hl hle hcs)
  have HB := Lib.hid hb
  have HL := Lib.hid hle
  have hne : (((lc : Int) + 1) == 0) = false := by simp; omega
  clear hown hcs hb hle
  go_wp2_with fail
  refine HS.out.mono ?_
  rintro r w2 ⟨M, rfl, ⟨j1, hj1, rfl⟩, h2, rfl⟩
  have h4 := HQ.out j1 hj1
  have h5 := HL.out j1 hj1
  clear h2
  go_wp2_with fail
  refine HT.out.mono ?_
  rintro r w2 ⟨M2, rfl, ⟨j2, hj2, rfl⟩, h2', rfl⟩
  have h6 := HQ.out j2 hj2
  have h7 := HL.out j2 hj2
  clear h2'
  generalize cnt e len (c j1) = A at *
  generalize cnt e len (c j2) = B at *
  go_wp2_with fail
  go_ways
  go_ret
  exact ⟨by simp; omega, HB.out⟩
end Go.Proofs.Ytnldnhmkljfodaa
