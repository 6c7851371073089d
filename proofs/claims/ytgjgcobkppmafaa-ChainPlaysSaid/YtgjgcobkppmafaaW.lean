/- A part of the proof of ChainPlays: the walk of the law. No condition. -/
import Derived.Test.YtgjgcobkppmafaaX
import Derived.Deep.OwnRows
namespace Go.Proofs.Ytgjgcobkppmafaa
open Go.RowKit Go.Deep

/-- An operation. -/
structure Opn where
  kind : Int
  list : Int
  node : Int

/-- The cells of a slice of operations. -/
def OpCells (w : World) (b off len : Nat) (e : Nat → Opn) : Prop :=
  ∀ k, k < len → w.cell? ⟨b, off + k * 3, none⟩ = some (.int .u64 (e k).kind) ∧ w.cell? ⟨b, off + k * 3 + 1, none⟩ = some (.int .i64 (e k).list) ∧ w.cell? ⟨b, off + k * 3 + 2, none⟩ = some (.int .i64 (e k).node)

theorem OpCells.below {n₀ : Nat} {w w' : World} {b off len : Nat} {e : Nat → Opn} (hb : b < n₀) (h : Below n₀ w w') (hc : OpCells w b off len e) : OpCells w' b off len e := fun k hk =>
  ⟨(h.cell (p := ⟨b, _, none⟩) hb).trans (hc k hk).1, (h.cell (p := ⟨b, _, none⟩) hb).trans (hc k hk).2.1, (h.cell (p := ⟨b, _, none⟩) hb).trans (hc k hk).2.2⟩

def SlOk (a : Option Addr) (len cap : Nat) : Prop := (a = none ∧ len = 0 ∧ cap = 0) ∨ ∃ x, a = some x ∧ len ≤ cap ∧ cap ≤ 9223372036854775807
def RawO (w : World) (a : Option Addr) (len : Nat) (e : Nat → Opn) : Prop := len = 0 ∨ ∃ b off, a = some ⟨b, off, none⟩ ∧ b < w.heap.size ∧ OpCells w b off len e ∧ ∀ k, k < len → 0 ≤ (e k).kind ∧ (e k).kind ≤ 18446744073709551615

theorem RawO.take {w : World} {a : Option Addr} {len m : Nat} {e : Nat → Opn} (h : RawO w a len e) (hm : m ≤ len) : RawO w a m e := by
  rcases h with h | ⟨b, off, ha, hb, hc, hr⟩
  · exact .inl (by omega)
  · exact .inr ⟨b, off, ha, hb, fun k hk => hc k (by omega), fun k hk => hr k (by omega)⟩

theorem Try.info61 : (Try.prog.info? 61).map (fun i => (i.zero, i.size, i.bytes)) = some (some (.slice none 0 0), 1, 24) := by kernel_rfl

theorem madeAt (z : Value) (n i : Nat) (h : i < n) : (madeCells #[z] n)[i]? = some z := by
  have : (madeCells #[z] n).toList[i]? = some z := by rw [toList_madeCells_one, List.getElem?_replicate]; simp [h]
  simpa using this

set_option maxRecDepth 100000 in
set_option maxHeartbeats 4000000 in
theorem plays_any (a0 a1 : Int) (a : Option Addr) (len cap : Nat) (e : Nat → Opn) (w : World) (h0 : 0 ≤ a0) (h1 : a0 ≤ 18446744073709551615) (h2 : 0 ≤ a1) (h3 : a1 ≤ 18446744073709551615) (ha : SlOk a len cap) (hI : RawO w a len e) :
    Calls Try.prog 5 #[.int .u64 a0, .int .u64 a1, .slice a len cap] w fun r w' => r = .returned (.bool true) ∧ Below w.heap.size w w' := by
  have HI := Lib.hid hI
  clear hI
  obtain ⟨N, hN⟩ : ∃ N : Nat, a0 % 13 = N := ⟨(a0 % 13).toNat, by omega⟩
  obtain ⟨M, hM⟩ : ∃ M : Nat, a1 % 7 = M := ⟨(a1 % 7).toNat, by omega⟩
  have hN2 : N < 13 := by omega
  have hM2 : M < 7 := by omega
  have hcN : cntOf N = N := by unfold cntOf; omega
  have hcM : cntOf M = M := by unfold cntOf; omega
  have HNew := Lib.hid (fun w => New_any N M w (by omega) (by omega) (by omega) (by omega))
  rw [hcN, hcM] at HNew
  clear hcN hcM
  have hmk := run_make_row' (P := Try.prog) 40 61 (.slice none 0 0) 24 Try.underlying40 Try.info61 rfl .i64 .i64 M (by omega) (by omega)
  go_enter Try.func5, Try.ntmps5
  go_upto_region 2 with fail
  go_cut [2, 7, 8] (fun u1 u7 u8 wr => ∃ (m cap' : Nat), u1 = .slice a m cap' ∧ m ≤ len ∧ m ≤ 50 ∧ u7 = .int .i64 N ∧ u8 = .int .i64 M ∧ w = wr)
  case first =>
    rcases ha with ⟨rfl, rfl, rfl⟩ | ⟨x, rfl, hcap, hm⟩
    · go_wp2_with fail
      go_meet
      case rel => exact ⟨0, _, rfl, by omega, by omega, by simp only [Value.int.injEq, true_and], by simp only [Value.int.injEq, true_and], rfl⟩
    · by_cases h2 : (50 : Int) < len
      all_goals
        go_wp2_with fail
        all_goals
          go_meet
          case rel => exact ⟨_, _, rfl, by omega, by omega, by simp only [Value.int.injEq, true_and], by simp only [Value.int.injEq, true_and], rfl⟩
  case rest =>
    obtain ⟨m, cap', rfl, hm, hm2, rfl, rfl, rfl⟩ := hcut
    have HO := Lib.hid (HI.out.take hm)
    clear HI ha hN hM
    go_wp2_with fail
    refine (HNew.out _).mono ?_
    rintro r w1 ⟨c, bn, bl, vn, vl, rfl, hlc, hln, hll, hH, hB1⟩
    have hs1 := hB1.size
    have HH := Lib.hid hH
    have HB1 := Lib.hid hB1
    have HLow := Lib.hid (And.intro hlc (And.intro hln hll))
    clear hH hB1 hlc hln hll HNew
    go_upto_region 5 with fail
    obtain ⟨S, hS⟩ : ∃ S, w1.heap.size = S := ⟨_, rfl⟩
    obtain ⟨W2, hW2⟩ : ∃ W2, (w1.alloc (.cells (madeCells #[.slice none 0 0] M) 61)).alloc (.cells #[.int .i64 N, .slice (some ⟨S, 0, none⟩) M M] 42) = W2 := ⟨_, rfl⟩
    have hsz2 : W2.heap.size = S + 2 := by rw [← hW2, ← hS]; simp
    have hb2 : Below w1.heap.size w1 W2 := by rw [← hW2]; exact ((Below.refl _ _).alloc (Nat.le_refl _) _).alloc (by simp) _
    have hX : IsRx W2 (S + 1) S M (S + 2) (fun _ => .slice none 0 0) N M (fun _ => []) := by
      refine ⟨?_, ?_, fun i hi => World.ownsRow_nil _ _ _ _, by omega, by omega, fun i _ => Nat.zero_le _⟩
      · rw [← hW2, ← hS]
        have := Blk.new (w1.alloc (.cells (madeCells #[.slice none 0 0] M) 61)) #[.int .i64 N, .slice (some ⟨w1.heap.size, 0, none⟩) M M] 42
        rw [World.size_alloc] at this
        exact this.congr fun o ho => by
          match o, ho with
          | 0, _ => rfl
          | 1, _ => rfl
      · rw [← hW2, ← hS]
        refine Blk.alloc ?_ _
        have := Blk.new w1 (madeCells #[.slice none 0 0] M) 61
        rw [size_madeCells] at this
        exact this.congr fun o ho => by rw [madeAt _ _ _ ho]; rfl
    have HBo := Lib.hid (show Both W2 c bn bl vn vl (S + 1) S M (S + 2) N M from ⟨_, _, HH.out.below hb2, hX⟩)
    have HSp := Lib.hid (show Sp c bn bl (S + 1) S (S + 2) N M by
      obtain ⟨q1, q2, q3⟩ := HH.out.ltz
      exact ⟨by omega, fun h => by have := q2 h; omega, fun h => by have := q3 h; omega⟩)
    have HB2 := Lib.hid (HB1.out.trans (hb2.mono hs1))
    have HAl := Lib.hid (show ∀ k, k < w.heap.size → ¬ Alz N M bn bl S k from fun k hk h => by
      obtain ⟨q1, q2, q3⟩ := HLow.out
      rcases h with (⟨-, b⟩ | ⟨-, b⟩) | b <;> omega)
    rw [hS]
    rw [hW2]
    clear hW2 hX hb2 HH HB1 hmk hs1 hS
    go_wp2_with fail
    refine (alike_any HBo.out (by omega) (by omega)).mono ?_
    rintro r w3 ⟨rfl, hb3⟩
    have HBo3 := Lib.hid (show Both w3 c bn bl vn vl (S + 1) S M (S + 2) N M by
      obtain ⟨R, V, a, b⟩ := HBo.out
      exact ⟨R, V, a.below hb3, b.below hb3⟩)
    have HB3 := Lib.hid (HB2.out.trans (hb3.mono HB2.out.size))
    clear hb3 HBo HB2 hsz2
    go_wp2_with fail
    go_loopw [42] (fun i wr => ∃ k : Nat, k ≤ m ∧ i = .int .i64 k ∧ Both wr c bn bl vn vl (S + 1) S M (S + 2) N M ∧ Below w.heap.size w wr) (fun i _ => m - (intOf i).toNat)
    case atStart => exact ⟨0, Nat.zero_le _, rfl, HBo3.out, HB3.out⟩
    case round =>
      clear HBo3 HB3
      obtain ⟨k, hk, rfl, hBo, hB⟩ := hrel
      by_cases hlt : k < m
      · rcases HO.out with h0 | ⟨ob, off, rfl, hob, hoc, hor⟩
        · omega
        obtain ⟨c0, c1, c2⟩ := (hoc.below hob hB) k hlt
        obtain ⟨r0, r1⟩ := hor k hlt
        have hbl : ob < wr.heap.size := by have := hB.size; omega
        clear hoc hor
        have HBo := Lib.hid (show ∀ o, Both (wr.alloc o) c bn bl vn vl (S + 1) S M (S + 2) N M from fun o => by
          obtain ⟨R, V, a, b⟩ := hBo
          exact ⟨R, V, a.alloc o, b.below ((Below.refl _ _).alloc (Nat.le_refl _) _)⟩)
        have HB := Lib.hid (show ∀ o, Below w.heap.size w (wr.alloc o) from fun o => hB.alloc hB.size o)
        clear hBo hB
        generalize (e k).kind = kd at *
        generalize (e k).list = li at *
        generalize (e k).node = nd at *
        go_wp2_with fail
        refine (do_any (HBo.out _) HSp.out (by omega) kd li nd r0).mono ?_
        rintro r w4 ⟨rfl, h4, hF4⟩
        have HBo4 := Lib.hid h4
        have HB4 := Lib.hid ((HB.out _).trans (hF4.below (HB.out _).size HAl.out))
        clear h4 hF4 c0 c1 c2
        go_wp2_with fail
        refine (alike_any HBo4.out (by omega) (by omega)).mono ?_
        rintro r w5 ⟨rfl, hb5⟩
        have HBo5 := Lib.hid (show Both w5 c bn bl vn vl (S + 1) S M (S + 2) N M by
          obtain ⟨R, V, a, b⟩ := HBo4.out
          exact ⟨R, V, a.below hb5, b.below hb5⟩)
        have HB5 := Lib.hid (HB4.out.trans (hb5.mono HB4.out.size))
        clear hb5
        go_wp2_with fail
        go_roundw
        case rel => exact ⟨k + 1, by omega, by go_num, HBo5.out, HB5.out⟩
        case measure => simp [intOf]; omega
      · obtain rfl : k = m := by omega
        have HB := Lib.hid hB
        have hs := hB.size
        clear hBo hB
        go_wp2_with (go_at_call 10; refine (lives_any _).mono ?_; rintro r w4 ⟨rfl, hb4⟩)
        go_ret
        exact ⟨rfl, HB.out.trans (hb4.mono hs)⟩
end Go.Proofs.Ytgjgcobkppmafaa
