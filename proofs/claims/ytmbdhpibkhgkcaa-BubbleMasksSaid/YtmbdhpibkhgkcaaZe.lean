/- A forest that is played (run). No condition. -/
import Derived.Test.YtmbdhpibkhgkcaaZc
namespace Go.Proofs.Ytmbdhpibkhgkcaa
open Go.RowKit

def RanTo (w : World) (q : Nat × (Nat → Bk)) (r : Ending) (w' : World) : Prop :=
  ∃ base fb lv, r = .returned (.tuple #[.pointer (some ⟨fb, 0, none⟩), .int .i64 (q.1 : Nat)]) ∧ w.heap.size ≤ fb ∧ IsFo w' base fb lv q.1 q.2 ∧ Below w.heap.size w w'

set_option maxRecDepth 100000 in
set_option maxHeartbeats 4000000 in
theorem run_any (a : Option Addr) (len cap0 : Nat) (e : Nat → Opn) (w : World) (ha : SlOk a len cap0) (hI : RawO w a len e) :
    Calls Try.prog 18 #[.slice a len cap0] w (RanTo w (runD e (min len 40))) := by
  have HO := Lib.hid hI
  have hlen : len ≤ 9223372036854775807 := by
    rcases ha with ⟨_, rfl, _⟩ | ⟨x, _, h1, h2⟩
    · omega
    · omega
  clear hI ha
  go_enter Try.func18, Try.ntmps18
  go_wp2_with fail
  refine (FNew_any _).mono ?_
  rintro r w1 ⟨base, fb, rfl, hfb, hT, hB⟩
  have HP1 := Lib.hid (show PlaysAt w base fb (runD e (min 0 40)) (.slice none 0 0) w1 from plays_start hfb hT hB e)
  have HFB := Lib.hid hfb
  clear hT hB hfb
  go_wp2_with fail
  go_loopw [5, 11] (fun l s wr => ∃ k : Nat, k ≤ len ∧ s = .int .i64 k ∧ PlaysAt w base fb (runD e (min k 40)) l wr) (fun _ s _ => len - (intOf s).toNat)
  case atStart => exact ⟨0, Nat.zero_le _, rfl, HP1.out⟩
  case round =>
    clear HP1
    obtain ⟨k, hk, rfl, lv, hP⟩ := hrel
    by_cases hlt : k < len
    · have hltI : (k : Int) < len := by omega
      have HPx := Lib.hid hP
      rcases HO.out with hz | ⟨ob, off, rfl, hob, hoc, hor⟩
      · omega
      have h0 := hor k hlt
      have hr := rangeAt_below hob hP.bel (hoc k hlt)
      have HNX := Lib.hid (show runD e (min (k + 1) 40) = if k < 40 then doD (runD e (min k 40)).1 (runD e (min k 40)).2 (e k) else runD e (min k 40) by
        by_cases h : k < 40
        · rw [if_pos h, show min (k + 1) 40 = k + 1 by omega, show min k 40 = k by omega]
          rfl
        · rw [if_neg h, show min (k + 1) 40 = 40 by omega, show min k 40 = 40 by omega])
      generalize runD e (min k 40) = q at *
      obtain ⟨n, bs⟩ := q
      simp only at HPx HNX
      have zz := zero46
      have q1 := size46L (e k)
      have q2 := size46 (e k)
      have q3 : (opArr op0).size = (opArr (e k)).size := by rw [opArr_size, opArr_size]
      have q4 := one46 (e k)
      have q5 : (opL (e k)).toArray = opArr (e k) := rfl
      generalize e k = o at *
      have HDO := Lib.hid (fun (w' : World) (Kp : List (Nat × Obj)) (hh : Pb w w' base fb Kp lv u5 n bs n bs) => do_any hh o h0)
      obtain ⟨OA, hOA⟩ : ∃ OA, OA = opArr o := ⟨_, rfl⟩
      obtain ⟨OL, hOL⟩ : ∃ OL, OL = opL o := ⟨_, rfl⟩
      obtain ⟨Z, hZ⟩ : ∃ Z, Z = opArr op0 := ⟨_, rfl⟩
      simp only [← hOA] at q2 q3 q4 q5 HDO
      rw [← hOL] at q1 q5 hr
      simp only [← hZ] at zz q3
      have HR := Lib.hid hr
      have HOB := Lib.hid (And.intro hob (And.intro hoc hor))
      clear hr hOA hOL hZ hoc hor hob h0 hP
      go_upto_region 6 with (first | (refine wpList_load_mid rfl 46 _ rfl ob (off + k * 19) rfl OL _ HR.out Try.underlying46 rfl q1 ?_; rw [q5]) | (refine wpList_store_row rfl 46 _ _ rfl wr.heap.size OA rfl rfl 46 Z (heap_alloc_new _ _) q2 q3 q4 ?_; rw [setRow_new]))
      obtain ⟨W1, hW1⟩ : ∃ W1, wr.alloc (.cells OA 46) = W1 := ⟨_, rfl⟩
      obtain ⟨A, hA⟩ : ∃ A, wr.heap.size = A := ⟨_, rfl⟩
      have HP1 := Lib.hid (show Pb w W1 base fb [(A, Obj.cells OA 46 (0, 0))] lv u5 n bs n bs by rw [← hW1, ← hA]; exact HPx.out.new OA 46)
      have HK1 := Lib.hid (show (A, Obj.cells OA 46 (0, 0)) ∈ [(A, Obj.cells OA 46 (0, 0))] from List.mem_cons_self)
      have HA1 := Lib.hid (HP1.out.kept HK1.out)
      rw [hW1, hA]
      clear hW1 hA HPx zz q1 q3 q4 q5 HR HOB
      by_cases h40 : k < 40
      · have h40I : (k : Int) < 40 := by omega
        have hnx := HNX.out
        rw [if_pos h40] at hnx
        have HNY := Lib.hid hnx
        clear hnx HNX
        go_wp2_with (refine wpList_load_row rfl 46 _ rfl A rfl 46 OA (0, 0) _ HA1.out Try.underlying46 rfl q2 ?_)
        refine (HDO.out _ _ HP1.out).mono ?_
        rintro r w3 ⟨v', lv', rfl, hP3⟩
        have HP4 := Lib.hid (hP3.less (fun p hp => (by cases hp) : ∀ p ∈ ([] : List (Nat × Obj)), p ∈ [(A, Obj.cells OA 46 (0, 0))]))
        clear hP3
        go_wp2_with fail
        go_roundw
        case rel => exact ⟨k + 1, by omega, by go_num, lv', by rw [HNY.out]; exact HP4.out⟩
        case measure => simp [intOf]; omega
      · have h40I : ¬ (k : Int) < 40 := by omega
        have hnx := HNX.out
        rw [if_neg h40] at hnx
        have HNY := Lib.hid hnx
        have HP4 := Lib.hid (HP1.out.less (fun p hp => (by cases hp) : ∀ p ∈ ([] : List (Nat × Obj)), p ∈ [(A, Obj.cells OA 46 (0, 0))]))
        clear hnx HNX h40
        go_wp2_with fail
        go_roundw
        case rel => exact ⟨k + 1, by omega, by go_num, lv, by rw [HNY.out]; exact HP4.out⟩
        case measure => simp [intOf]; omega
    · obtain rfl : k = len := by omega
      have HT := Lib.hid hP.tab
      have HBE := Lib.hid hP.bel
      clear hlt hP HO
      go_wp2_with fail
      refine (FLen_any HT.out).mono ?_
      rintro r w' ⟨rfl, rfl⟩
      go_wp2_with fail
      go_ret2
      exact ⟨base, fb, lv, rfl, HFB.out, HT.out, HBE.out⟩
end Go.Proofs.Ytmbdhpibkhgkcaa
