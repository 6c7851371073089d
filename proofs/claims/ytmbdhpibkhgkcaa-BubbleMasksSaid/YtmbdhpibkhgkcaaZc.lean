/- Any bubbles made, sealed, placed, burst and regenerated: the walk of BubblePlays. No condition. -/
import Derived.Test.YtmbdhpibkhgkcaaZb
namespace Go.Proofs.Ytmbdhpibkhgkcaa
open Go.RowKit

def SlOk (a : Option Addr) (len cap : Nat) : Prop := (a = none ∧ len = 0 ∧ cap = 0) ∨ ∃ x, a = some x ∧ len ≤ cap ∧ cap ≤ 9223372036854775807
/-- A slice of operations. -/
def RawO (w : World) (a : Option Addr) (len : Nat) (e : Nat → Opn) : Prop :=
  len = 0 ∨ ∃ b off, a = some ⟨b, off, none⟩ ∧ b < w.heap.size ∧ (∀ k, k < len → w.rangeAt b (off + k * 19) (opL (e k))) ∧ ∀ k, k < len → 0 ≤ (e k).kind
theorem rangeAt_below {n₀ b o : Nat} {w w' : World} {l : List Value} (hb : b < n₀) (h : Below n₀ w w') (hr : w.rangeAt b o l) : w'.rangeAt b o l := fun j v hv => (h.cell (p := ⟨b, _, none⟩) hb).trans (hr j v hv)
theorem RawO.take {w : World} {a : Option Addr} {len m : Nat} {e : Nat → Opn} (h : RawO w a len e) (hm : m ≤ len) : RawO w a m e := by
  rcases h with h | ⟨b, off, ha, hb, hc, hr⟩
  · exact .inl (by omega)
  · exact .inr ⟨b, off, ha, hb, fun k hk => hc k (by omega), fun k hk => hr k (by omega)⟩

/-- At the loop's head. -/
def PlaysAt (w0 : World) (base fb : Nat) (q : Nat × (Nat → Bk)) (rv : Value) (wr : World) : Prop := ∃ lv, Pb w0 wr base fb [] lv rv q.1 q.2 q.1 q.2

/-- The bubbles behind so many operations. -/
def runD (e : Nat → Opn) : Nat → Nat × (Nat → Bk)
  | 0 => (0, fun _ => bk0)
  | k + 1 => doD (runD e k).1 (runD e k).2 (e k)

theorem plays_start {w w1 : World} {base fb : Nat} (hfb : w.heap.size ≤ fb) (hT : IsFo w1 base fb (.slice none 0 0) 0 (fun _ => bk0)) (hB : Below w.heap.size w w1) (e : Nat → Opn) : PlaysAt w base fb (runD e 0) (.slice none 0 0) w1 :=
  ⟨.slice none 0 0, hT, ⟨none, 0, rfl, fun (h : 0 < 0) => absurd h (Nat.lt_irrefl 0)⟩, ⟨hT.ups, hT.most⟩, fun (h : 0 < 0) => absurd h (Nat.lt_irrefl 0), fun p hp => (by cases hp), hB, hfb⟩

set_option maxRecDepth 100000 in
set_option maxHeartbeats 4000000 in
theorem plays_any (a : Option Addr) (len cap0 : Nat) (e : Nat → Opn) (w : World) (ha : SlOk a len cap0) (hI : RawO w a len e) :
    Calls Try.prog 4 #[.slice a len cap0] w fun r w' => r = .returned (.bool true) ∧ Below w.heap.size w w' := by
  have HI := Lib.hid hI
  clear hI
  go_enter Try.func4, Try.ntmps4
  go_upto_region 1 with fail
  go_cut [0] (fun u1 wr => ∃ (m cap' : Nat), u1 = .slice a m cap' ∧ m ≤ len ∧ m ≤ 40 ∧ w = wr)
  case first =>
    rcases ha with ⟨rfl, rfl, rfl⟩ | ⟨x, rfl, hcap, hm⟩
    · go_wp2_with fail
      go_meet
      case rel => exact ⟨0, _, rfl, by omega, by omega, rfl⟩
    · by_cases h2 : (40 : Int) < len
      all_goals
        go_wp2_with fail
        all_goals
          go_meet
          case rel => exact ⟨_, _, rfl, by omega, by omega, rfl⟩
  case rest =>
    obtain ⟨m, cap', rfl, hm, hm2, rfl⟩ := hcut
    have HO := Lib.hid (HI.out.take hm)
    clear HI ha
    go_wp2_with fail
    refine (FNew_any _).mono ?_
    rintro r w1 ⟨base, fb, rfl, hfb, hT, hB⟩
    have HP1 := Lib.hid (plays_start hfb hT hB e)
    clear hT hB hfb
    go_wp2_with fail
    go_loopw [4, 19] (fun l s wr => ∃ k : Nat, k ≤ m ∧ s = .int .i64 k ∧ PlaysAt w base fb (runD e k) l wr) (fun _ s _ => m - (intOf s).toNat)
    case atStart => exact ⟨0, Nat.zero_le _, rfl, HP1.out⟩
    case round =>
      clear HP1
      obtain ⟨k, hk, rfl, lv, hP⟩ := hrel
      by_cases hlt : k < m
      · have hltI : (k : Int) < m := by omega
        have HPx := Lib.hid hP
        rcases HO.out with hz | ⟨ob, off, rfl, hob, hoc, hor⟩
        · omega
        have h0 := hor k hlt
        have hr := rangeAt_below hob hP.bel (hoc k hlt)
        have HNX := Lib.hid (show runD e (k + 1) = doD (runD e k).1 (runD e k).2 (e k) from rfl)
        generalize runD e k = q at *
        obtain ⟨n, bs⟩ := q
        simp only at HPx HNX
        have zz := zero46
        have q1 := size46L (e k)
        have q2 := size46 (e k)
        have q3 : (opArr op0).size = (opArr (e k)).size := by rw [opArr_size, opArr_size]
        have q4 := one46 (e k)
        have q5 : (opL (e k)).toArray = opArr (e k) := rfl
        generalize e k = o at *
        have HDO := Lib.hid (fun (w' : World) (Kp : List (Nat × Obj)) (hh : Pb w w' base fb Kp lv u4 n bs n bs) => do_any hh o h0)
        have HAL := Lib.hid (fun (w' : World) (Kp : List (Nat × Obj)) (lv' rv' : Value) (q : Nat × (Nat → Bk)) (hh : Pb w w' base fb Kp lv' rv' q.1 q.2 q.1 q.2) => alike_any hh.tab hh.ref o)
        obtain ⟨OA, hOA⟩ : ∃ OA, OA = opArr o := ⟨_, rfl⟩
        obtain ⟨OL, hOL⟩ : ∃ OL, OL = opL o := ⟨_, rfl⟩
        obtain ⟨Z, hZ⟩ : ∃ Z, Z = opArr op0 := ⟨_, rfl⟩
        simp only [← hOA] at q2 q3 q4 q5 HDO HAL
        rw [← hOL] at q1 q5 hr
        simp only [← hZ] at zz q3
        have HR := Lib.hid hr
        have HOB := Lib.hid (And.intro hob (And.intro hoc hor))
        clear hr hOA hOL hZ hoc hor hob h0 hP
        go_upto_region 9 with (first | (refine wpList_load_mid rfl 46 _ rfl ob (off + k * 19) rfl OL _ HR.out Try.underlying46 rfl q1 ?_; rw [q5]) | (refine wpList_store_row rfl 46 _ _ rfl wr.heap.size OA rfl rfl 46 Z (heap_alloc_new _ _) q2 q3 q4 ?_; rw [setRow_new]))
        obtain ⟨W1, hW1⟩ : ∃ W1, wr.alloc (.cells OA 46) = W1 := ⟨_, rfl⟩
        obtain ⟨A, hA⟩ : ∃ A, wr.heap.size = A := ⟨_, rfl⟩
        have HP1 := Lib.hid (show Pb w W1 base fb [(A, Obj.cells OA 46 (0, 0))] lv u4 n bs n bs by rw [← hW1, ← hA]; exact HPx.out.new OA 46)
        have HK1 := Lib.hid (show (A, Obj.cells OA 46 (0, 0)) ∈ [(A, Obj.cells OA 46 (0, 0))] from List.mem_cons_self)
        have HA1 := Lib.hid (HP1.out.kept HK1.out)
        rw [hW1, hA]
        clear hW1 hA HPx zz q1 q3 q4 q5 HR HOB
        go_wp2_with (refine wpList_load_row rfl 46 _ rfl A rfl 46 OA (0, 0) _ HA1.out Try.underlying46 rfl q2 ?_)
        refine (HDO.out _ _ HP1.out).mono ?_
        rintro r w3 ⟨v', lv', rfl, hP3⟩
        have HP3 := Lib.hid hP3
        have HA3 := Lib.hid (hP3.kept HK1.out)
        clear hP3
        go_wp2_with (refine wpList_load_want 46 (.tmp 6) rfl A rfl 46 OA (0, 0) _ HA3.out Try.underlying46 rfl q2 (by first | rfl | simp [Region.wanted, yielded]) ?_)
        refine (HAL.out _ _ _ _ _ HP3.out).mono ?_
        rintro r w4 ⟨rfl, hb⟩
        have HP4 := Lib.hid ((HP3.out.below hb).less (fun p hp => (by cases hp) : ∀ p ∈ ([] : List (Nat × Obj)), p ∈ [(A, Obj.cells OA 46 (0, 0))]))
        clear hb
        go_wp2_with fail
        go_roundw
        case rel => exact ⟨k + 1, by omega, by go_num, lv', by rw [HNX.out]; exact HP4.out⟩
        case measure => simp [intOf]; omega
      · obtain rfl : k = m := by omega
        have HBE := Lib.hid hP.bel
        clear hlt hP HO
        go_wp2_with fail
        refine (lives_any _).mono ?_
        rintro r w8 ⟨rfl, hb⟩
        have HB8 := Lib.hid (HBE.out.trans (hb.mono HBE.out.size))
        clear hb
        go_wp2_with fail
        go_ret
        exact ⟨rfl, HB8.out⟩
end Go.Proofs.Ytmbdhpibkhgkcaa
