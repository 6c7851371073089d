/- In and Count (package table), and the document's Room. No condition. -/
import Derived.Test.YtedhhohnbekelaaX
namespace Go.Proofs.Ytedhhohnbekelaa
open Go.RowKit Go.Deep

/-- Whether a task is in a state, and at a place. -/
def isAt (t : Tk) (st on : Int) : Bool := t 25 == st && t 26 == on
def inL (ts : Nat → Tk) (st on : Int) (k : Nat) : List Nat := (List.range k).filter fun i => isAt (ts i) st on
def cntL (ts : Nat → Tk) (st : Int) : Nat → Nat
  | 0 => 0
  | k + 1 => cntL ts st k + if ts k 25 = st then 1 else 0

theorem inL_succ (ts : Nat → Tk) (st on : Int) (k : Nat) : inL ts st on (k + 1) = if isAt (ts k) st on then inL ts st on k ++ [k] else inL ts st on k := by
  unfold inL
  rw [List.range_succ, List.filter_append]
  split
  · rename_i h; simp [h]
  · rename_i h; simp [h]
theorem inL_len (ts : Nat → Tk) (st on : Int) (k : Nat) : (inL ts st on k).length ≤ k := by
  have := List.length_filter_le (fun i => isAt (ts i) st on) (List.range k)
  simpa [inL] using this
theorem cntL_le (ts : Nat → Tk) (st : Int) : ∀ k, cntL ts st k ≤ k
  | 0 => Nat.le_refl _
  | k + 1 => by
    have := cntL_le ts st k
    unfold cntL
    split <;> omega
theorem intsL_more (l : List Nat) (k : Nat) : intsL l ++ [.int .i64 (k : Nat)] = intsL (l ++ [k]) := by simp [intsL]

def InTo (w : World) (l : List Nat) (r : Ending) (w' : World) : Prop := ∃ v, r = .returned v ∧ w'.ownsRow w.heap.size 3 1 v l.length (intsL l) ∧ Below w.heap.size w w'

theorem refRoom_any (n : Int) (w : World) : Calls Try.prog 14 #[.int .i64 n] w fun r w' => r = .returned (.int .i64 (roomOf n)) ∧ w = w' := by
  have hr : (n < 0 ∧ (roomOf n : Int) = 0) ∨ (¬ n < 0 ∧ 256 < n ∧ (roomOf n : Int) = 256) ∨ (¬ n < 0 ∧ ¬ 256 < n ∧ (roomOf n : Int) = n) := by unfold roomOf; omega
  rcases hr with ⟨a, e⟩ | ⟨a, b, e⟩ | ⟨a, b, e⟩
  all_goals
    rw [e]
    clear e
    go_enter Try.func14, Try.ntmps14
    go_wp2_with fail
    go_ret
    exact ⟨rfl, rfl⟩

section
variable {w w' : World} {base tb c bn bl n room : Nat} {vn vl lv : Value} {ts : Nat → Tk} {R : Nat → List Nat}

set_option maxRecDepth 100000 in
set_option maxHeartbeats 1000000 in
theorem TCount_any (h : IsTab w base tb c bn bl vn vl lv n room ts R) (st : Int) : Calls Try.prog 22 #[.pointer (some ⟨tb, 0, none⟩), .int .i64 st] w fun r w' => r = .returned (.int .i64 (cntL ts st n)) ∧ w = w' := by
  have hm := h.most
  have HL := Lib.hid (TLen_any h)
  have H := Lib.hid h
  clear h
  go_enter Try.func22, Try.ntmps22
  go_wp2_with fail
  refine HL.out.mono ?_
  rintro r w' ⟨rfl, rfl⟩
  go_wp2_with fail
  go_loopw [4, 8] (fun a b wr => ∃ k : Nat, k ≤ n ∧ b = .int .i64 k ∧ a = .int .i64 (cntL ts st k) ∧ w = wr) (fun _ b _ => n - (intOf b).toNat)
  case atStart => exact ⟨0, Nat.zero_le _, rfl, rfl, rfl⟩
  case round =>
    obtain ⟨k, hk, rfl, rfl, rfl⟩ := hrel
    by_cases hlt : k < n
    · have hltI : (k : Int) < n := by omega
      obtain ⟨a, cap, rfl, hg⟩ := H.out.lvForm
      obtain ⟨g, rfl, hgb⟩ := hg (by omega)
      have c1 := H.out.c1
      have cs := H.out.cell hlt (o := 25) (by omega)
      rw [show tkKind 25 = .i64 from rfl] at cs
      have hcl := cntL_le ts st k
      by_cases hx : ts k 25 = st
      · have HQ := Lib.hid (show cntL ts st (k + 1) = cntL ts st k + 1 by show cntL ts st k + (if ts k 25 = st then 1 else 0) = _; rw [if_pos hx])
        rw [hx] at cs
        clear hg hx
        go_wp2_with fail
        go_roundw
        case rel => exact ⟨k + 1, by omega, by go_num, by rw [HQ.out]; go_num, trivial⟩
        case measure => simp [intOf]; omega
      · have HQ := Lib.hid (show cntL ts st (k + 1) = cntL ts st k by show cntL ts st k + (if ts k 25 = st then 1 else 0) = _; rw [if_neg hx, Nat.add_zero])
        have hx' : (ts k 25 == st) = false := by simpa using hx
        clear hg hx
        go_wp2_with fail
        go_roundw
        case rel => exact ⟨k + 1, by omega, by go_num, by rw [HQ.out], trivial⟩
        case measure => simp [intOf]; omega
    · obtain rfl : k = n := by omega
      go_wp2_with fail
      go_ret
      exact ⟨rfl, rfl⟩

set_option maxRecDepth 100000 in
set_option maxHeartbeats 2000000 in
theorem TIn_any (h : IsTab w base tb c bn bl vn vl lv n room ts R) (st on : Int) : Calls Try.prog 21 #[.pointer (some ⟨tb, 0, none⟩), .int .i64 st, .int .i64 on] w (InTo w (inL ts st on n)) := by
  have hm := h.most
  have HL := Lib.hid (TLen_any h)
  have H := Lib.hid h
  obtain ⟨i3, I3, Z3, S3, B3⟩ := info_parts Try.info3i
  have I3 := Lib.hid I3
  have Z3 := Lib.hid Z3
  have S3 := Lib.hid S3
  have B3 := Lib.hid B3
  clear h
  go_enter Try.func21, Try.ntmps21
  go_wp2_with fail
  refine HL.out.mono ?_
  rintro r w' ⟨rfl, rfl⟩
  go_wp2_with fail
  go_loopw [6, 10] (fun a b wr => ∃ k : Nat, k ≤ n ∧ b = .int .i64 k ∧ wr.ownsRow w.heap.size 3 1 a (inL ts st on k).length (intsL (inL ts st on k)) ∧ Below w.heap.size w wr) (fun _ b _ => n - (intOf b).toNat)
  case atStart => exact ⟨0, Nat.zero_le _, rfl, World.ownsRow_nil _ _ _ _, Below.refl _ _⟩
  case round =>
    obtain ⟨k, hk, rfl, hown, hB⟩ := hrel
    have HB := Lib.hid hB
    have HO := Lib.hid hown
    have hlen := inL_len ts st on k
    clear hB hown
    by_cases hlt : k < n
    · have hltI : (k : Int) < n := by omega
      obtain ⟨a, cap, rfl, hg⟩ := H.out.lvForm
      obtain ⟨g, rfl, hgb⟩ := hg (by omega)
      have hT := H.out.below HB.out
      have c1 := hT.c1
      have cs := hT.cell hlt (o := 25) (by omega)
      have cp := hT.cell hlt (o := 26) (by omega)
      rw [show tkKind 25 = .i64 from rfl] at cs
      rw [show tkKind 26 = .i64 from rfl] at cp
      clear hT hg
      by_cases hx : ts k 25 = st
      · by_cases hy : ts k 26 = on
        · have HQ := Lib.hid (show inL ts st on (k + 1) = inL ts st on k ++ [k] by rw [inL_succ, if_pos (by simp [isAt, hx, hy])])
          rw [hx] at cs
          rw [hy] at cp
          obtain ⟨l, hl⟩ : ∃ l, inL ts st on k = l := ⟨_, rfl⟩
          rw [hl] at HO HQ hlen
          have hsz : w.heap.size ≤ (wr.alloc (.cells #[.int .i64 k] 3)).heap.size := by have := HB.out.size; simp; omega
          clear hx hy hl
          go_wp2_with (at_builtin; refine wpList_append_own _ rfl _ _ 54 rfl w.heap.size 3 i3 _ 1 8 Try.underlying54 I3.out Z3.out S3.out B3.out rfl (by decide) _ _ _ rfl (HO.out.alloc _) ⟨wr.heap.size, 0, none⟩ 1 1 [.int .i64 k] rfl rfl (cells_new1 _ _ _) (by simp [Value.oneCell']) (by simp only [maxLen]; omega) (by omega) hsz ?_; intro v' w4 hown' hgrow _; rw [intsL_more] at hown'; have HO4 := Lib.hid hown'; have HG4 := Lib.hid hgrow; clear hown' hgrow)
          have hB4 : Below w.heap.size w w4 := (HB.out.alloc HB.out.size _).grown HG4.out hsz (fun j hj => (HO.out.lt j hj).1)
          go_roundw
          case rel => exact ⟨k + 1, by omega, by go_num, by rw [HQ.out, List.length_append]; exact HO4.out, hB4⟩
          case measure => simp [intOf]; omega
        · have HQ := Lib.hid (show inL ts st on (k + 1) = inL ts st on k by rw [inL_succ, if_neg (by simp [isAt, hy])])
          rw [hx] at cs
          have hy' : (ts k 26 == on) = false := by simpa using hy
          clear hx hy
          go_wp2_with fail
          go_roundw
          case rel => exact ⟨k + 1, by omega, by go_num, by rw [HQ.out]; exact HO.out, HB.out⟩
          case measure => simp [intOf]; omega
      · have HQ := Lib.hid (show inL ts st on (k + 1) = inL ts st on k by rw [inL_succ, if_neg (by simp [isAt, hx])])
        have hx' : (ts k 25 == st) = false := by simpa using hx
        clear hx
        go_wp2_with fail
        go_roundw
        case rel => exact ⟨k + 1, by omega, by go_num, by rw [HQ.out]; exact HO.out, HB.out⟩
        case measure => simp [intOf]; omega
    · obtain rfl : k = n := by omega
      go_wp2_with fail
      go_ret
      exact ⟨_, rfl, HO.out, HB.out⟩
end
end Go.Proofs.Ytedhhohnbekelaa
