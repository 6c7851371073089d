/- Joined (package table). No condition. -/
import Derived.Test.YtedhhohnbekelaaK
namespace Go.Proofs.Ytedhhohnbekelaa
open Go.RowKit

theorem Try.info3i : (Try.prog.info? 3).map (fun i => (i.zero, i.size, i.bytes)) = some (some (.int .i64 0), 1, 8) := by kernel_rfl
def intsL (l : List Nat) : List Value := l.map fun (x : Nat) => .int .i64 (x : Int)
theorem intsL_snoc (l : List Nat) (k : Nat) (h : k < l.length) : intsL (l.take k) ++ [.int .i64 ((l[k] : Nat) : Int)] = intsL (l.take (k + 1)) := by
  unfold intsL
  rw [List.take_succ_eq_append_getElem h, List.map_append]
  rfl

theorem cells_new1 (w : World) (a : Value) (t : TypeId) : ∀ j u, ([a] : List Value)[j]? = some u → (w.alloc (.cells #[a] t)).cell? ((⟨w.heap.size, 0, none⟩ : Addr).add j) = some u := by
  intro j u h
  match j, h with
  | 0, h => simp at h; subst h; simp [Addr.add]

theorem updL_again (R : Nat → List Nat) (i : Nat) (a b : List Nat) : updL (updL R i a) i b = updL R i b := by
  funext j
  unfold updL
  split <;> rfl
theorem updL_self (R : Nat → List Nat) (i : Nat) : updL R i (R i) = R := by
  funext j
  unfold updL
  split
  · rename_i e; rw [e]
  · rfl
theorem updL_at (R : Nat → List Nat) (i : Nat) (a : List Nat) : updL R i a i = a := by simp [updL]

def slLen : Value → Nat
  | .slice _ n _ => n
  | _ => 0
theorem own_slLen {w : World} {base t sz n : Nat} {v : Value} {xs : List Value} (h : w.ownsRow base t sz v n xs) : slLen v = n := by
  rcases h.2 with ⟨rfl, rfl⟩ | ⟨g, cap, cur, rfl, _⟩ <;> rfl

theorem Frm.grown {S : Nat → Prop} {a w w' : World} {row : Option Nat} (h : Frm S a w) (hg : w.grownBy w' row) (hr : ∀ k, row = some k → a.heap.size ≤ k) : Frm S a w' :=
  ⟨hg.os.trans h.os, hg.tape.trans h.tape, hg.output.trans h.output, Nat.le_trans h.size hg.size, fun k hk hs => (hg.block k (Nat.lt_of_lt_of_le hk h.size) (fun e => by have := hr k e.symm; omega)).trans (h.block k hk hs)⟩

/-- Whom Joined tells. -/
def joinedL (n : Nat) (R : Nat → List Nat) (on : Int) : List Nat := if 0 ≤ on ∧ on < n then R on.toNat else []
def joinedR (n : Nat) (R : Nat → List Nat) (on : Int) : Nat → List Nat := if 0 ≤ on ∧ on < n then updL R on.toNat [] else R

def JoinedTo (w : World) (base tb c bn bl : Nat) (vn vl lv : Value) (n room : Nat) (ts : Nat → Tk) (R' : Nat → List Nat) (l : List Nat) (r : Ending) (w' : World) : Prop :=
  ∃ v, r = .returned v ∧ w'.ownsRow w.heap.size 3 1 v l.length (intsL l) ∧ IsTab w' base tb c bn bl vn vl lv n room ts R' ∧ Frm (Two bn bl) w w'

section
variable {w w' : World} {base tb c bn bl n room : Nat} {vn vl lv : Value} {ts : Nat → Tk} {R : Nat → List Nat}

set_option maxRecDepth 100000 in
set_option maxHeartbeats 1000000 in
theorem TJoined_any (h : IsTab w base tb c bn bl vn vl lv n room ts R) (on : Int) : Calls Try.prog 20 #[.pointer (some ⟨tb, 0, none⟩), .int .i64 on] w
    (JoinedTo w base tb c bn bl vn vl lv n room ts (joinedR n R on) (joinedL n R on)) := by
  have HI := Lib.hid (TIs_any h on)
  by_cases h2 : 0 ≤ on ∧ on < n
  · rw [isB h2] at HI
    have e1 : joinedR n R on = updL R on.toNat [] := by unfold joinedR; rw [if_pos h2]
    have e2 : joinedL n R on = R on.toNat := by unfold joinedL; rw [if_pos h2]
    rw [e1, e2]
    obtain ⟨on, rfl⟩ := Int.eq_ofNat_of_zero_le h2.1
    rw [Int.toNat_natCast]
    have hm := h.most
    have hon : on < n := by omega
    have hor : on < room := by omega
    have hll : (R on).length ≤ 256 := by
      have hf := h.ch.facts
      have := len_le room (R on) (hf.1 on hor) (hf.2.1 on hor)
      omega
    obtain ⟨l, hl⟩ : ∃ l, R on = l := ⟨_, rfl⟩
    rw [hl] at hll
    rw [hl]
    have hlow := h.low
    have hap := h.apart (by omega)
    have HG := Lib.hid (fun g (hg : lv.ownBlock = some g) => (h.own.lt g hg).2)
    have H0 := Lib.hid (show IsTab w base tb c bn bl vn vl lv n room ts (updL R on (l.drop 0)) by rw [List.drop_zero, ← hl, updL_self]; exact h)
    obtain ⟨i3, I3, Z3, S3, B3⟩ := info_parts Try.info3i
    have I3 := Lib.hid I3
    have Z3 := Lib.hid Z3
    have S3 := Lib.hid S3
    have B3 := Lib.hid B3
    clear h e1 e2 h2 hl
    go_enter Try.func20, Try.ntmps20
    go_wp2_with fail
    refine HI.out.mono ?_
    rintro r w' ⟨rfl, rfl⟩
    go_wp2_with fail
    go_loopw [4] (fun v wr => ∃ k : Nat, k ≤ l.length ∧ wr.ownsRow w.heap.size 3 1 v k (intsL (l.take k)) ∧ IsTab wr base tb c bn bl vn vl lv n room ts (updL R on (l.drop k)) ∧ Frm (Two bn bl) w wr) (fun v _ => l.length - slLen v)
    case atStart => exact ⟨0, Nat.zero_le _, World.ownsRow_nil _ _ _ _, H0.out, Frm.refl _ _⟩
    case round =>
      obtain ⟨k, hk, hown, hT, hF⟩ := hrel
      have c0 := hT.c0
      have HP := Lib.hid (hT.ch.pop on)
      have HO := Lib.hid hown
      have HT := Lib.hid hT
      have HF := Lib.hid hF
      by_cases hlt : k < l.length
      · have e : popR room (updL R on (l.drop k)) on = ((l[k] : Int), updL R on (l.drop (k + 1))) := by
          unfold popR
          rw [if_pos ⟨by omega, by omega⟩, Int.toNat_natCast, updL_at, updL_again, List.tail_drop, List.drop_eq_getElem_cons hlt]
          rfl
        rw [e] at HP
        have HA := Lib.hid (intsL_snoc l k hlt)
        have HLN := Lib.hid (own_slLen hown)
        obtain ⟨x, hx⟩ : ∃ x, l[k] = x := ⟨_, rfl⟩
        rw [hx] at HP HA
        unfold tld at HP
        have x0 : max (x : Int) 0 = x := by omega
        have x1 : ((x : Int) != -1) = true := by first | (simp; done) | (simp; omega)
        simp only [x0, x1] at HP
        clear hown hT hF e hx x0 x1
        go_wp2_with fail
        refine HP.out.mono ?_
        rintro r w3 ⟨rfl, h3, hF3⟩
        have hO3 : w3.ownsRow w.heap.size 3 1 u4 k (intsL (l.take k)) := own_of_heap HO.out fun j hj => hF3.block j (HO.out.lt j hj).2 (fun hs => by have := (HO.out.lt j hj).1; rcases hs with e | e <;> omega)
        have HO3 := Lib.hid hO3
        have HT3 := Lib.hid (HT.out.rows (by omega) hF3 h3)
        have HF3 := Lib.hid (HF.out.trans hF3)
        have hsz : w.heap.size ≤ (w3.alloc (.cells #[.int .i64 x] 3)).heap.size := by have := HF3.out.size; simp; omega
        clear h3 hF3 HP HO HT HF hO3
        go_wp2_with (at_builtin; refine wpList_append_own _ rfl _ _ 54 rfl w.heap.size 3 i3 _ 1 8 Try.underlying54 I3.out Z3.out S3.out B3.out rfl (by decide) _ _ _ rfl (HO3.out.alloc _) ⟨w3.heap.size, 0, none⟩ 1 1 [.int .i64 x] rfl rfl (cells_new1 _ _ _) (by simp [Value.oneCell']) (by simp only [maxLen]; omega) (by omega) hsz ?_; intro v' w4 hown' hgrow _; rw [HA.out] at hown'; have HO4 := Lib.hid hown'; have HG4 := Lib.hid hgrow; clear hown' hgrow)
        have hO4 := HO4.out
        have hg4 := HG4.out
        have hF4 := (HF3.out.alloc (.cells #[.int .i64 x] 3)).grown hg4 (fun j hj => (HO3.out.lt j hj).1)
        have hT4 := (HT3.out.alloc (.cells #[.int .i64 x] 3)).of_frm (S := fun j => some j = u4.ownBlock) ⟨hg4.os, hg4.tape, hg4.output, hg4.size, fun j hj hs => hg4.block j hj hs⟩ (fun j hj hs => by have := (HO3.out.lt j hs.symm).1; omega) (fun g hg hs => by have := (HO3.out.lt g hs.symm).1; have := HG.out g hg; omega)
        have hL4 := own_slLen hO4
        go_roundw
        case rel => exact ⟨k + 1, by omega, hO4, hT4, hF4⟩
        case measure =>
          have := HLN.out
          show l.length - slLen _ < l.length - slLen u4
          rw [HLN.out]
          show l.length - slLen v' < _
          rw [hL4]
          omega
      · obtain rfl : k = l.length := by omega
        have e : popR room (updL R on (l.drop l.length)) on = (-1, updL R on []) := by
          unfold popR
          rw [if_pos ⟨by omega, by omega⟩, Int.toNat_natCast, updL_at, updL_again, List.drop_length]
          rfl
        rw [e] at HP
        unfold tld at HP
        rw [List.take_length] at HO
        clear hown hT hF e
        go_wp2_with fail
        refine HP.out.mono ?_
        rintro r w3 ⟨rfl, h3, hF3⟩
        have hO3 : w3.ownsRow w.heap.size 3 1 u4 l.length (intsL l) := own_of_heap HO.out fun j hj => hF3.block j (HO.out.lt j hj).2 (fun hs => by have := (HO.out.lt j hj).1; rcases hs with e | e <;> omega)
        have HO3 := Lib.hid hO3
        have HT3 := Lib.hid (HT.out.rows (by omega) hF3 h3)
        have HF3 := Lib.hid (HF.out.trans hF3)
        clear h3 hF3 HP HO HT HF hO3
        go_wp2_with fail
        go_ret
        exact ⟨_, rfl, HO3.out, HT3.out, HF3.out⟩
  · rw [isB_no h2] at HI
    have e1 : joinedR n R on = R := by unfold joinedR; rw [if_neg h2]
    have e2 : joinedL n R on = [] := by unfold joinedL; rw [if_neg h2]
    rw [e1, e2]
    have H := Lib.hid h
    clear h e1 e2 h2
    go_enter Try.func20, Try.ntmps20
    go_wp2_with fail
    refine HI.out.mono ?_
    rintro r w' ⟨rfl, rfl⟩
    go_wp2_with fail
    go_ret
    exact ⟨_, rfl, World.ownsRow_nil _ _ _ _, H.out, Frm.refl _ _⟩
end
end Go.Proofs.Ytedhhohnbekelaa
