/- The table in memory (package table), and what its small functions answer. No condition. -/
import Derived.Test.YtedhhohnbekelaaI
import Derived.Laws.OwnMore
namespace Go.Proofs.Ytedhhohnbekelaa
open Go.RowKit

/-- The cells of so many tasks. -/
def flat (ts : Nat → Tk) (n : Nat) : List Value := (List.range (n * 29)).map fun j => .int (tkKind (j % 29)) (ts (j / 29) (j % 29))

theorem flat_len (ts : Nat → Tk) (n : Nat) : (flat ts n).length = n * 29 := by simp [flat]
theorem flat_at (ts : Nat → Tk) {n i o : Nat} (hi : i < n) (ho : o < 29) : (flat ts n)[i * 29 + o]? = some (.int (tkKind o) (ts i o)) := by
  have h : i * 29 + o < n * 29 := by omega
  unfold flat
  rw [List.getElem?_map, List.getElem?_range h]
  simp only [Option.map_some]
  rw [show (i * 29 + o) / 29 = i by omega, show (i * 29 + o) % 29 = o by omega]

def updT (ts : Nat → Tk) (i : Nat) (t : Tk) : Nat → Tk := fun k => if k = i then t else ts k
theorem updT_same (ts : Nat → Tk) (i : Nat) (t : Tk) : updT ts i t i = t := by simp [updT]
theorem updT_other (ts : Nat → Tk) {i k : Nat} (t : Tk) (h : k ≠ i) : updT ts i t k = ts k := by simp [updT, h]

theorem flat_more (ts : Nat → Tk) (n : Nat) (t : Tk) : flat ts n ++ (tkArr t).toList = flat (updT ts n t) (n + 1) := by
  apply List.ext_getElem?
  intro j
  by_cases hj : j < n * 29
  · rw [List.getElem?_append_left (by rw [flat_len]; exact hj)]
    have e : j = j / 29 * 29 + j % 29 := by omega
    rw [e, flat_at ts (i := j / 29) (by omega) (by omega), flat_at _ (i := j / 29) (by omega) (by omega), updT_other _ _ (by omega)]
  · rw [List.getElem?_append_right (by rw [flat_len]; omega), flat_len]
    by_cases h2 : j < (n + 1) * 29
    · have e : j = n * 29 + (j - n * 29) := by omega
      have h3 : (flat (updT ts n t) (n + 1))[n * 29 + (j - n * 29)]? = _ := flat_at (updT ts n t) (i := n) (by omega) (by omega)
      rw [← e] at h3
      rw [h3, updT_same]
      have := tkArr_at t (o := j - n * 29) (by omega)
      simpa using this
    · rw [List.getElem?_eq_none (by simp [tkArr]; omega), List.getElem?_eq_none (by rw [flat_len]; omega)]

def tabF (c : Nat) (lv : Value) (room : Nat) (o : Nat) : Value := if o = 0 then .pointer (some ⟨c, 0, none⟩) else if o = 1 then lv else .int .i64 room

/-- The table in memory. -/
structure IsTab (w : World) (base tb c bn bl : Nat) (vn vl lv : Value) (n room : Nat) (ts : Nat → Tk) (R : Nat → List Nat) : Prop where
  top : Blk w tb 63 3 (tabF c lv room)
  own : w.ownsRow base 30 29 lv n (flat ts n)
  ch : Has w c bn bl vn vl room room R
  low : tb < base ∧ c < base ∧ tb ≠ c ∧ base ≤ w.heap.size
  apart : 0 < room → bn < base ∧ bl < base ∧ tb ≠ bn ∧ tb ≠ bl
  most : n ≤ room ∧ room ≤ 256

section
variable {w w' : World} {base tb c bn bl n room : Nat} {vn vl lv : Value} {ts : Nat → Tk} {R : Nat → List Nat}

theorem Has.keep {S : Nat → Prop} (h : Has w c bn bl vn vl room room R) (hF : Frm S w w') (h1 : ¬ S c) (h2 : 0 < room → ¬ S bn ∧ ¬ S bl) : Has w' c bn bl vn vl room room R := by
  by_cases h0 : 0 < room
  · exact h.of_frm hF h1 (h2 h0).1 (h2 h0).2
  · obtain ⟨s, a, b, e1, e2⟩ := h
    exact ⟨s, ⟨hF.blk a.top h1, a.sn, a.sl, fun h => by omega, fun h => by omega, a.apart, a.most⟩, b, e1, e2⟩

theorem IsTab.of_frm {S : Nat → Prop} (h : IsTab w base tb c bn bl vn vl lv n room ts R) (hF : Frm S w w') (h1 : ∀ k, k < base → ¬ S k) (h2 : ∀ g, lv.ownBlock = some g → ¬ S g) : IsTab w' base tb c bn bl vn vl lv n room ts R := by
  obtain ⟨l1, l2, l3, l4⟩ := h.low
  refine ⟨hF.blk h.top (h1 _ l1), own_of_heap h.own fun k hk => hF.block k (h.own.lt k hk).2 (h2 k hk), h.ch.keep hF (h1 _ l2) (fun h0 => ⟨h1 _ (h.apart h0).1, h1 _ (h.apart h0).2.1⟩), ⟨l1, l2, l3, Nat.le_trans l4 hF.size⟩, h.apart, h.most⟩

theorem IsTab.alloc (h : IsTab w base tb c bn bl vn vl lv n room ts R) (o : Obj) : IsTab (w.alloc o) base tb c bn bl vn vl lv n room ts R := h.of_frm (S := fun _ => False) ((Frm.refl _ _).alloc o) (fun _ _ h => h) (fun _ _ h => h)
theorem IsTab.drewN (h : IsTab w base tb c bn bl vn vl lv n room ts R) (k : Nat) : IsTab (w.drewN k) base tb c bn bl vn vl lv n room ts R := h.of_frm (S := fun _ => False) ((Frm.refl _ _).drewN k) (fun _ _ h => h) (fun _ _ h => h)
theorem IsTab.below (h : IsTab w base tb c bn bl vn vl lv n room ts R) (hB : Below w.heap.size w w') : IsTab w' base tb c bn bl vn vl lv n room ts R :=
  h.of_frm (S := fun k => w.heap.size ≤ k) ⟨hB.os, hB.tape, hB.output, hB.size, fun k hk _ => hB.block k hk⟩ (fun k hk hs => by have := h.low; omega) (fun g hg hs => by have := (h.own.lt g hg).2; omega)

theorem IsTab.c0 (h : IsTab w base tb c bn bl vn vl lv n room ts R) : w.cell? ⟨tb, 0, none⟩ = some (.pointer (some ⟨c, 0, none⟩)) := h.top.cell (o := 0) (by omega)
theorem IsTab.c1 (h : IsTab w base tb c bn bl vn vl lv n room ts R) : w.cell? ⟨tb, 1, none⟩ = some lv := h.top.cell (o := 1) (by omega)
theorem IsTab.c2 (h : IsTab w base tb c bn bl vn vl lv n room ts R) : w.cell? ⟨tb, 2, none⟩ = some (.int .i64 room) := h.top.cell (o := 2) (by omega)

/-- The slice of the tasks. -/
theorem IsTab.lvForm (h : IsTab w base tb c bn bl vn vl lv n room ts R) : ∃ a cap, lv = .slice a n cap ∧ (0 < n → ∃ g, a = some ⟨g, 0, none⟩ ∧ base ≤ g) := by
  rcases h.own.2 with ⟨rfl, rfl⟩ | ⟨g, cap, cur, rfl, hb, _⟩
  · exact ⟨none, 0, rfl, fun h => by omega⟩
  · exact ⟨_, cap, rfl, fun _ => ⟨g, rfl, hb⟩⟩

theorem IsTab.cell {g cap : Nat} (h : IsTab w base tb c bn bl vn vl (.slice (some ⟨g, 0, none⟩) n cap) n room ts R) {i o : Nat} (hi : i < n) (ho : o < 29) : w.cell? ⟨g, i * 29 + o, none⟩ = some (.int (tkKind o) (ts i o)) := by
  rw [h.own.cellAt (i * 29 + o) (by omega)]
  exact flat_at ts hi ho

theorem TLen_any (h : IsTab w base tb c bn bl vn vl lv n room ts R) : Calls Try.prog 12 #[.pointer (some ⟨tb, 0, none⟩)] w fun r w' => r = .returned (.int .i64 n) ∧ w = w' := by
  have c1 := h.c1
  obtain ⟨a, cap, rfl, -⟩ := h.lvForm
  clear h
  go_enter Try.func12, Try.ntmps12
  go_wp2_with fail
  go_ret
  exact ⟨rfl, rfl⟩

theorem TRoom_any (h : IsTab w base tb c bn bl vn vl lv n room ts R) : Calls Try.prog 15 #[.pointer (some ⟨tb, 0, none⟩)] w fun r w' => r = .returned (.int .i64 room) ∧ w = w' := by
  have c2 := h.c2
  clear h
  go_enter Try.func15, Try.ntmps15
  go_wp2_with fail
  go_ret
  exact ⟨rfl, rfl⟩

theorem TIs_any (h : IsTab w base tb c bn bl vn vl lv n room ts R) (i : Int) : Calls Try.prog 24 #[.pointer (some ⟨tb, 0, none⟩), .int .i64 i] w fun r w' => r = .returned (.bool (decide (0 ≤ i) && decide (i < n))) ∧ w = w' := by
  have HL := Lib.hid (TLen_any h)
  clear h
  by_cases h0 : 0 ≤ i
  · go_enter Try.func24, Try.ntmps24
    go_wp2_with fail
    refine HL.out.mono ?_
    rintro r w' ⟨rfl, rfl⟩
    go_wp2_with fail
    go_ret
    exact ⟨by simp [h0], rfl⟩
  · go_enter Try.func24, Try.ntmps24
    go_wp2_with fail
    go_ret
    exact ⟨by simp; omega, rfl⟩
end

def roomOf (n : Int) : Nat := (max 0 (min n 256)).toNat
def TabMade (w : World) (room : Nat) (r : Ending) (w' : World) : Prop :=
  ∃ base tb c bn bl vn vl, r = .returned (.pointer (some ⟨tb, 0, none⟩)) ∧ w.heap.size ≤ tb ∧ w.heap.size ≤ c ∧ w.heap.size ≤ bn ∧ w.heap.size ≤ bl ∧ IsTab w' base tb c bn bl vn vl (.slice none 0 0) 0 room (fun _ => tk0) (fun _ => []) ∧ Below w.heap.size w w'

set_option maxRecDepth 100000 in
theorem TNew_any (n : Int) (w : World) (h0 : -9223372036854775808 ≤ n) (h1 : n ≤ 9223372036854775807) : Calls Try.prog 6 #[.int .i64 n] w (TabMade w (roomOf n)) := by
  obtain ⟨room, hr⟩ : ∃ room, roomOf n = room := ⟨_, rfl⟩
  have hv : (256 < n ∧ room = 256) ∨ (¬ 256 < n ∧ 0 < n ∧ n = (room : Int)) ∨ (¬ 0 < n ∧ room = 0) := by unfold roomOf at hr; omega
  have hm : room ≤ 256 := by unfold roomOf at hr; omega
  rw [hr]
  have HN := Lib.hid (New_any room room w (by omega) (by omega) (by omega) (by omega))
  rw [show cntOf (room : Int) = room by unfold cntOf; omega] at HN
  have HF : ∀ (w1 : World) (c bn bl : Nat) (vn vl : Value), Has w1 c bn bl vn vl room room (fun _ => []) → w.heap.size ≤ c ∧ w.heap.size ≤ bn ∧ w.heap.size ≤ bl → Below w.heap.size w w1 →
      TabMade w room (.returned (.pointer (some ⟨w1.heap.size, 0, none⟩))) (w1.alloc (.cells #[.pointer (some ⟨c, 0, none⟩), .slice none 0 0, .int .i64 room] 63)) := by
    intro w1 c bn bl vn vl hH hge hB
    have hc : c < w1.heap.size := by obtain ⟨s, a, _⟩ := hH; exact a.top.lt
    have hbs : 0 < room → bn < w1.heap.size ∧ bl < w1.heap.size := fun h => by
      obtain ⟨s, a, _, e1, e2⟩ := hH
      exact ⟨(a.nodes (by omega)).lt, (a.rows (by omega)).lt⟩
    refine ⟨w1.heap.size + 1, w1.heap.size, c, bn, bl, vn, vl, rfl, hB.size, hge.1, hge.2.1, hge.2.2, ⟨(Blk.new _ _ _).congr fun o ho => ?_, ⟨by simp [flat], .inl ⟨rfl, rfl⟩⟩, hH.alloc _, ⟨by omega, by omega, by omega, by simp⟩, fun h => by have := hbs h; omega, by omega⟩, hB.alloc hB.size _⟩
    match o, ho with
    | 0, _ => rfl
    | 1, _ => rfl
    | 2, _ => rfl
  clear hr
  rcases hv with ⟨a1, rfl⟩ | ⟨a1, a2, rfl⟩ | ⟨a1, rfl⟩
  all_goals
    go_enter Try.func6, Try.ntmps6
    go_wp2_with fail
    refine HN.out.mono ?_
    rintro r w1 ⟨c, bn, bl, vn, vl, rfl, hc, hbn, hbl, hH, hB⟩
    have HFF := Lib.hid (HF w1 c bn bl vn vl hH ⟨hc, hbn, hbl⟩ hB)
    clear hH hB HN
    go_wp2_with fail
    go_ret
    exact HFF.out
end Go.Proofs.Ytedhhohnbekelaa
