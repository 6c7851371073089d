/- Add (package table), whatever it answers. No condition. -/
import Derived.Test.YtedhhohnbekelaaW
namespace Go.Proofs.Ytedhhohnbekelaa
open Go.RowKit Go.Deep

/-- What Add answers, how many there are then, and which. -/
def addD (n room : Nat) (ts : Nat → Tk) (t : Tk) : Int × Int × Nat × (Nat → Tk) :=
  if may t = false then (0, 1, n, ts) else if room ≤ n then (0, 4, n, ts) else (n, 0, n + 1, updT ts n t)

def Added (w : World) (base tb c bn bl : Nat) (vn vl lv : Value) (room : Nat) (R : Nat → List Nat) (q : Int × Int × Nat × (Nat → Tk)) (r : Ending) (w' : World) : Prop :=
  r = .returned (.tuple #[.int .i64 q.1, .int .i64 q.2.1]) ∧ ∃ lv', IsTab w' base tb c bn bl vn vl lv' q.2.2.1 room q.2.2.2 R ∧ Frm (TabS tb lv) w w' ∧ (lv'.ownBlock = lv.ownBlock ∨ ∃ g, w.heap.size ≤ g ∧ lv'.ownBlock = some g)

section
variable {w w' : World} {base tb c bn bl n room : Nat} {vn vl lv : Value} {ts : Nat → Tk} {R : Nat → List Nat}

set_option maxRecDepth 100000 in
theorem TAdd_arg (h : IsTab w base tb c bn bl vn vl lv n room ts R) (t : Tk) (hm : may t = false) : Calls Try.prog 8 #[.pointer (some ⟨tb, 0, none⟩), tkV t] w fun r w' => r = .returned (.tuple #[.int .i64 0, .int .i64 1]) ∧ Below w.heap.size w w' := by
  have HM := Lib.hid (fun w => May_any t w)
  rw [hm] at HM
  have h1 := size30 t
  obtain ⟨V, hV⟩ : ∃ V, V = tkArr t := ⟨_, rfl⟩
  rw [← hV] at h1
  unfold tkV at HM ⊢
  rw [← hV] at HM ⊢
  have HB := Lib.hid ((Below.refl w.heap.size w).alloc (Nat.le_refl _) (.cells V 30))
  clear h hV hm
  go_enter Try.func8, Try.ntmps8
  go_wp2_with (refine wpList_load_row rfl 30 _ rfl w.heap.size rfl 30 V (0, 0) _ (heap_alloc_new _ _) Try.underlying30 rfl h1 ?_)
  refine (HM.out _).mono ?_
  rintro r w2 ⟨rfl, hb2⟩
  have HB2 := Lib.hid (HB.out.trans (hb2.mono HB.out.size))
  clear hb2 HM HB
  go_wp2_with fail
  go_ret2
  exact ⟨rfl, HB2.out⟩

theorem TAdd_any (h : IsTab w base tb c bn bl vn vl lv n room ts R) (t : Tk) : Calls Try.prog 8 #[.pointer (some ⟨tb, 0, none⟩), tkV t] w (Added w base tb c bn bl vn vl lv room R (addD n room ts t)) := by
  unfold addD
  cases hm : may t with
  | false =>
    rw [if_pos rfl]
    refine (TAdd_arg h t hm).mono ?_
    rintro r w' ⟨rfl, hb⟩
    exact ⟨rfl, lv, h.below hb, Frm.ofBelow hb, .inl rfl⟩
  | true =>
    rw [if_neg (by simp)]
    by_cases hn : room ≤ n
    · rw [if_pos hn]
      refine (TAdd_full h t hm hn).mono ?_
      rintro r w' ⟨rfl, hb⟩
      exact ⟨rfl, lv, h.below hb, Frm.ofBelow hb, .inl rfl⟩
    · rw [if_neg hn]
      refine (TAdd_yes h t hm (by omega)).mono ?_
      rintro r w' ⟨rfl, lv', hT, hF, hb⟩
      exact ⟨rfl, lv', hT, hF, hb⟩
end
end Go.Proofs.Ytedhhohnbekelaa
