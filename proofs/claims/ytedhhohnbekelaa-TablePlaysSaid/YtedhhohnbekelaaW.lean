/- Set and Add (package table), whatever they answer. No condition. -/
import Derived.Test.YtedhhohnbekelaaV
namespace Go.Proofs.Ytedhhohnbekelaa
open Go.RowKit Go.Deep

section
variable {w w' : World} {base tb c bn bl n room : Nat} {vn vl lv : Value} {ts : Nat → Tk} {R : Nat → List Nat}

theorem Frm.ofBelow {S : Nat → Prop} (h : Below w.heap.size w w') : Frm S w w' := ⟨h.os, h.tape, h.output, h.size, fun k hk _ => h.block k hk⟩

set_option maxRecDepth 100000 in
set_option maxHeartbeats 2000000 in
theorem TSet_any (h : IsTab w base tb c bn bl vn vl lv n room ts R) (i : Int) (t : Tk) : Calls Try.prog 9 #[.pointer (some ⟨tb, 0, none⟩), .int .i64 i, tkV t] w
    fun r w' => r = .returned (.int .i64 (setD n ts i t).1) ∧ IsTab w' base tb c bn bl vn vl lv n room (setD n ts i t).2 R ∧ Frm (TabS tb lv) w w' := by
  have hB := (Below.refl w.heap.size w).alloc (Nat.le_refl _) (.cells (tkArr t) 30)
  have HB := Lib.hid hB
  have hT := h.alloc (.cells (tkArr t) 30)
  have HI := Lib.hid (TIs_any hT i)
  have HM := Lib.hid (fun w => May_any t w)
  have h1 := size30 t
  by_cases h2 : 0 ≤ i ∧ i < n
  · rw [isB h2] at HI
    obtain ⟨i, rfl⟩ := Int.eq_ofNat_of_zero_le h2.1
    have hi : i < n := by omega
    cases hm : may t with
    | false =>
      have e : setD n ts i t = (1, ts) := by unfold setD; rw [if_neg (fun hn => hn h2), if_pos hm]
      rw [e]
      rw [hm] at HM
      have HT := Lib.hid hT
      obtain ⟨V, hV⟩ : ∃ V, V = tkArr t := ⟨_, rfl⟩
      unfold tkV at HM ⊢
      rw [← hV] at h1 HT HI HB HM ⊢
      clear h hT hB h2 hV e hm
      go_enter Try.func9, Try.ntmps9
      go_wp2_with fail
      refine HI.out.mono ?_
      rintro r w' ⟨rfl, rfl⟩
      go_wp2_with (refine wpList_load_row rfl 30 _ rfl w.heap.size rfl 30 V (0, 0) _ (heap_alloc_new _ _) Try.underlying30 rfl h1 ?_)
      refine (HM.out _).mono ?_
      rintro r w2 ⟨rfl, hb2⟩
      have HT2 := Lib.hid (HT.out.below hb2)
      have HB2 := Lib.hid (HB.out.trans (hb2.mono HB.out.size))
      clear hb2
      go_wp2_with fail
      go_ret
      exact ⟨rfl, HT2.out, Frm.ofBelow HB2.out⟩
    | true =>
      by_cases h8 : ts i 25 = 8
      · have e : setD n ts i t = (5, ts) := by unfold setD; rw [if_neg (fun hn => hn h2), if_neg (by rw [hm]; simp), Int.toNat_natCast, if_pos h8]
        rw [e]
        rw [hm] at HM
        obtain ⟨a, cap, rfl, hg⟩ := h.lvForm
        obtain ⟨g, rfl, hgb⟩ := hg (by omega)
        have HT := Lib.hid hT
        obtain ⟨V, hV⟩ : ∃ V, V = tkArr t := ⟨_, rfl⟩
        unfold tkV at HM ⊢
        rw [← hV] at h1 HT HI HB HM ⊢
        have H8 := Lib.hid h8
        clear h hT hB h2 hV e hm h8 hg
        go_enter Try.func9, Try.ntmps9
        go_wp2_with fail
        refine HI.out.mono ?_
        rintro r w' ⟨rfl, rfl⟩
        go_wp2_with (refine wpList_load_row rfl 30 _ rfl w.heap.size rfl 30 V (0, 0) _ (heap_alloc_new _ _) Try.underlying30 rfl h1 ?_)
        refine (HM.out _).mono ?_
        rintro r w2 ⟨rfl, hb2⟩
        have HT2 := Lib.hid (HT.out.below hb2)
        have HB2 := Lib.hid (HB.out.trans (hb2.mono HB.out.size))
        have c1 := HT2.out.c1
        have cs := HT2.out.cell hi (o := 25) (by omega)
        rw [show tkKind 25 = .i64 from rfl, H8.out] at cs
        clear hb2
        go_wp2_with fail
        go_ret
        exact ⟨rfl, HT2.out, Frm.ofBelow HB2.out⟩
      · have e : setD n ts i t = (0, updT ts i t) := by unfold setD; rw [if_neg (fun hn => hn h2), if_neg (by rw [hm]; simp), Int.toNat_natCast, if_neg h8]
        rw [e]
        exact TSet_yes h i hi t hm h8
  · rw [isB_no h2] at HI
    have e : setD n ts i t = (3, ts) := by unfold setD; rw [if_pos h2]
    rw [e]
    have HT := Lib.hid hT
    obtain ⟨V, hV⟩ : ∃ V, V = tkArr t := ⟨_, rfl⟩
    unfold tkV
    rw [← hV] at HT HI HB ⊢
    clear h hT hB h2 hV e h1 HM
    go_enter Try.func9, Try.ntmps9
    go_wp2_with fail
    refine HI.out.mono ?_
    rintro r w' ⟨rfl, rfl⟩
    go_wp2_with fail
    go_ret
    exact ⟨rfl, HT.out, Frm.ofBelow HB.out⟩
end
end Go.Proofs.Ytedhhohnbekelaa
