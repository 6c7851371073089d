/- Get (package table). No condition. -/
import Derived.Test.YtedhhohnbekelaaR
import Derived.Deep.MidRow
namespace Go.Proofs.Ytedhhohnbekelaa
open Go.RowKit Go.Deep

section
variable {w w' : World} {base tb c bn bl n room : Nat} {vn vl lv : Value} {ts : Nat → Tk} {R : Nat → List Nat}

theorem IsTab.range {g cap : Nat} (h : IsTab w base tb c bn bl vn vl (.slice (some ⟨g, 0, none⟩) n cap) n room ts R) {i : Nat} (hi : i < n) : w.rangeAt g (i * 29) (tkArr (ts i)).toList := by
  intro j v hv
  have hj : j < 29 := by
    have := (List.getElem?_eq_some_iff.1 hv).1
    rw [Array.length_toList, tkArr_size] at this
    exact this
  rw [h.cell hi hj, ← hv, Array.getElem?_toList, tkArr_at _ hj]

def getD (n : Nat) (ts : Nat → Tk) (i : Int) : Bool × Tk := if 0 ≤ i ∧ i < n then (true, ts i.toNat) else (false, tk0)

set_option maxRecDepth 100000 in
theorem TGet_any (h : IsTab w base tb c bn bl vn vl lv n room ts R) (i : Int) : Calls Try.prog 11 #[.pointer (some ⟨tb, 0, none⟩), .int .i64 i] w fun r w' => r = .returned (.tuple #[tkV (getD n ts i).2, .bool (getD n ts i).1]) ∧ Below w.heap.size w w' := by
  have hz := zero30
  have z1 := size30 tk0
  have z2 := one30 tk0
  have hT := h.alloc (.cells (tkArr tk0) 30)
  have HI := Lib.hid (TIs_any hT i)
  have zs := tkArr_size tk0
  by_cases h2 : 0 ≤ i ∧ i < n
  · rw [isB h2] at HI
    obtain ⟨i, rfl⟩ := Int.eq_ofNat_of_zero_le h2.1
    have hi : i < n := by omega
    rw [show getD n ts i = (true, ts i) by unfold getD; rw [if_pos h2, Int.toNat_natCast]]
    obtain ⟨a, cap, rfl, hg⟩ := h.lvForm
    obtain ⟨g, rfl, hgb⟩ := hg (by omega)
    have c1 := hT.c1
    have hr := hT.range hi
    have t1 : (Try.prog.info? 30).map (·.size) = some (tkArr (ts i)).toList.length := by rw [Array.length_toList]; exact size30 _
    have t2 := one30 (ts i)
    have t3 : (tkArr tk0).size = (tkArr (ts i)).size := by rw [tkArr_size, tkArr_size]
    have t4 := size30 (ts i)
    unfold tkV
    obtain ⟨V, hV⟩ : ∃ V, tkArr (ts i) = V := ⟨_, rfl⟩
    obtain ⟨Z, hZ⟩ : ∃ Z, tkArr tk0 = Z := ⟨_, rfl⟩
    simp only [hZ] at hz
    rw [hZ] at t3 c1 hr z1 z2 HI
    rw [hV] at hr t1 t2 t3 t4
    rw [hV]
    have HR := Lib.hid hr
    clear hV hZ h hT hr h2 hg zs
    go_enter Try.func11, Try.ntmps11
    go_wp2_with fail
    refine HI.out.mono ?_
    rintro r w' ⟨rfl, rfl⟩
    go_wp2_with (first | (refine wpList_load_mid rfl 30 _ rfl g (i * 29) rfl V.toList _ HR.out Try.underlying30 rfl t1 ?_; rw [Array.toArray_toList]) | (refine wpList_store_row rfl 30 _ _ rfl w.heap.size V rfl rfl 30 Z (heap_alloc_new _ _) t4 t3 t2 ?_; rw [setRow_new]))
    exact bodyPost_ret (results_cr rfl _ _ w.heap.size 30 V _ rfl (heap_alloc_new _ _) Try.underlying30 rfl t4) rfl ⟨rfl, (Below.refl _ _).alloc (Nat.le_refl _) _⟩
  · rw [isB_no h2] at HI
    rw [show getD n ts i = (false, tk0) by unfold getD; rw [if_neg h2]]
    have hb := built30
    unfold tkV
    obtain ⟨Z, hZ⟩ : ∃ Z, tkArr tk0 = Z := ⟨_, rfl⟩
    simp only [hZ] at hz
    rw [hZ] at z1 z2 HI hb
    rw [hZ]
    obtain ⟨b1, b2⟩ := hb
    have B1 := Lib.hid b1
    have B2 := Lib.hid b2
    clear hZ h hT h2 b1 b2 zs
    go_enter Try.func11, Try.ntmps11
    go_wp2_with fail
    refine HI.out.mono ?_
    rintro r w' ⟨rfl, rfl⟩
    go_wp2_with (first | (refine wpList_build rfl 30 #[] rfl B1.out ?_; simp only [B2.out, List.map_toArray, List.map_nil]) | (refine wpList_store_row rfl 30 _ _ rfl w.heap.size Z rfl rfl 30 Z (heap_alloc_new _ _) z1 rfl z2 ?_; rw [setRow_new]))
    exact bodyPost_ret (results_cr rfl _ _ w.heap.size 30 Z _ rfl (heap_alloc_new _ _) Try.underlying30 rfl z1) rfl ⟨rfl, (Below.refl _ _).alloc (Nat.le_refl _) _⟩
end
end Go.Proofs.Ytedhhohnbekelaa
