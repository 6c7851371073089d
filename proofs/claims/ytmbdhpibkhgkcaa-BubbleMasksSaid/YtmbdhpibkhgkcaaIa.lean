/- Make (package bubble), whatever it answers. No condition. -/
import Derived.Test.YtmbdhpibkhgkcaaI
namespace Go.Proofs.Ytmbdhpibkhgkcaa
open Go.RowKit

section
variable {w w' : World} {base fb n : Nat} {lv : Value} {bs : Nat → Bk}

set_option maxRecDepth 100000 in
theorem Make_mask (h : IsFo w base fb lv n bs) (up : Int) (m : Ws) (h1 : up = -1 ∨ (0 ≤ up ∧ up < n)) (h2 : eqW m ws0 = true) : Calls Try.prog 8 #[.pointer (some ⟨fb, 0, none⟩), .int .i64 up, wsV m] w
    fun r w' => r = .returned (.tuple #[.int .i64 0, .int .i64 6]) ∧ Below w.heap.size w w' := by
  have HT := Lib.hid (h.alloc (.cells (wsArr m) 29))
  have HI := Lib.hid (FIs_any HT.out up)
  have s1 := size29 m
  have HN := Lib.hid (heap_alloc_new w (.cells (wsArr m) 29))
  have HB := Lib.hid ((Below.refl w.heap.size w).alloc (Nat.le_refl _) (.cells (wsArr m) 29))
  have HE := fun w => eql_ws m ws0 w
  rw [h2] at HE
  obtain ⟨V, hV⟩ : ∃ V, V = wsArr m := ⟨_, rfl⟩
  obtain ⟨Z, hZ⟩ : ∃ Z, Z = wsArr ws0 := ⟨_, rfl⟩
  unfold wsV at HE ⊢
  simp only [← hV, ← hZ] at HE
  rw [← hV] at HT HI s1 HN HB
  rw [← hV]
  have HZ := Lib.hid hZ
  clear hV hZ h2
  obtain ⟨av, cap, hlv, hg⟩ := h.lvForm
  clear h
  rcases h1 with rfl | ⟨u0, u1⟩
  · go_enter Try.func8, Try.ntmps8
    go_wp2_with (first | (refine wpList_load_row rfl 29 _ rfl w.heap.size rfl 29 V (0, 0) _ HN.out Try.underlying29 rfl s1 ?_) | (refine wpList_build29 HZ.out rfl rfl ?_))
    go_ret2
    exact ⟨rfl, HB.out⟩
  · obtain ⟨u, rfl⟩ := Int.eq_ofNat_of_zero_le u0
    have hu : u < n := by omega
    obtain ⟨g, rfl, hgb⟩ := hg (by omega)
    rw [show isB n (u : Int) = true by unfold isB; exact decide_eq_true ⟨u0, u1⟩] at HI
    have hne1 : ((u : Int) == -1) = false := by first | (simp; done) | (simp; omega)
    have hne2 : ((u : Int) != -1) = true := by first | (simp; done) | (simp; omega)
    go_enter Try.func8, Try.ntmps8
    go_wp2_with fail
    refine HI.out.mono ?_
    rintro r w' ⟨rfl, rfl⟩
    go_wp2_with (first | (refine wpList_load_row rfl 29 _ rfl w.heap.size rfl 29 V (0, 0) _ HN.out Try.underlying29 rfl s1 ?_) | (refine wpList_build29 HZ.out rfl rfl ?_))
    go_ret2
    exact ⟨rfl, HB.out⟩

set_option maxRecDepth 100000 in
theorem Make_state (h : IsFo w base fb lv n bs) (up : Int) (m : Ws) (u0 : 0 ≤ up) (u1 : up < n) (h3 : bs up.toNat 17 ≠ 1) (h2 : eqW m ws0 = false) : Calls Try.prog 8 #[.pointer (some ⟨fb, 0, none⟩), .int .i64 up, wsV m] w
    fun r w' => r = .returned (.tuple #[.int .i64 0, .int .i64 5]) ∧ Below w.heap.size w w' := by
  have HT := Lib.hid (h.alloc (.cells (wsArr m) 29))
  have HI := Lib.hid (FIs_any HT.out up)
  have s1 := size29 m
  have HN := Lib.hid (heap_alloc_new w (.cells (wsArr m) 29))
  have HB := Lib.hid ((Below.refl w.heap.size w).alloc (Nat.le_refl _) (.cells (wsArr m) 29))
  have HE := fun w => eql_ws m ws0 w
  rw [h2] at HE
  obtain ⟨V, hV⟩ : ∃ V, V = wsArr m := ⟨_, rfl⟩
  obtain ⟨Z, hZ⟩ : ∃ Z, Z = wsArr ws0 := ⟨_, rfl⟩
  unfold wsV at HE ⊢
  simp only [← hV, ← hZ] at HE
  rw [← hV] at HT HI s1 HN HB
  rw [← hV]
  have HZ := Lib.hid hZ
  clear hV hZ h2
  obtain ⟨av, cap, hlv, hg⟩ := h.lvForm
  clear h
  obtain ⟨u, rfl⟩ := Int.eq_ofNat_of_zero_le u0
  have hu : u < n := by omega
  obtain ⟨g, rfl, hgb⟩ := hg (by omega)
  rw [show isB n (u : Int) = true by unfold isB; exact decide_eq_true ⟨u0, u1⟩] at HI
  have hne1 : ((u : Int) == -1) = false := by first | (simp; done) | (simp; omega)
  have hne2 : ((u : Int) != -1) = true := by first | (simp; done) | (simp; omega)
  rw [Int.toNat_natCast] at h3
  subst hlv
  have c0 := HT.out.c0
  have cs := HT.out.cell hu (o := 17) (by omega)
  rw [show buKind 17 = .i64 from rfl] at cs
  have h4 : (bs u 17 == 1) = false := by simpa using h3
  have h5 : (bs u 17 != 1) = true := by simpa using h3
  clear h3
  generalize bs u 17 = st at *
  go_enter Try.func8, Try.ntmps8
  go_wp2_with fail
  refine HI.out.mono ?_
  rintro r w' ⟨rfl, rfl⟩
  go_wp2_with (first | (refine wpList_load_row rfl 29 _ rfl w.heap.size rfl 29 V (0, 0) _ HN.out Try.underlying29 rfl s1 ?_) | (refine wpList_build29 HZ.out rfl rfl ?_))
  go_ret2
  exact ⟨rfl, HB.out⟩

set_option maxRecDepth 100000 in
theorem Make_full (h : IsFo w base fb lv n bs) (up : Int) (m : Ws) (h1 : up = -1 ∨ (0 ≤ up ∧ up < n ∧ bs up.toNat 17 = 1)) (h2 : eqW m ws0 = false) (h3 : 32 ≤ n) : Calls Try.prog 8 #[.pointer (some ⟨fb, 0, none⟩), .int .i64 up, wsV m] w
    fun r w' => r = .returned (.tuple #[.int .i64 0, .int .i64 4]) ∧ Below w.heap.size w w' := by
  have HT := Lib.hid (h.alloc (.cells (wsArr m) 29))
  have HI := Lib.hid (FIs_any HT.out up)
  have s1 := size29 m
  have HN := Lib.hid (heap_alloc_new w (.cells (wsArr m) 29))
  have HB := Lib.hid ((Below.refl w.heap.size w).alloc (Nat.le_refl _) (.cells (wsArr m) 29))
  have HE := fun w => eql_ws m ws0 w
  rw [h2] at HE
  obtain ⟨V, hV⟩ : ∃ V, V = wsArr m := ⟨_, rfl⟩
  obtain ⟨Z, hZ⟩ : ∃ Z, Z = wsArr ws0 := ⟨_, rfl⟩
  unfold wsV at HE ⊢
  simp only [← hV, ← hZ] at HE
  rw [← hV] at HT HI s1 HN HB
  rw [← hV]
  have HZ := Lib.hid hZ
  clear hV hZ h2
  have hge : (32 : Int) ≤ n := by omega
  obtain ⟨av, cap, hlv, hg⟩ := h.lvForm
  clear h
  rcases h1 with rfl | ⟨u0, u1, u2⟩
  · subst hlv
    have c0 := HT.out.c0
    go_enter Try.func8, Try.ntmps8
    go_wp2_with (first | (refine wpList_load_row rfl 29 _ rfl w.heap.size rfl 29 V (0, 0) _ HN.out Try.underlying29 rfl s1 ?_) | (refine wpList_build29 HZ.out rfl rfl ?_))
    go_ret2
    exact ⟨rfl, HB.out⟩
  · obtain ⟨u, rfl⟩ := Int.eq_ofNat_of_zero_le u0
    have hu : u < n := by omega
    obtain ⟨g, rfl, hgb⟩ := hg (by omega)
    rw [show isB n (u : Int) = true by unfold isB; exact decide_eq_true ⟨u0, u1⟩] at HI
    have hne1 : ((u : Int) == -1) = false := by first | (simp; done) | (simp; omega)
    have hne2 : ((u : Int) != -1) = true := by first | (simp; done) | (simp; omega)
    rw [Int.toNat_natCast] at u2
    subst hlv
    have c0 := HT.out.c0
    have cs := HT.out.cell hu (o := 17) (by omega)
    rw [show buKind 17 = .i64 from rfl, u2] at cs
    clear u2
    go_enter Try.func8, Try.ntmps8
    go_wp2_with fail
    refine HI.out.mono ?_
    rintro r w' ⟨rfl, rfl⟩
    go_wp2_with (first | (refine wpList_load_row rfl 29 _ rfl w.heap.size rfl 29 V (0, 0) _ HN.out Try.underlying29 rfl s1 ?_) | (refine wpList_build29 HZ.out rfl rfl ?_))
    go_ret2
    exact ⟨rfl, HB.out⟩

theorem FMake_any (h : IsFo w base fb lv n bs) (up : Int) (m : Ws) : Calls Try.prog 8 #[.pointer (some ⟨fb, 0, none⟩), .int .i64 up, wsV m] w (MadeTo w base fb lv (makeD n bs up m)) := by
  unfold makeD
  by_cases h1 : up ≠ -1 ∧ ¬ (0 ≤ up ∧ up < n)
  · rw [if_pos h1]
    refine (Make_arg h up m h1).mono ?_
    rintro r w' ⟨rfl, hb⟩
    exact ⟨rfl, lv, h.below hb, Frm.ofBelow hb, .inl rfl⟩
  · rw [if_neg h1]
    have h1' : up = -1 ∨ (0 ≤ up ∧ up < n) := by omega
    cases h2 : eqW m ws0 with
    | true =>
      rw [if_pos rfl]
      refine (Make_mask h up m h1' h2).mono ?_
      rintro r w' ⟨rfl, hb⟩
      exact ⟨rfl, lv, h.below hb, Frm.ofBelow hb, .inl rfl⟩
    | false =>
      rw [if_neg (by simp)]
      by_cases h3 : up ≠ -1 ∧ bs up.toNat 17 ≠ 1
      · rw [if_pos h3]
        refine (Make_state h up m (by omega) (by omega) h3.2 h2).mono ?_
        rintro r w' ⟨rfl, hb⟩
        exact ⟨rfl, lv, h.below hb, Frm.ofBelow hb, .inl rfl⟩
      · rw [if_neg h3]
        have h3' : up = -1 ∨ (0 ≤ up ∧ up < n ∧ bs up.toNat 17 = 1) := by omega
        by_cases h4 : 32 ≤ n
        · rw [if_pos h4]
          refine (Make_full h up m h3' h2 h4).mono ?_
          rintro r w' ⟨rfl, hb⟩
          exact ⟨rfl, lv, h.below hb, Frm.ofBelow hb, .inl rfl⟩
        · rw [if_neg h4]
          exact Make_yes h up m h3' h2 (by omega)
end

set_option maxRecDepth 100000 in
theorem FMake_nil (m : Ws) (h2 : eqW m ws0 = false) (w : World) : Calls Try.prog 8 #[.pointer none, .int .i64 (-1), wsV m] w
    fun r w' => r = .returned (.tuple #[.int .i64 0, .int .i64 4]) ∧ Below w.heap.size w w' := by
  have s1 := size29 m
  have HN := Lib.hid (heap_alloc_new w (.cells (wsArr m) 29))
  have HB := Lib.hid ((Below.refl w.heap.size w).alloc (Nat.le_refl _) (.cells (wsArr m) 29))
  have HE := fun w => eql_ws m ws0 w
  rw [h2] at HE
  obtain ⟨V, hV⟩ : ∃ V, V = wsArr m := ⟨_, rfl⟩
  obtain ⟨Z, hZ⟩ : ∃ Z, Z = wsArr ws0 := ⟨_, rfl⟩
  unfold wsV at HE ⊢
  simp only [← hV, ← hZ] at HE
  rw [← hV] at s1 HN HB
  rw [← hV]
  have HZ := Lib.hid hZ
  clear hV hZ h2
  go_enter Try.func8, Try.ntmps8
  go_wp2_with (first | (refine wpList_load_row rfl 29 _ rfl w.heap.size rfl 29 V (0, 0) _ HN.out Try.underlying29 rfl s1 ?_) | (refine wpList_build29 HZ.out rfl rfl ?_))
  go_ret2
  exact ⟨rfl, HB.out⟩
end Go.Proofs.Ytmbdhpibkhgkcaa
