/- Join (package table). No condition. -/
import Derived.Test.YtedhhohnbekelaaJ
namespace Go.Proofs.Ytedhhohnbekelaa
open Go.RowKit

/-- What Join answers, and who waits for whom then. -/
def joinD (n room : Nat) (ts : Nat → Tk) (R : Nat → List Nat) (id on : Int) : Int × (Nat → List Nat) :=
  if ¬ ((0 ≤ id ∧ id < n) ∧ 0 ≤ on ∧ on < n) then (3, R) else if id = on then (1, R) else if ts on.toNat 25 = 8 then (5, R) else pushR room room R on id

section
variable {w w' : World} {base tb c bn bl n room : Nat} {vn vl lv : Value} {ts : Nat → Tk} {R : Nat → List Nat}

theorem isB {i : Int} {n : Nat} (h : 0 ≤ i ∧ i < n) : (decide (0 ≤ i) && decide (i < n)) = true := by simp [h]
theorem isB_no {i : Int} {n : Nat} (h : ¬ (0 ≤ i ∧ i < n)) : (decide (0 ≤ i) && decide (i < n)) = false := by
  by_cases h1 : 0 ≤ i
  · have : ¬ i < n := fun h2 => h ⟨h1, h2⟩
    simp [this]
  · simp [h1]

theorem IsTab.rows {R' : Nat → List Nat} (h : IsTab w base tb c bn bl vn vl lv n room ts R) (h0 : 0 < room) (hF : Frm (Two bn bl) w w') (hH : Has w' c bn bl vn vl room room R') : IsTab w' base tb c bn bl vn vl lv n room ts R' := by
  obtain ⟨a1, a2, a3, a4⟩ := h.apart h0
  obtain ⟨l1, l2, l3, l4⟩ := h.low
  refine ⟨hF.blk h.top (fun hs => by rcases hs with e | e <;> omega), own_of_heap h.own fun k hk => hF.block k (h.own.lt k hk).2 (fun hs => by have := (h.own.lt k hk).1; rcases hs with e | e <;> omega), hH, ⟨l1, l2, l3, Nat.le_trans l4 hF.size⟩, h.apart, h.most⟩

set_option maxRecDepth 100000 in
theorem TJoin_any (h : IsTab w base tb c bn bl vn vl lv n room ts R) (id on : Int) : Calls Try.prog 10 #[.pointer (some ⟨tb, 0, none⟩), .int .i64 id, .int .i64 on] w
    fun r w' => r = .returned (.int .i64 (joinD n room ts R id on).1) ∧ IsTab w' base tb c bn bl vn vl lv n room ts (joinD n room ts R id on).2 ∧ Frm (Two bn bl) w w' := by
  have HI := Lib.hid (TIs_any h id)
  have HJ := Lib.hid (TIs_any h on)
  by_cases h1 : 0 ≤ id ∧ id < n
  · rw [isB h1] at HI
    by_cases h2 : 0 ≤ on ∧ on < n
    · rw [isB h2] at HJ
      by_cases h3 : id = on
      · have e : joinD n room ts R id on = (1, R) := by unfold joinD; rw [if_neg (fun h => h ⟨h1, h2⟩), if_pos h3]
        rw [e]
        subst h3
        have H := Lib.hid h
        clear h e h1 h2
        go_enter Try.func10, Try.ntmps10
        go_wp2_with fail
        refine HI.out.mono ?_
        rintro r w' ⟨rfl, rfl⟩
        go_wp2_with fail
        refine HI.out.mono ?_
        rintro r w' ⟨rfl, rfl⟩
        go_wp2_with fail
        go_ret
        exact ⟨rfl, H.out, Frm.refl _ _⟩
      · obtain ⟨on, rfl⟩ := Int.eq_ofNat_of_zero_le h2.1
        have hon : on < n := by omega
        obtain ⟨a, cap, rfl, hg⟩ := h.lvForm
        obtain ⟨g, rfl, hgb⟩ := hg (by omega)
        have c1 := h.c1
        have c0 := h.c0
        have cs := h.cell hon (o := 25) (by omega)
        rw [show tkKind 25 = .i64 from rfl] at cs
        have n3 : (id == (on : Int)) = false := by simpa using h3
        by_cases h4 : ts on 25 = 8
        · have e : joinD n room ts R id on = (5, R) := by unfold joinD; rw [if_neg (fun h => h ⟨h1, h2⟩), if_neg h3, Int.toNat_natCast, if_pos h4]
          rw [e]
          rw [h4] at cs
          have H := Lib.hid h
          clear h e h1 h2 h3 h4
          go_enter Try.func10, Try.ntmps10
          go_wp2_with fail
          refine HI.out.mono ?_
          rintro r w' ⟨rfl, rfl⟩
          go_wp2_with fail
          refine HJ.out.mono ?_
          rintro r w' ⟨rfl, rfl⟩
          go_wp2_with fail
          go_ret
          exact ⟨rfl, H.out, Frm.refl _ _⟩
        · have e : joinD n room ts R id on = pushR room room R on id := by unfold joinD; rw [if_neg (fun h => h ⟨h1, h2⟩), if_neg h3, Int.toNat_natCast, if_neg h4]
          have HP := Lib.hid (h.ch.push on id)
          rw [e]
          obtain ⟨q, hq⟩ : ∃ q, pushR room room R on id = q := ⟨_, rfl⟩
          rw [hq] at HP ⊢
          have n4 : (ts on 25 == 8) = false := by simpa using h4
          have H := Lib.hid h
          have hr : 0 < room := by have := h.most; omega
          generalize ts on 25 = st at *
          clear h e h1 h2 h3 h4 hq
          go_enter Try.func10, Try.ntmps10
          go_wp2_with fail
          refine HI.out.mono ?_
          rintro r w' ⟨rfl, rfl⟩
          go_wp2_with fail
          refine HJ.out.mono ?_
          rintro r w' ⟨rfl, rfl⟩
          go_wp2_with fail
          refine HP.out.mono ?_
          rintro r w3 ⟨rfl, h5, hF⟩
          go_wp2_with fail
          go_ret
          exact ⟨rfl, H.out.rows hr hF h5, hF⟩
    · rw [isB_no h2] at HJ
      have e : joinD n room ts R id on = (3, R) := by unfold joinD; rw [if_pos (fun h => h2 h.2)]
      rw [e]
      have H := Lib.hid h
      clear h e h1 h2
      go_enter Try.func10, Try.ntmps10
      go_wp2_with fail
      refine HI.out.mono ?_
      rintro r w' ⟨rfl, rfl⟩
      go_wp2_with fail
      refine HJ.out.mono ?_
      rintro r w' ⟨rfl, rfl⟩
      go_wp2_with fail
      go_ret
      exact ⟨rfl, H.out, Frm.refl _ _⟩
  · rw [isB_no h1] at HI
    have e : joinD n room ts R id on = (3, R) := by unfold joinD; rw [if_pos (fun h => h1 h.1)]
    rw [e]
    have H := Lib.hid h
    clear h e h1
    go_enter Try.func10, Try.ntmps10
    go_wp2_with fail
    refine HI.out.mono ?_
    rintro r w' ⟨rfl, rfl⟩
    go_wp2_with fail
    go_ret
    exact ⟨rfl, H.out, Frm.refl _ _⟩
end
end Go.Proofs.Ytedhhohnbekelaa
