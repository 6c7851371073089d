/- Seal, Place (package bubble). No condition. -/
import Derived.Test.YtmbdhpibkhgkcaaK
namespace Go.Proofs.Ytmbdhpibkhgkcaa
open Go.RowKit

def setO (b : Bk) (o : Nat) (x : Int) : Bk := fun k => if k = o then x else b k

theorem flat_set1 (bs : Nat → Bk) {n i o : Nat} (hi : i < n) (ho : o < 19) (x : Int) : (flat bs n).set (i * 19 + o) (.int (buKind o) x) = flat (updT bs i (setO (bs i) o x)) n := by
  apply List.ext_getElem?
  intro k
  rw [List.getElem?_set]
  by_cases hk : k < n * 19
  · have ek : k = k / 19 * 19 + k % 19 := by omega
    by_cases e : i * 19 + o = k
    · rw [if_pos e, if_pos (by rw [flat_len]; omega)]
      have h3 : (flat (updT bs i (setO (bs i) o x)) n)[i * 19 + o]? = _ := flat_at (updT bs i (setO (bs i) o x)) hi ho
      rw [← e, h3, updT_same]
      unfold setO
      rw [if_pos rfl]
    · rw [if_neg e]
      conv => lhs; rw [ek]
      conv => rhs; rw [ek]
      rw [flat_at bs (i := k / 19) (by omega) (by omega), flat_at _ (i := k / 19) (by omega) (by omega)]
      by_cases e2 : k / 19 = i
      · rw [e2, updT_same]
        unfold setO
        rw [if_neg (by omega)]
      · rw [updT_other _ _ e2]
  · rw [if_neg (by omega), List.getElem?_eq_none (by rw [flat_len]; omega), List.getElem?_eq_none (by rw [flat_len]; omega)]

section
variable {w w' : World} {base fb n : Nat} {lv : Value} {bs : Nat → Bk}

/-- One number of a bubble is written. -/
theorem IsFo.wcell {g cap : Nat} (h : IsFo w base fb (.slice (some ⟨g, 0, none⟩) n cap) n bs) {i o : Nat} (hi : i < n) (ho : o < 19) (h0 : o ≠ 0) {k : IntKind} (hk : buKind o = k) (x : Int) :
    IsFo (w.setCell ⟨g, i * 19 + o, none⟩ (.int k x)) base fb (.slice (some ⟨g, 0, none⟩) n cap) n (updT bs i (setO (bs i) o x)) ∧ Frm (FoS fb (.slice (some ⟨g, 0, none⟩) n cap)) w (w.setCell ⟨g, i * 19 + o, none⟩ (.int k x)) := by
  subst hk
  have hst := (h.own.stored (i * 19 + o) (.int (buKind o) x)).1
  rw [flat_set1 bs hi ho x] at hst
  have hF : Frm (FoS fb (.slice (some ⟨g, 0, none⟩) n cap)) w (w.setCell ⟨g, i * 19 + o, none⟩ (.int (buKind o) x)) := (Frm.refl _ _).setCell (p := ⟨g, i * 19 + o, none⟩) (fun _ => .inr rfl) _
  have hlow := h.low
  have hgb := (h.own.lt g rfl).1
  have hF2 : Frm (fun k => k = g) w (w.setCell ⟨g, i * 19 + o, none⟩ (.int (buKind o) x)) := (Frm.refl (fun k => k = g) w).setCell (p := ⟨g, i * 19 + o, none⟩) (fun _ => rfl) _
  refine ⟨⟨hF2.blk h.top (by omega), hst, ⟨hlow.1, by simpa using hlow.2⟩, h.most, fun j hj => ?_⟩, hF⟩
  by_cases e : j = i
  · subst e
    rw [updT_same]
    unfold setO
    rw [if_neg (fun h => h0 h.symm)]
    exact h.ups j hj
  · rw [updT_other _ _ e]
    exact h.ups j hj
theorem IsFo.fz {g cap : Nat} (h : IsFo w base fb (.slice (some ⟨g, 0, none⟩) n cap) n bs) (o : Nat) : w.frozen? ⟨g, o, none⟩ = false := h.own.frozenAt _

/-- A small list of numbers, in memory. -/
theorem sl1 (w : World) (x : Nat) : SlL (w.alloc (.cells #[.int .i64 (x : Nat)] 3)) (.slice (some ⟨w.heap.size, 0, none⟩) 1 1) [x] :=
  ⟨_, _, rfl, fun _ => ⟨_, 0, rfl, fun i y hy => by
    match i, hy with
    | 0, hy => simp at hy; subst hy; simp⟩⟩
theorem sl2 (w : World) (x y : Nat) : SlL (w.alloc (.cells #[.int .i64 (x : Nat), .int .i64 (y : Nat)] 3)) (.slice (some ⟨w.heap.size, 0, none⟩) 2 2) [x, y] :=
  ⟨_, _, rfl, fun _ => ⟨_, 0, rfl, fun i z hz => by
    match i, hz with
    | 0, hz => simp at hz; subst hz; simp
    | 1, hz => simp at hz; subst hz; simp⟩⟩

def sealD (n : Nat) (bs : Nat → Bk) (b : Int) : Int × (Nat → Bk) :=
  if isB n b = true then (if bs b.toNat 17 = 1 then (0, updT bs b.toNat (setO (bs b.toNat) 17 2)) else (5, bs)) else (3, bs)

def TurnTo (w : World) (base fb : Nat) (lv : Value) (n : Nat) (q : Int × (Nat → Bk)) (r : Ending) (w' : World) : Prop :=
  r = .returned (.int .i64 q.1) ∧ IsFo w' base fb lv n q.2 ∧ Frm (FoS fb lv) w w'

set_option maxRecDepth 100000 in
theorem FSeal_any (h : IsFo w base fb lv n bs) (b : Int) : Calls Try.prog 30 #[.pointer (some ⟨fb, 0, none⟩), .int .i64 b] w (TurnTo w base fb lv n (sealD n bs b)) := by
  have hT := h.alloc (.cells #[.int .i64 1] 3)
  have HA := Lib.hid (FAsk_any hT b (sl1 w 1) (by simp))
  have HT := Lib.hid hT
  have HF := Lib.hid (show Frm (FoS fb lv) w (w.alloc (.cells #[.int .i64 1] 3)) from (Frm.refl _ _).alloc _)
  unfold sealD
  unfold askD at HA
  cases hb : isB n b with
  | true =>
    rw [hb] at HA
    simp only [if_true, ite_true] at HA
    obtain ⟨b0, b1⟩ := isB_iff.1 hb
    obtain ⟨b, rfl⟩ := Int.eq_ofNat_of_zero_le b0
    have hc : b < n := by omega
    obtain ⟨la, lcap, rfl, hg⟩ := h.lvForm
    obtain ⟨g, rfl, hgb⟩ := hg (by omega)
    rw [if_pos rfl, Int.toNat_natCast]
    rw [Int.toNat_natCast] at HA
    by_cases e : bs b 17 = 1
    · rw [if_pos e]
      simp [e, atV] at HA
      have c1 := HT.out.cell hc (o := 17) (by omega)
      rw [show buKind 17 = .i64 from rfl] at c1
      have f1 := HT.out.fz (b * 19 + 17)
      have HW := Lib.hid (HT.out.wcell hc (o := 17) (by omega) (by omega) rfl 2)
      clear h hT hb hg e
      go_enter Try.func30, Try.ntmps30
      go_wp2_with fail
      refine HA.out.mono ?_
      rintro r w' ⟨rfl, rfl⟩
      go_wp2_with fail
      go_ret
      exact ⟨rfl, HW.out.1, HF.out.trans HW.out.2⟩
    · rw [if_neg e]
      simp [e, atV] at HA
      clear h hT hb hg e
      go_enter Try.func30, Try.ntmps30
      go_wp2_with fail
      refine HA.out.mono ?_
      rintro r w' ⟨rfl, rfl⟩
      go_wp2_with fail
      go_ret
      exact ⟨rfl, HT.out, HF.out⟩
  | false =>
    rw [hb] at HA
    rw [if_neg (by simp)]
    obtain ⟨la, lcap, hlv, hg⟩ := h.lvForm
    have hat : atV lv none = .pointer none := by rw [hlv]; cases la <;> rfl
    simp [hat] at HA
    clear h hT hb hat hg
    go_enter Try.func30, Try.ntmps30
    go_wp2_with fail
    refine HA.out.mono ?_
    rintro r w' ⟨rfl, rfl⟩
    go_wp2_with fail
    go_ret
    exact ⟨rfl, HT.out, HF.out⟩

def placeD (n : Nat) (bs : Nat → Bk) (b home : Int) : Int × (Nat → Bk) :=
  if isB n b = true then
    (if bs b.toNat 17 = 2 ∨ bs b.toNat 17 = 3 then
      (if bs b.toNat 0 ≠ -1 ∧ bs (bs b.toNat 0).toNat 17 ≠ 4 then (5, bs) else (0, updT bs b.toNat (setO (setO (bs b.toNat) 17 3) 18 home)))
    else (5, bs))
  else (3, bs)

theorem updT_two (bs : Nat → Bk) (b : Nat) (x y : Bk) : updT (updT bs b x) b y = updT bs b y := by
  funext k
  unfold updT
  split <;> rfl

set_option maxRecDepth 100000 in
set_option maxHeartbeats 1000000 in
theorem FPlace_any (h : IsFo w base fb lv n bs) (b home : Int) : Calls Try.prog 31 #[.pointer (some ⟨fb, 0, none⟩), .int .i64 b, .int .i64 home] w (TurnTo w base fb lv n (placeD n bs b home)) := by
  have hT := h.alloc (.cells #[.int .i64 2, .int .i64 3] 3)
  have HA := Lib.hid (FAsk_any hT b (sl2 w 2 3) (by simp))
  have HT := Lib.hid hT
  have HF := Lib.hid (show Frm (FoS fb lv) w (w.alloc (.cells #[.int .i64 2, .int .i64 3] 3)) from (Frm.refl _ _).alloc _)
  have hmost := h.most
  unfold placeD
  unfold askD at HA
  cases hb : isB n b with
  | true =>
    rw [hb] at HA
    simp only [if_true, ite_true] at HA
    obtain ⟨b0, b1⟩ := isB_iff.1 hb
    obtain ⟨b, rfl⟩ := Int.eq_ofNat_of_zero_le b0
    have hc : b < n := by omega
    obtain ⟨la, lcap, rfl, hg⟩ := h.lvForm
    obtain ⟨g, rfl, hgb⟩ := hg (by omega)
    rw [if_pos rfl, Int.toNat_natCast]
    rw [Int.toNat_natCast] at HA
    by_cases e : bs b 17 = 2 ∨ bs b 17 = 3
    · rw [if_pos e]
      have hany : ([2, 3] : List Nat).any (fun (s : Nat) => bs b 17 == (s : Int)) = true := by
        rcases e with e | e <;> simp [e]
      rw [hany] at HA
      simp only [if_true, ite_true, atV] at HA
      have c1 := HT.out.cell hc (o := 0) (by omega)
      rw [show buKind 0 = .i64 from rfl, Nat.add_zero] at c1
      have hup := h.ups b hc
      have k0 := HT.out.c0
      clear hany e hb
      by_cases hu : bs b 0 = -1
      · rw [if_neg (fun hh => hh.1 hu)]
        rw [hu] at c1
        clear h hT hg hu
        go_enter Try.func31, Try.ntmps31
        go_wp2_with fail
        refine HA.out.mono ?_
        rintro r w' ⟨rfl, rfl⟩
        go_wp2_with fail
        go_region
        obtain ⟨W2, hW2⟩ : ∃ W2, (w.alloc (.cells #[.int .i64 2, .int .i64 3] 3)).drew = W2 := ⟨_, rfl⟩
        have HT2 := Lib.hid (show IsFo W2 base fb (.slice (some ⟨g, 0, none⟩) n lcap) n bs by rw [← hW2]; exact HT.out.drewN 1)
        have HF2 := Lib.hid (show Frm (FoS fb (.slice (some ⟨g, 0, none⟩) n lcap)) w W2 by rw [← hW2]; exact HF.out.drew)
        rw [hW2]
        clear hW2 HT HF HA c1 k0
        have f1 := HT2.out.fz (b * 19 + 17)
        have f2 := HT2.out.fz (b * 19 + 18)
        have d1 := HT2.out.cell hc (o := 17) (by omega)
        have d2 := HT2.out.cell hc (o := 18) (by omega)
        rw [show buKind 17 = .i64 from rfl] at d1
        rw [show buKind 18 = .i64 from rfl] at d2
        have hW1 := HT2.out.wcell hc (o := 17) (by omega) (by omega) rfl 3
        have hW2 := hW1.1.wcell hc (o := 18) (by omega) (by omega) rfl home
        rw [updT_same, updT_two] at hW2
        have HW := Lib.hid (And.intro hW2.1 (hW1.2.trans hW2.2))
        clear hW1 hW2
        go_wp2_with fail
        go_ret
        exact ⟨rfl, HW.out.1, HF2.out.trans HW.out.2⟩
      · obtain ⟨u, hue⟩ := Int.eq_ofNat_of_zero_le (show 0 ≤ bs b 0 by omega)
        have hun : u < n := by omega
        rw [hue] at c1
        have cu := HT.out.cell hun (o := 17) (by omega)
        rw [show buKind 17 = .i64 from rfl] at cu
        have hne1 : ((u : Int) == -1) = false := by first | (simp; done) | (simp; omega)
        have hne2 : ((u : Int) != -1) = true := by first | (simp; done) | (simp; omega)
        rw [hue, Int.toNat_natCast]
        by_cases h4 : bs u 17 = 4
        · rw [if_neg (fun hh => hh.2 h4)]
          rw [h4] at cu
          clear h hT hg hu hue hup h4
          go_enter Try.func31, Try.ntmps31
          go_wp2_with fail
          refine HA.out.mono ?_
          rintro r w' ⟨rfl, rfl⟩
          go_wp2_with fail
          go_region
          clear cu
          obtain ⟨W2, hW2⟩ : ∃ W2, (w.alloc (.cells #[.int .i64 2, .int .i64 3] 3)).drew = W2 := ⟨_, rfl⟩
          have HT2 := Lib.hid (show IsFo W2 base fb (.slice (some ⟨g, 0, none⟩) n lcap) n bs by rw [← hW2]; exact HT.out.drewN 1)
          have HF2 := Lib.hid (show Frm (FoS fb (.slice (some ⟨g, 0, none⟩) n lcap)) w W2 by rw [← hW2]; exact HF.out.drew)
          rw [hW2]
          clear hW2 HT HF HA c1 k0
          have f1 := HT2.out.fz (b * 19 + 17)
          have f2 := HT2.out.fz (b * 19 + 18)
          have d1 := HT2.out.cell hc (o := 17) (by omega)
          have d2 := HT2.out.cell hc (o := 18) (by omega)
          rw [show buKind 17 = .i64 from rfl] at d1
          rw [show buKind 18 = .i64 from rfl] at d2
          have hW1 := HT2.out.wcell hc (o := 17) (by omega) (by omega) rfl 3
          have hW2 := hW1.1.wcell hc (o := 18) (by omega) (by omega) rfl home
          rw [updT_same, updT_two] at hW2
          have HW := Lib.hid (And.intro hW2.1 (hW1.2.trans hW2.2))
          clear hW1 hW2
          go_wp2_with fail
          go_ret
          exact ⟨rfl, HW.out.1, HF2.out.trans HW.out.2⟩
        · have hne : (u : Int) ≠ -1 := by omega
          rw [if_pos ⟨hne, h4⟩]
          have n4 : (bs u 17 == 4) = false := by simpa using h4
          have n5 : (bs u 17 != 4) = true := by simpa using h4
          clear h hT hg hu hue hup h4 hne
          generalize bs u 17 = st at *
          go_enter Try.func31, Try.ntmps31
          go_wp2_with fail
          refine HA.out.mono ?_
          rintro r w' ⟨rfl, rfl⟩
          go_wp2_with fail
          go_region
          go_wp2_with fail
          go_ret
          exact ⟨rfl, HT.out.drewN 1, HF.out.drew⟩
    · rw [if_neg e]
      have hany : ([2, 3] : List Nat).any (fun (s : Nat) => bs b 17 == (s : Int)) = false := by
        have : ¬ bs b 17 = 2 := fun h => e (.inl h)
        have : ¬ bs b 17 = 3 := fun h => e (.inr h)
        simp [*]
      rw [hany] at HA
      simp only [Bool.false_eq_true, if_false, ite_false, atV] at HA
      clear h hT hb hg e hany
      go_enter Try.func31, Try.ntmps31
      go_wp2_with fail
      refine HA.out.mono ?_
      rintro r w' ⟨rfl, rfl⟩
      go_wp2_with fail
      go_ret
      exact ⟨rfl, HT.out, HF.out⟩
  | false =>
    rw [hb] at HA
    rw [if_neg (by simp)]
    obtain ⟨la, lcap, hlv, hg⟩ := h.lvForm
    have hat : atV lv none = .pointer none := by rw [hlv]; cases la <;> rfl
    simp [hat] at HA
    clear h hT hb hat hg
    go_enter Try.func31, Try.ntmps31
    go_wp2_with fail
    refine HA.out.mono ?_
    rintro r w' ⟨rfl, rfl⟩
    go_wp2_with fail
    go_ret
    exact ⟨rfl, HT.out, HF.out⟩
end
end Go.Proofs.Ytmbdhpibkhgkcaa
