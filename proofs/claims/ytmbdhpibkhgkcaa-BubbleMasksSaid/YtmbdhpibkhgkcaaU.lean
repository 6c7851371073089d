/- Regen (package bubble). No condition. -/
import Derived.Test.YtmbdhpibkhgkcaaT
namespace Go.Proofs.Ytmbdhpibkhgkcaa
open Go.RowKit

/-- What Regen answers: the error, those that are turned, and the bubbles then. -/
def regenD (n : Nat) (bs : Nat → Bk) (b home : Int) : Int × List Nat × (Nat → Bk) :=
  if isB n b = true then
    (if bs b.toNat 17 = 4 then
      (0, b.toNat :: ownL (innB n (updT bs b.toNat (setO (setO (bs b.toNat) 17 3) 18 home)) b.toNat) n, bsK (innB n (updT bs b.toNat (setO (setO (bs b.toNat) 17 3) 18 home)) b.toNat) trR (updT bs b.toNat (setO (setO (bs b.toNat) 17 3) 18 home)) n)
    else (5, [], bs))
  else (3, [], bs)

section
variable {w : World} {base fb n : Nat} {lv : Value} {bs : Nat → Bk}

theorem bsK_up (own : Nat → Bool) (bs : Nat → Bk) (k i : Nat) : bsK own trR bs k i 0 = bs i 0 := by
  unfold bsK
  split
  · rfl
  · rfl

set_option maxRecDepth 100000 in
set_option maxHeartbeats 4000000 in
theorem FRegen_any (h : IsFo w base fb lv n bs) (b home : Int) : Calls Try.prog 20 #[.pointer (some ⟨fb, 0, none⟩), .int .i64 b, .int .i64 home] w (BurstTo w base fb lv n (regenD n bs b home)) := by
  have hmost := h.most
  have hmf : ∀ (fn : Fn) (first cap : Array Value) (w : World), (Instr.makeFunc fn first cap).run Try.prog w = .ok (.func fn first cap) w := fun _ _ _ _ => rfl
  obtain ⟨A, hA⟩ : ∃ A, w.heap.size = A := ⟨_, rfl⟩
  have hfb : fb < A := by rw [← hA]; exact h.top.lt
  have HLV := Lib.hid (show ∀ g, lv.ownBlock = some g → base ≤ g ∧ g < A from fun g hg => by rw [← hA]; exact h.own.lt g hg)
  obtain ⟨W1, hW1⟩ : ∃ W1, (w.alloc (.cells #[.pointer (some ⟨fb, 0, none⟩)] 22)).alloc (.cells #[.int .i64 b] 3) = W1 := ⟨_, rfl⟩
  have HT1 := Lib.hid (show IsFo W1 base fb lv n bs by rw [← hW1]; exact (h.alloc _).alloc _)
  have HF1 := Lib.hid (show Frm (FoS fb lv) w W1 by rw [← hW1]; exact ((Frm.refl _ _).alloc _).alloc _)
  have hs1 : W1.heap.size = A + 2 := by rw [← hW1, ← hA]; simp
  have HCF := Lib.hid (show W1.heap[A]? = some (.cells #[.pointer (some ⟨fb, 0, none⟩)] 22 (0, 0)) by
    rw [← hW1, ← hA, heap_alloc_old _ _ (by simp)]
    exact heap_alloc_new _ _)
  have HCB := Lib.hid (show W1.heap[A + 1]? = some (.cells #[.int .i64 b] 3 (0, 0)) by
    rw [← hW1, ← hA]
    have := heap_alloc_new (w.alloc (.cells #[.pointer (some ⟨fb, 0, none⟩)] 22)) (.cells #[.int .i64 b] 3)
    rw [World.size_alloc] at this
    exact this)
  have HK := Lib.hid (fun (w' : World) (hF : Frm (FoS fb lv) W1 w') => show w'.cell? ⟨A, 0, none⟩ = some (.pointer (some ⟨fb, 0, none⟩)) ∧ w'.cell? ⟨A + 1, 0, none⟩ = some (.int .i64 b) from by
    have h1 : ∀ k, A ≤ k → ¬ FoS fb lv k := fun k hk hs => by
      rcases hs with e | e
      · omega
      · have := HLV.out k e.symm; omega
    exact ⟨cell_of ((hF.block A (by omega) (h1 A (Nat.le_refl _))).trans HCF.out) rfl, cell_of ((hF.block (A + 1) (by omega) (h1 (A + 1) (by omega))).trans HCB.out) rfl⟩)
  have HAA := Lib.hid (show w.heap.size ≤ A ∧ A + 2 ≤ W1.heap.size by omega)
  clear hs1
  obtain ⟨kF, kB⟩ := HK.out W1 (Frm.refl _ _)
  unfold regenD
  have HASK := Lib.hid (FAsk_any (HT1.out.alloc (.cells #[.int .i64 4] 3)) b (sl1 W1 4) (by simp))
  unfold askD at HASK
  cases hb : isB n b with
  | false =>
    rw [hb] at HASK
    rw [if_neg (by simp)]
    obtain ⟨la, lcap, hlv, hg⟩ := h.lvForm
    have hat : atV lv none = .pointer none := by rw [hlv]; cases la <;> rfl
    simp [hat] at HASK
    have HE := Lib.hid (HT1.out.alloc (.cells #[.int .i64 4] 3))
    have HEF := Lib.hid (HF1.out.alloc (.cells #[.int .i64 4] 3))
    clear h hb hat hg HT1 HF1 HCF HCB HK
    go_enter Try.func20, Try.ntmps20
    go_upto_region 1 with fail
    clear hA hW1
    go_wp2_with fail
    refine HASK.out.mono ?_
    rintro r w' ⟨rfl, rfl⟩
    go_wp2_with fail
    go_ret2
    exact ⟨_, rfl, World.ownsRow_nil _ _ _ _, HE.out, HEF.out⟩
  | true =>
    rw [hb] at HASK
    simp only [if_true, ite_true] at HASK
    obtain ⟨b0, b1⟩ := isB_iff.1 hb
    obtain ⟨b, rfl⟩ := Int.eq_ofNat_of_zero_le b0
    have hc : b < n := by omega
    obtain ⟨la, lcap, rfl, hg⟩ := h.lvForm
    obtain ⟨g, rfl, hgb⟩ := hg (by omega)
    rw [if_pos rfl, Int.toNat_natCast]
    rw [Int.toNat_natCast] at HASK
    by_cases e : bs b 17 = 4
    · rw [if_pos e]
      simp [e, atV] at HASK
      have HT2 := Lib.hid (HT1.out.alloc (.cells #[.int .i64 4] 3))
      have HF2 := Lib.hid (HF1.out.alloc (.cells #[.int .i64 4] 3))
      have HG2 := Lib.hid (show Frm (FoS fb (.slice (some ⟨g, 0, none⟩) n lcap)) W1 (W1.alloc (.cells #[.int .i64 4] 3)) from (Frm.refl _ _).alloc _)
      obtain ⟨bs1, hbs1⟩ : ∃ bs1, updT bs b (setO (setO (bs b) 17 3) 18 home) = bs1 := ⟨_, rfl⟩
      rw [hbs1]
      have HBS := Lib.hid hbs1
      have hll := ownL_len (innB n bs1 b) n
      obtain ⟨l, hl⟩ : ∃ l, ownL (innB n bs1 b) n = l := ⟨_, rfl⟩
      obtain ⟨bs2, hbs2⟩ : ∃ bs2, bsK (innB n bs1 b) trR bs1 n = bs2 := ⟨_, rfl⟩
      rw [hl] at hll
      rw [hl, hbs2]
      have HLL := Lib.hid hl
      have HB2 := Lib.hid hbs2
      clear h hb hg e HT1 HF1 HCF HCB hbs1 hl hbs2
      go_enter Try.func20, Try.ntmps20
      go_upto_region 1 with fail
      clear hA hW1
      go_wp2_with fail
      refine HASK.out.mono ?_
      rintro r w' ⟨rfl, rfl⟩
      obtain ⟨W2, hW2⟩ : ∃ W2, W1.alloc (.cells #[.int .i64 4] 3) = W2 := ⟨_, rfl⟩
      rw [hW2] at HT2 HF2 HG2
      rw [hW2]
      clear hW2 HASK kF kB
      have f1 := HT2.out.fz (b * 19 + 17)
      have f2 := HT2.out.fz (b * 19 + 18)
      have d1 := HT2.out.cell hc (o := 17) (by omega)
      have d2 := HT2.out.cell hc (o := 18) (by omega)
      rw [show buKind 17 = .i64 from rfl] at d1
      rw [show buKind 18 = .i64 from rfl] at d2
      have hW1 := HT2.out.wcell hc (o := 17) (by omega) (by omega) (k := IntKind.i64) rfl 3
      have hW := hW1.1.wcell hc (o := 18) (by omega) (by omega) (k := IntKind.i64) rfl home
      rw [updT_same, updT_two, HBS.out] at hW
      have HT3 := Lib.hid hW.1
      have HF3 := Lib.hid (HF2.out.trans (hW1.2.trans hW.2))
      have HG3 := Lib.hid (HG2.out.trans (hW1.2.trans hW.2))
      clear hW hW1 HT2 HF2 HG2
      go_upto_region 6 with fail
      obtain ⟨W4, hW4⟩ : ∃ W4, (W2.setCell ⟨g, b * 19 + 17, none⟩ (.int .i64 3)).setCell ⟨g, b * 19 + 18, none⟩ (.int .i64 home) = W4 := ⟨_, rfl⟩
      have HT4 := Lib.hid (show IsFo W4 base fb (.slice (some ⟨g, 0, none⟩) n lcap) n bs1 by rw [← hW4]; exact HT3.out)
      have HF4 := Lib.hid (show Frm (FoS fb (.slice (some ⟨g, 0, none⟩) n lcap)) w W4 by rw [← hW4]; exact HF3.out)
      have HG4 := Lib.hid (show Frm (FoS fb (.slice (some ⟨g, 0, none⟩) n lcap)) W1 W4 by rw [← hW4]; exact HG3.out)
      rw [hW4]
      clear hW4 HT3 HF3 HG3 f1 f2 d1 d2
      have HTURN := Lib.hid (fun (w' : World) (hT : IsFo w' base fb (.slice (some ⟨g, 0, none⟩) n lcap) n bs1) (hF : Frm (FoS fb (.slice (some ⟨g, 0, none⟩) n lcap)) W4 w') =>
        TurnR_any hT (innB n bs1 b) trR A (A + 1) (fun wr k hk hfr hft => by
          have hkk := HK.out wr (HG4.out.trans (hF.trans hfr))
          have := Inn_any hft hkk.1 hkk.2 (k := k) hk
          rw [show innB n (bsK (innB n bs1 b) trR bs1 k) b k = innB n bs1 b k by unfold innB; rw [bsK_at, insD_congr (fun i => bsK_up _ bs1 k i)]] at this
          exact this) (fun wr g' cap' k hk hlv hfr hft => by
          injection hlv with e1 e2 e3
          injection e1 with e1
          injection e1 with e1 e4 e5
          subst e1 e3
          exact InnDo_any hft hk))
      have KS := Lib.hid (fun (w' : World) (hF : Frm (FoS fb (.slice (some ⟨g, 0, none⟩) n lcap)) W4 w') => HK.out w' (HG4.out.trans hF))
      have HLT := Lib.hid (show ∀ k, A ≤ k → ¬ FoS fb (.slice (some ⟨g, 0, none⟩) n lcap) k from fun k hk hs => by
        rcases hs with e | e
        · omega
        · have := HLV.out k e.symm; omega)
      have HSZ := Lib.hid (show A ≤ W4.heap.size ∧ w.heap.size ≤ W4.heap.size by have := HF4.out.size; have := HG4.out.size; have := HAA.out; omega)
      rw [HLL.out, HB2.out] at HTURN
      obtain ⟨i3, I3, Z3, S3, B3⟩ := info_parts Try.info3i
      have I3 := Lib.hid I3
      have Z3 := Lib.hid Z3
      have S3 := Lib.hid S3
      have B3 := Lib.hid B3
      refine wp_region_held_drew (S := fun w' => w'.cell? ⟨A, 0, none⟩ = some (.pointer (some ⟨fb, 0, none⟩)) ∧ w'.cell? ⟨A + 1, 0, none⟩ = some (.int .i64 b)) (by kernel_rfl) (KS.out _ (Frm.refl _ _).drew) (fun hHeld => ?_)
      refine wpAnyH_take (i := 0) (v := ?va0) rfl (by kernel_rfl) (by kernel_rfl) (by kernel_rfl) (fun _ _ _ h => h) (Or.inl ⟨by rfl, ?hya0⟩) (by assumption) ?resta0
      case hya0 => (intro w hSw; (try dsimp only at hSw); go_simp) <;> with_reducible rfl
      simp only [Act.put, List.getElem_toArray, List.getElem_cons_succ, List.getElem_cons_zero, List.setIfInBounds_toArray, List.set_cons_succ, List.set_cons_zero]
      refine wpAnyH_take (i := 2) (v := ?va2) rfl (by kernel_rfl) (by kernel_rfl) (by kernel_rfl) (fun _ _ _ h => h) (Or.inl ⟨by rfl, ?hya2⟩) (by assumption) ?resta2
      case hya2 => (intro w hSw; (try dsimp only at hSw); go_simp) <;> with_reducible rfl
      simp only [Act.put, List.getElem_toArray, List.getElem_cons_succ, List.getElem_cons_zero, List.setIfInBounds_toArray, List.set_cons_succ, List.set_cons_zero]
      refine wpAnyH_take (i := 3) (v := ?va3) rfl (by kernel_rfl) (by kernel_rfl) (by kernel_rfl) (fun _ _ _ h => h) (Or.inl ⟨by rfl, ?hya3⟩) (by assumption) ?resta3
      case hya3 => (intro w hSw; (try dsimp only at hSw); go_simp) <;> with_reducible rfl
      simp only [Act.put, List.getElem_toArray, List.getElem_cons_succ, List.getElem_cons_zero, List.setIfInBounds_toArray, List.set_cons_succ, List.set_cons_zero]
      refine wpAnyH_ready (rs := [1, 4]) (by kernel_rfl) (by simp) ?_
      refine AllReadyH.cons rfl (fun K hK => ?_) ?_
      · go_simp
        obtain ⟨W5, hW5⟩ : ∃ W5, (W4.alloc (.cells #[.int .i64 b] 3)).drew = W5 := ⟨_, rfl⟩
        have HG5 := Lib.hid (show Frm (FoS fb (.slice (some ⟨g, 0, none⟩) n lcap)) W4 W5 by rw [← hW5]; exact ((Frm.refl _ _).alloc _).drew)
        have HT5 := Lib.hid (show IsFo W5 base fb (.slice (some ⟨g, 0, none⟩) n lcap) n bs1 by rw [← hW5]; exact (HT4.out.alloc _).drewN 1)
        have HO5 := Lib.hid (show W5.ownsRow W4.heap.size 3 1 (.slice (some ⟨W4.heap.size, 0, none⟩) 1 1) 1 (intsL [b]) by rw [← hW5]; exact World.ownsRow_lit W4.drew #[.int .i64 b] 1 (Nat.le_refl _) (by decide) rfl)
        rw [hW5]
        clear hW5
        refine hK.out _ _ (KS.out _ HG5.out) (fun hHeld => ?_)
        clear hK K
        try simp only [Act.put, List.getElem_toArray, List.getElem_cons_succ, List.getElem_cons_zero, List.setIfInBounds_toArray, List.set_cons_succ, List.set_cons_zero]
        refine wpAnyH_ready (rs := [4]) (by kernel_rfl) (by simp) ?_
        refine AllReadyH.cons rfl (fun K hK => ?_) AllReadyH.nil
        go_simp
        refine (HTURN.out W5 HT5.out HG5.out).mono ?_
        rintro e w6 ⟨v, rfl, ho6, hT6, hF6⟩
        have HG6 := Lib.hid (HG5.out.trans hF6)
        have HT6 := Lib.hid hT6
        have HS6 := Lib.hid (SrcN.own ho6)
        have HO6 := Lib.hid (show w6.ownsRow W4.heap.size 3 1 (.slice (some ⟨W4.heap.size, 0, none⟩) 1 1) 1 (intsL [b]) from own_of_heap HO5.out fun j hj => hF6.block j (HO5.out.lt j hj).2 (HLT.out j (by have := (HO5.out.lt j hj).1; have := HSZ.out; omega)))
        clear ho6 hT6 hF6
        refine hK.out _ _ (KS.out _ HG6.out) (fun hHeld => ?_)
        clear hK K
        try simp only [Act.put, List.getElem_toArray, List.getElem_cons_succ, List.getElem_cons_zero, List.setIfInBounds_toArray, List.set_cons_succ, List.set_cons_zero]
        refine wpAnyH_ready (rs := [5]) (by kernel_rfl) (by simp) ?_
        refine AllReadyH.cons rfl (fun K hK => ?_) AllReadyH.nil
        refine step_append_srcN (by rfl) _ _ 31 (by rfl) W4.heap.size 3 i3 _ 1 8 Try.underlying31 I3.out Z3.out S3.out B3.out rfl (by decide) (by rfl) HO6.out (by rfl) HS6.out (intsL_one l) (by simp only [maxLen]; omega) (by omega) HG6.out.size ?_
        intro v7 w7 hown7 hgrow7 hblk7
        have HO7 := Lib.hid (show w7.ownsRow w.heap.size 3 1 v7 (b :: l).length (intsL (b :: l)) by
          rw [List.length_cons, Nat.add_comm]
          exact own_low hown7 HSZ.out.2)
        have HG7 := Lib.hid (Frm.grown HG6.out hgrow7 (fun k hk => (HO6.out.lt k hk).1))
        have HT7 := Lib.hid (HT6.out.of_frm (S := fun j => some j = (Value.slice (some ⟨W4.heap.size, 0, none⟩) 1 1).ownBlock) ⟨hgrow7.os, hgrow7.tape, hgrow7.output, hgrow7.size, fun j hj hs => hgrow7.block j hj hs⟩ (fun hs => by have := (HO6.out.lt _ hs.symm).1; have := HSZ.out; omega) (fun g' hg' hs => by have := (HO6.out.lt g' hs.symm).1; have := HLV.out g' hg'; have := HSZ.out; omega))
        refine hK.out _ _ (KS.out _ HG7.out) (fun hHeld => ?_)
        clear hK K hown7 hgrow7 hblk7
        try simp only [Act.put, List.getElem_toArray, List.getElem_cons_succ, List.getElem_cons_zero, List.setIfInBounds_toArray, List.set_cons_succ, List.set_cons_zero]
        refine wpAnyH_take (i := 6) (v := ?vy6) rfl (by kernel_rfl) (by kernel_rfl) (by kernel_rfl) (fun _ _ _ h => h) (Or.inl ⟨by rfl, ?hyy6⟩) (by assumption) ?resty6
        case hyy6 => (intro w hSw; (try dsimp only at hSw); go_simp) <;> with_reducible rfl
        simp only [Act.put, List.getElem_toArray, List.getElem_cons_succ, List.getElem_cons_zero, List.setIfInBounds_toArray, List.set_cons_succ, List.set_cons_zero]
        refine wpAnyH_take (i := 7) (v := ?vy7) rfl (by kernel_rfl) (by kernel_rfl) (by kernel_rfl) (fun _ _ _ h => h) (Or.inl ⟨by rfl, ?hyy7⟩) (by assumption) ?resty7
        case hyy7 => (intro w hSw; (try dsimp only at hSw); go_simp) <;> with_reducible rfl
        simp only [Act.put, List.getElem_toArray, List.getElem_cons_succ, List.getElem_cons_zero, List.setIfInBounds_toArray, List.set_cons_succ, List.set_cons_zero]
        refine wpAnyH_done (by kernel_rfl) ?_ _
        go_wp2_with fail
        go_ret2
        exact ⟨v7, rfl, HO7.out, HT7.out, HF4.out.trans HG7.out⟩
      refine AllReadyH.cons rfl (fun K hK => ?_) AllReadyH.nil
      go_simp
      refine (HTURN.out W4.drew (HT4.out.drewN 1) ((Frm.refl _ _).drew)).mono ?_
      rintro e w5 ⟨v, rfl, ho5, hT5, hF5⟩
      have HG5 := Lib.hid (((Frm.refl (FoS fb (.slice (some ⟨g, 0, none⟩) n lcap)) W4).drew).trans hF5)
      have HT5 := Lib.hid hT5
      have HO5 := Lib.hid ho5
      clear ho5 hT5 hF5
      refine hK.out _ _ (KS.out _ HG5.out) (fun hHeld => ?_)
      clear hK K
      try simp only [Act.put, List.getElem_toArray, List.getElem_cons_succ, List.getElem_cons_zero, List.setIfInBounds_toArray, List.set_cons_succ, List.set_cons_zero]
      refine wpAnyH_ready (rs := [1]) (by kernel_rfl) (by simp) ?_
      refine AllReadyH.cons rfl (fun K hK => ?_) AllReadyH.nil
      go_simp
      obtain ⟨W6, hW6⟩ : ∃ W6, w5.alloc (.cells #[.int .i64 b] 3) = W6 := ⟨_, rfl⟩
      obtain ⟨X6, hX6⟩ : ∃ X6, w5.heap.size = X6 := ⟨_, rfl⟩
      have HG6 := Lib.hid (show Frm (FoS fb (.slice (some ⟨g, 0, none⟩) n lcap)) W4 W6 by rw [← hW6]; exact HG5.out.alloc _)
      have HT6 := Lib.hid (show IsFo W6 base fb (.slice (some ⟨g, 0, none⟩) n lcap) n bs2 by rw [← hW6]; exact HT5.out.alloc _)
      have HO6 := Lib.hid (show W6.ownsRow W4.heap.size 3 1 (.slice (some ⟨X6, 0, none⟩) 1 1) 1 (intsL [b]) by rw [← hW6, ← hX6]; exact World.ownsRow_lit w5 #[.int .i64 b] 1 HG5.out.size (by decide) rfl)
      have HS6 := Lib.hid (show SrcN W6 v l.length 1 (intsL l) by rw [← hW6]; exact SrcN.own (HO5.out.alloc _))
      rw [hW6, hX6]
      clear hW6 hX6
      refine hK.out _ _ (KS.out _ HG6.out) (fun hHeld => ?_)
      clear hK K
      try simp only [Act.put, List.getElem_toArray, List.getElem_cons_succ, List.getElem_cons_zero, List.setIfInBounds_toArray, List.set_cons_succ, List.set_cons_zero]
      refine wpAnyH_ready (rs := [5]) (by kernel_rfl) (by simp) ?_
      refine AllReadyH.cons rfl (fun K hK => ?_) AllReadyH.nil
      refine step_append_srcN (by rfl) _ _ 31 (by rfl) W4.heap.size 3 i3 _ 1 8 Try.underlying31 I3.out Z3.out S3.out B3.out rfl (by decide) (by rfl) HO6.out (by rfl) HS6.out (intsL_one l) (by simp only [maxLen]; omega) (by omega) HG6.out.size ?_
      intro v7 w7 hown7 hgrow7 hblk7
      have HO7 := Lib.hid (show w7.ownsRow w.heap.size 3 1 v7 (b :: l).length (intsL (b :: l)) by
        rw [List.length_cons, Nat.add_comm]
        exact own_low hown7 HSZ.out.2)
      have HG7 := Lib.hid (Frm.grown HG6.out hgrow7 (fun k hk => (HO6.out.lt k hk).1))
      have HT7 := Lib.hid (HT6.out.of_frm (S := fun j => some j = (Value.slice (some ⟨X6, 0, none⟩) 1 1).ownBlock) ⟨hgrow7.os, hgrow7.tape, hgrow7.output, hgrow7.size, fun j hj hs => hgrow7.block j hj hs⟩ (fun hs => by have := (HO6.out.lt _ hs.symm).1; have := HSZ.out; omega) (fun g' hg' hs => by have := (HO6.out.lt g' hs.symm).1; have := HLV.out g' hg'; have := HSZ.out; omega))
      refine hK.out _ _ (KS.out _ HG7.out) (fun hHeld => ?_)
      clear hK K hown7 hgrow7 hblk7
      try simp only [Act.put, List.getElem_toArray, List.getElem_cons_succ, List.getElem_cons_zero, List.setIfInBounds_toArray, List.set_cons_succ, List.set_cons_zero]
      refine wpAnyH_take (i := 6) (v := ?vz6) rfl (by kernel_rfl) (by kernel_rfl) (by kernel_rfl) (fun _ _ _ h => h) (Or.inl ⟨by rfl, ?hyz6⟩) (by assumption) ?restz6
      case hyz6 => (intro w hSw; (try dsimp only at hSw); go_simp) <;> with_reducible rfl
      simp only [Act.put, List.getElem_toArray, List.getElem_cons_succ, List.getElem_cons_zero, List.setIfInBounds_toArray, List.set_cons_succ, List.set_cons_zero]
      refine wpAnyH_take (i := 7) (v := ?vz7) rfl (by kernel_rfl) (by kernel_rfl) (by kernel_rfl) (fun _ _ _ h => h) (Or.inl ⟨by rfl, ?hyz7⟩) (by assumption) ?restz7
      case hyz7 => (intro w hSw; (try dsimp only at hSw); go_simp) <;> with_reducible rfl
      simp only [Act.put, List.getElem_toArray, List.getElem_cons_succ, List.getElem_cons_zero, List.setIfInBounds_toArray, List.set_cons_succ, List.set_cons_zero]
      refine wpAnyH_done (by kernel_rfl) ?_ _
      go_wp2_with fail
      go_ret2
      exact ⟨v7, rfl, HO7.out, HT7.out, HF4.out.trans HG7.out⟩
    · rw [if_neg e]
      simp [e, atV] at HASK
      have HE := Lib.hid (HT1.out.alloc (.cells #[.int .i64 4] 3))
      have HEF := Lib.hid (HF1.out.alloc (.cells #[.int .i64 4] 3))
      clear h hb hg e HT1 HF1 HCF HCB HK
      go_enter Try.func20, Try.ntmps20
      go_upto_region 1 with fail
      clear hA hW1
      go_wp2_with fail
      refine HASK.out.mono ?_
      rintro r w' ⟨rfl, rfl⟩
      go_wp2_with fail
      go_ret2
      exact ⟨_, rfl, World.ownsRow_nil _ _ _ _, HE.out, HEF.out⟩
end
end Go.Proofs.Ytmbdhpibkhgkcaa
