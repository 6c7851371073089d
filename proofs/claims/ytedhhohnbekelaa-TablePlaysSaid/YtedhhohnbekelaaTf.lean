/- The document's Joined (package pinfoldref12). No condition. -/
import Derived.Test.YtedhhohnbekelaaTe
namespace Go.Proofs.Ytedhhohnbekelaa
open Go.RowKit Go.Deep

def outL (W : List (Nat × Nat)) (on : Int) : List Nat := (W.filter fun p => (p.2 : Int) == on).map (·.1)
def leftL (W : List (Nat × Nat)) (on : Int) : List (Nat × Nat) := W.filter fun p => !((p.2 : Int) == on)

theorem outL_snoc (W : List (Nat × Nat)) (p : Nat × Nat) (on : Int) : outL (W ++ [p]) on = if (p.2 : Int) = on then outL W on ++ [p.1] else outL W on := by
  unfold outL
  rw [List.filter_append, List.map_append]
  split
  · rename_i h; simp [h]
  · rename_i h; simp [h]
theorem leftL_snoc (W : List (Nat × Nat)) (p : Nat × Nat) (on : Int) : leftL (W ++ [p]) on = if (p.2 : Int) = on then leftL W on else leftL W on ++ [p] := by
  unfold leftL
  rw [List.filter_append]
  split
  · rename_i h; simp [h]
  · rename_i h; simp [h]
theorem outL_len (W : List (Nat × Nat)) (on : Int) : (outL W on).length ≤ W.length := by
  unfold outL
  rw [List.length_map]
  exact List.length_filter_le _ _
theorem leftL_len (W : List (Nat × Nat)) (on : Int) : (leftL W on).length ≤ W.length := List.length_filter_le _ _

def RJoinedTo (w : World) (rb rs : Nat) (lv : Value) (room : Nat) (e : Rb) (on : Int) (r : Ending) (w' : World) : Prop :=
  ∃ v wv', r = .returned v ∧ w'.ownsRow w.heap.size 3 1 v (outL e.W on).length (intsL (outL e.W on)) ∧ IsRef w' rb rs lv wv' room ⟨e.n, e.ts, leftL e.W on⟩ ∧ Frm (RefS rb lv) w w' ∧ (∀ g, wv'.ownBlock = some g → w.heap.size ≤ g)

/-- At the head of the loop. -/
def JoinedAt (w : World) (W : List (Nat × Nat)) (on : Int) (a b : Value) (wr : World) : Prop :=
  wr.ownsRow w.heap.size 3 1 a (outL W on).length (intsL (outL W on)) ∧ wr.ownsRow w.heap.size 82 2 b (leftL W on).length (prs (leftL W on)) ∧ (∀ g, a.ownBlock = some g → b.ownBlock ≠ some g) ∧ Below w.heap.size w wr

theorem src_new1 (W : World) (a : Value) (t : TypeId) : SrcN (W.alloc (.cells #[a] t)) (.slice (some ⟨W.heap.size, 0, none⟩) 1 1) 1 1 [a] := by
  refine ⟨_, _, rfl, rfl, .inr ⟨_, rfl, fun j u hu => ?_⟩⟩
  match j, hu with
  | 0, hu => simp at hu; subst hu; simp [Addr.add]

section
variable {w w' : World} {rb rs room : Nat} {lv wv : Value} {e : Rb}

set_option maxRecDepth 100000 in
set_option maxHeartbeats 4000000 in
theorem RJoined_any (h : IsRef w rb rs lv wv room e) (on : Int) : Calls Try.prog 30 #[.pointer (some ⟨rb, 0, none⟩), .int .i64 on] w (RJoinedTo w rb rs lv room e on) := by
  have H := Lib.hid h
  have c2 := h.c2
  have hmost := h.most
  obtain ⟨b, wcap, hwv, hwg⟩ := h.wvForm
  obtain ⟨n, ts, Ws⟩ := e
  simp only at hwv hwg c2 hmost
  subst hwv
  obtain ⟨m, hm⟩ : ∃ m, Ws.length = m := ⟨_, rfl⟩
  have HMM := Lib.hid hm
  rw [hm] at c2 hwg hmost H
  have HWG := Lib.hid hwg
  obtain ⟨i82, I82, Z82, S82, B82⟩ := info_parts Try.info82
  have I82 := Lib.hid I82
  have Z82 := Lib.hid Z82
  have S82 := Lib.hid S82
  have B82 := Lib.hid B82
  obtain ⟨i3, I3, Z3, S3, B3⟩ := info_parts Try.info3i
  have I3 := Lib.hid I3
  have Z3 := Lib.hid Z3
  have S3 := Lib.hid S3
  have B3 := Lib.hid B3
  clear hwg hm h
  go_enter Try.func30, Try.ntmps30
  go_wp2_with fail
  go_loopw [5, 6, 14] (fun a b s wr => ∃ k : Nat, k ≤ m ∧ s = .int .i64 k ∧ JoinedAt w (Ws.take k) on a b wr) (fun _ _ s _ => m - (intOf s).toNat)
  case atStart => exact ⟨0, Nat.zero_le _, rfl, World.ownsRow_nil _ _ _ _, World.ownsRow_nil _ _ _ _, fun g hg => (by cases hg), Below.refl _ _⟩
  case round =>
    obtain ⟨k, hk, rfl, hO, hL, hne, hB⟩ := hrel
    have HO := Lib.hid hO
    have HL := Lib.hid hL
    have HNE := Lib.hid hne
    have HB := Lib.hid hB
    have HT := Lib.hid (H.out.below hB)
    have hol : (outL (Ws.take k) on).length ≤ k := Nat.le_trans (outL_len _ _) (by rw [List.length_take]; omega)
    have hll : (leftL (Ws.take k) on).length ≤ k := Nat.le_trans (leftL_len _ _) (by rw [List.length_take]; omega)
    clear hO hL hne hB
    by_cases hlt : k < m
    · have hltI : (k : Int) < m := by omega
      obtain ⟨gw, rfl⟩ := HWG.out (by omega)
      obtain ⟨p, hp⟩ : ∃ p, Ws[k]? = some p := ⟨Ws[k]'(by rw [HMM.out]; exact hlt), List.getElem?_eq_getElem _⟩
      have hT := HT.out
      rw [← HMM.out] at hT
      obtain ⟨p0, p1⟩ := hT.wcell (e := ⟨n, ts, Ws⟩) hp
      have HOS := Lib.hid (outL_snoc (Ws.take k) p on)
      have HLS := Lib.hid (leftL_snoc (Ws.take k) p on)
      have HTK := Lib.hid (show Ws.take (k + 1) = Ws.take k ++ [p] by rw [List.take_add_one, hp]; rfl)
      rw [← HTK.out] at HOS HLS
      obtain ⟨pt, po⟩ := p
      simp only at p0 p1 HOS HLS
      clear hT hp HTK
      obtain ⟨ol, hole⟩ : ∃ ol, outL (Ws.take k) on = ol := ⟨_, rfl⟩
      obtain ⟨ll, hlle⟩ : ∃ ll, leftL (Ws.take k) on = ll := ⟨_, rfl⟩
      rw [hole] at HO HOS hol
      rw [hlle] at HL HLS hll
      clear hole hlle
      go_upto_region 6 with fail
      obtain ⟨W1, hW1⟩ : ∃ W1, wr.alloc (.cells #[.int .i64 pt, .int .i64 po] 82) = W1 := ⟨_, rfl⟩
      obtain ⟨A, hA⟩ : ∃ A, wr.heap.size = A := ⟨_, rfl⟩
      have HO1 := HO.out.alloc (.cells #[.int .i64 pt, .int .i64 po] 82)
      have HL1 := HL.out.alloc (.cells #[.int .i64 pt, .int .i64 po] 82)
      have HB1 := HB.out.alloc HB.out.size (.cells #[.int .i64 pt, .int .i64 po] 82)
      have q0 : W1.cell? ⟨A, 0, none⟩ = some (.int .i64 pt) := by rw [← hW1, ← hA]; simp
      have q1 : W1.cell? ⟨A, 1, none⟩ = some (.int .i64 po) := by rw [← hW1, ← hA]; simp
      rw [hW1] at HO1 HL1 HB1
      rw [hW1, hA]
      replace HO1 := Lib.hid HO1
      replace HL1 := Lib.hid HL1
      replace HB1 := Lib.hid HB1
      clear hW1 hA HO HL HB p0 p1 HT
      by_cases hx : (po : Int) = on
      · have n7 : ((po : Int) == on) = true := by simpa using hx
        rw [if_pos hx] at HOS HLS
        clear hx
        go_wp2_with (at_builtin; refine wpList_append_srcN rfl _ _ 54 rfl w.heap.size 3 i3 _ 1 8 Try.underlying54 I3.out Z3.out S3.out B3.out rfl (by decide) rfl (HO1.out.alloc _) rfl (src_new1 W1 _ 3) (by simp [Value.oneCell']) (by simp only [maxLen]; omega) (by omega) (HB1.out.alloc HB1.out.size (.cells #[.int .i64 pt] 3)).size ?_; intro v' W2 hown' hgrow hblk; have HB2 := Lib.hid ((HB1.out.alloc HB1.out.size (.cells #[.int .i64 pt] 3)).grown hgrow (HB1.out.alloc HB1.out.size (.cells #[.int .i64 pt] 3)).size (fun j hj => (HO1.out.lt j hj).1)); have HG2 := Lib.hid hgrow; have HK2 := Lib.hid hblk; have HO2 := Lib.hid hown'; clear hown' hgrow hblk)
        have hO2 := HO2.out
        rw [intsL_more] at hO2
        have hL2 := (HL1.out.alloc (.cells #[.int .i64 pt] 3)).kept HG2.out (by
          cases he : u6.ownBlock with
          | none => exact .inl rfl
          | some g => exact .inr (fun e => HNE.out g e.symm he))
        have hne2 : ∀ g, v'.ownBlock = some g → u6.ownBlock ≠ some g := fun g hg he => by
          rcases HK2.out with e | e
          · rw [e] at hg; exact HNE.out g hg he
          · rw [e] at hg
            have h1 := (HL1.out.lt g he).2
            have h2 := Option.some.inj hg
            simp at h2
            omega
        go_roundw
        case rel => exact ⟨k + 1, by omega, by go_num, by rw [HOS.out, List.length_append]; exact hO2, by rw [HLS.out]; exact hL2, hne2, HB2.out⟩
        case measure => simp [intOf]; omega
      · have n7 : ((po : Int) == on) = false := by simpa using hx
        rw [if_neg hx] at HOS HLS
        clear hx
        go_wp2_with (at_builtin; refine wpList_append_srcN rfl _ _ 48 rfl w.heap.size 82 i82 _ 2 16 Try.underlying48 I82.out Z82.out S82.out B82.out rfl (by omega) rfl (HL1.out.alloc _) rfl (src_new2 W1 _ _ 82) (by simp [Value.oneCell']) (by simp only [maxLen]; omega) (by omega) (HB1.out.alloc HB1.out.size (.cells #[.int .i64 pt, .int .i64 po] 82)).size ?_; intro v' W2 hown' hgrow hblk; have HB2 := Lib.hid ((HB1.out.alloc HB1.out.size (.cells #[.int .i64 pt, .int .i64 po] 82)).grown hgrow (HB1.out.alloc HB1.out.size (.cells #[.int .i64 pt, .int .i64 po] 82)).size (fun j hj => (HL1.out.lt j hj).1)); have HG2 := Lib.hid hgrow; have HK2 := Lib.hid hblk; have HL2 := Lib.hid hown'; clear hown' hgrow hblk)
        have hL2 := HL2.out
        rw [show prs ll ++ [Value.int .i64 pt, Value.int .i64 po] = prs (ll ++ [(pt, po)]) from prs_more ll (pt, po)] at hL2
        have hO2 := (HO1.out.alloc (.cells #[.int .i64 pt, .int .i64 po] 82)).kept HG2.out (by
          cases he : u5.ownBlock with
          | none => exact .inl rfl
          | some g => exact .inr (fun e => HNE.out g he e.symm))
        have hne2 : ∀ g, u5.ownBlock = some g → v'.ownBlock ≠ some g := fun g hg he => by
          rcases HK2.out with e | e
          · rw [e] at he; exact HNE.out g hg he
          · rw [e] at he
            have h1 := (HO1.out.lt g hg).2
            have h2 := Option.some.inj he
            simp at h2
            omega
        go_roundw
        case rel => exact ⟨k + 1, by omega, by go_num, by rw [HOS.out]; exact hO2, by rw [HLS.out, List.length_append]; exact hL2, hne2, HB2.out⟩
        case measure => simp [intOf]; omega
    · obtain rfl : k = m := by omega
      have HTK := Lib.hid (show Ws.take k = Ws by rw [← HMM.out, List.take_length])
      rw [HTK.out] at HO HL hol hll
      have hT := HT.out
      have cR := hT.c2
      have fB := hT.top.frozen 2
      obtain ⟨la, lc, hv⟩ : ∃ a c, u6 = .slice a (leftL Ws on).length c := by
        rcases HL.out.2 with ⟨h1, h2⟩ | ⟨g, cap, cur, h1, _⟩
        · exact ⟨_, _, by rw [h2]; exact h1⟩
        · exact ⟨_, _, h1⟩
      subst hv
      have HNEW := Lib.hid (H.out.newW (W' := leftL Ws on) HB.out HL.out (Nat.le_refl _) (by omega))
      clear hT hlt
      go_wp2_with fail
      go_ret
      refine ⟨_, _, rfl, own_of_heap HO.out fun j hj => Below.heap_setCell _ _ _ _ ?_, HNEW.out.1, HNEW.out.2, fun g hg => (HL.out.lt g hg).1⟩
      have h1 := (HO.out.lt j hj).1
      have h2 := H.out.top.lt
      simp only []
      omega
end
end Go.Proofs.Ytedhhohnbekelaa
