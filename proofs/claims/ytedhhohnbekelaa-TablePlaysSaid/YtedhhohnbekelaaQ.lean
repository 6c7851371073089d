/- The document's example of layer 12 is as it says. No condition. -/
import Derived.Test.YtedhhohnbekelaaO
namespace Go.Proofs.Ytedhhohnbekelaa
open Go.RowKit Go.Deep

section
variable {w w' : World} {base tb c bn bl n room : Nat} {vn vl lv : Value} {ts : Nat → Tk} {R : Nat → List Nat}

set_option maxRecDepth 100000 in
theorem TAdd_full (h : IsTab w base tb c bn bl vn vl lv n room ts R) (t : Tk) (hm : may t = true) (hn : room ≤ n) : Calls Try.prog 8 #[.pointer (some ⟨tb, 0, none⟩), tkV t] w fun r w' => r = .returned (.tuple #[.int .i64 0, .int .i64 4]) ∧ Below w.heap.size w w' := by
  have HM := Lib.hid (fun w => May_any t w)
  rw [hm] at HM
  have h1 := size30 t
  have HT := Lib.hid (h.alloc (.cells (tkArr t) 30))
  have hge : (room : Int) ≤ n := by omega
  obtain ⟨V, hV⟩ : ∃ V, V = tkArr t := ⟨_, rfl⟩
  rw [← hV] at h1 HT
  unfold tkV at HM ⊢
  rw [← hV] at HM ⊢
  have HB := Lib.hid ((Below.refl w.heap.size w).alloc (Nat.le_refl _) (.cells V 30))
  clear h hV hm
  go_enter Try.func8, Try.ntmps8
  go_wp2_with (refine wpList_load_row rfl 30 _ rfl w.heap.size rfl 30 V (0, 0) _ (heap_alloc_new _ _) Try.underlying30 rfl h1 ?_)
  refine (HM.out _).mono ?_
  rintro r w2 ⟨rfl, hb2⟩
  have HT2 := Lib.hid (HT.out.below hb2)
  have HB2 := Lib.hid (HB.out.trans (hb2.mono HB.out.size))
  have HL := Lib.hid (TLen_any HT2.out)
  have HR := Lib.hid (TRoom_any HT2.out)
  clear hb2 HM HB
  go_wp2_with fail
  refine HL.out.mono ?_
  rintro r w' ⟨rfl, rfl⟩
  go_wp2_with fail
  refine HR.out.mono ?_
  rintro r w' ⟨rfl, rfl⟩
  go_wp2_with fail
  go_ret2
  exact ⟨rfl, HB2.out⟩

theorem tab_below {B : Nat} {w0 : World} (hB : Below B w0 w) (h : IsTab w base tb c bn bl vn vl lv n room ts R) (hs : B ≤ w.heap.size) (h1 : B ≤ tb) (hF : Frm (TabS tb lv) w w') : Below B w0 w' :=
  hB.trans (hF.below hs (fun k hk hk2 => by
    have := h.low
    rcases hk2 with e | e
    · omega
    · have := (h.own.lt k e.symm).1; omega))
theorem two_below {B : Nat} {w0 : World} (hB : Below B w0 w) (hs : B ≤ w.heap.size) (h1 : B ≤ bn) (h2 : B ≤ bl) (hF : Frm (Two bn bl) w w') : Below B w0 w' :=
  hB.trans (hF.below hs (fun k hk hk2 => by rcases hk2 with e | e <;> omega))
end

def tsA : Nat → Tk := updT (updT (fun _ => tk0) 0 smT) 1 smT
def RA : Nat → List Nat := (joinD 2 2 tsA (fun _ => []) 0 1).2
theorem joinA : joinD 2 2 tsA (fun _ => []) 0 1 = (0, RA) := Prod.ext (by decide +kernel) rfl
theorem joinB : joinD 2 2 tsA RA 1 1 = (1, RA) := by unfold joinD; rw [if_neg (by simp), if_pos rfl]
theorem joinedA : joinedL 2 RA 1 = [0] := by decide +kernel

set_option maxRecDepth 100000 in
set_option maxHeartbeats 1000000 in
theorem lives_any (w : World) : Calls Try.prog 13 #[] w fun r w' => r = .returned (.bool true) ∧ Below w.heap.size w w' := by
  have h2 : roomOf 2 = 2 := by decide
  go_enter Try.func13, Try.ntmps13
  go_wp2_with fail
  refine (TNew_any 2 _ (by omega) (by omega)).mono ?_
  rw [h2]
  rintro r w1 ⟨base, tb, c, bn, bl, vn, vl, rfl, htb, hc, hbn, hbl, hT, hB⟩
  have HB1 := Lib.hid hB
  have HT1 := Lib.hid hT
  clear hT hB h2
  go_wp2_with fail
  refine (some_any _).mono ?_
  rintro r w2 ⟨rfl, hb⟩
  have HT2 := Lib.hid (HT1.out.below hb)
  have HB2 := Lib.hid (HB1.out.trans (hb.mono HB1.out.size))
  clear hb HT1 HB1
  go_wp2_with fail
  refine (TAdd_yes HT2.out smT may_some (by omega)).mono ?_
  rintro r w3 ⟨rfl, lv3, hT, hF, -⟩
  have HB3 := Lib.hid (tab_below HB2.out HT2.out HB2.out.size htb hF)
  have HT3 := Lib.hid hT
  clear hT hF HT2 HB2
  go_wp2_with fail
  refine (some_any _).mono ?_
  rintro r w4 ⟨rfl, hb⟩
  have HT4 := Lib.hid (HT3.out.below hb)
  have HB4 := Lib.hid (HB3.out.trans (hb.mono HB3.out.size))
  clear hb HT3 HB3
  go_wp2_with fail
  refine (TAdd_yes HT4.out smT may_some (by omega)).mono ?_
  rintro r w5 ⟨rfl, lv5, hT, hF, -⟩
  have HB5 := Lib.hid (tab_below HB4.out HT4.out HB4.out.size htb hF)
  have HT5 := Lib.hid (show IsTab w5 base tb c bn bl vn vl lv5 2 2 tsA (fun _ => []) from hT)
  clear hT hF HT4 HB4
  go_wp2_with fail
  refine (some_any _).mono ?_
  rintro r w6 ⟨rfl, hb⟩
  have HT6 := Lib.hid (HT5.out.below hb)
  have HB6 := Lib.hid (HB5.out.trans (hb.mono HB5.out.size))
  clear hb HT5 HB5
  go_wp2_with fail
  refine (TAdd_full HT6.out smT may_some (by omega)).mono ?_
  rintro r w7 ⟨rfl, hb⟩
  have HT7 := Lib.hid (HT6.out.below hb)
  have HB7 := Lib.hid (HB6.out.trans (hb.mono HB6.out.size))
  clear hb HT6 HB6
  have HJ := Lib.hid (TJoin_any HT7.out 0 1)
  rw [joinA] at HJ
  go_wp2_with fail
  refine HJ.out.mono ?_
  rintro r w8 ⟨rfl, hT, hF⟩
  have HT8 := Lib.hid hT
  have HB8 := Lib.hid (two_below HB7.out HB7.out.size hbn hbl hF)
  have HJ2 := Lib.hid (TJoin_any hT 1 1)
  rw [joinB] at HJ2
  clear hT hF HT7 HB7 HJ
  go_wp2_with fail
  refine HJ2.out.mono ?_
  rintro r w9 ⟨rfl, hT, hF⟩
  have HB9 := Lib.hid (two_below HB8.out HB8.out.size hbn hbl hF)
  have HK := Lib.hid (TJoined_any hT 1)
  rw [joinedA] at HK
  clear hT hF HT8 HB8 HJ2
  go_wp2_with fail
  refine HK.out.mono ?_
  rintro r w10 ⟨v, rfl, hv, hT, hF⟩
  have HB10 := Lib.hid (two_below HB9.out HB9.out.size hbn hbl hF)
  have HV := Lib.hid (SlL.own hv)
  clear hT hF HB9 HK hv
  go_wp2_with fail
  have HW := Lib.hid (HB10.out.alloc HB10.out.size (.cells #[.int .i64 0] 3))
  have HS := Lib.hid (Same_eq (l := [0]) (HV.out.of_cells (w' := w10.alloc (.cells #[.int .i64 0] 3)) (fun p hp => World.cell?_of_block (heap_alloc_old _ _ hp))) (show SlL (w10.alloc (.cells #[.int .i64 0] 3)) (.slice (some ⟨w10.heap.size, 0, none⟩) 1 1) [0] from ⟨_, 1, rfl, fun _ => ⟨_, 0, rfl, fun i x hx => by
    match i, hx with
    | 0, hx => simp at hx; subst hx; simp⟩⟩) (by simp))
  refine HS.out.mono ?_
  rintro r w11 ⟨rfl, k, rfl⟩
  go_wp2_with fail
  go_ret
  exact ⟨rfl, Below.drewN HW.out _⟩
end Go.Proofs.Ytedhhohnbekelaa
