/- The document's example (lives). No condition. -/
import Derived.Test.YtmbdhpibkhgkcaaP
namespace Go.Proofs.Ytmbdhpibkhgkcaa
open Go.RowKit

section
variable {w w' : World} {base fb n : Nat} {lv : Value} {bs : Nat → Bk}
theorem fo_below {B : Nat} {w0 : World} (hB : Below B w0 w) (h : IsFo w base fb lv n bs) (hs : B ≤ w.heap.size) (h1 : B ≤ fb) (hF : Frm (FoS fb lv) w w') : Below B w0 w' :=
  hB.trans (hF.below hs (fun k hk hk2 => by
    have := h.low
    rcases hk2 with e | e
    · omega
    · have := (h.own.lt k e.symm).1; omega))
end

theorem FBurst_nil (b : Int) (w : World) : Calls Try.prog 10 #[.pointer none, .int .i64 b] w fun r w' => r = .returned (.tuple #[.slice none 0 0, .int .i64 3]) ∧ Below w.heap.size w w' := by
  have HB := Lib.hid (show Below w.heap.size w (((w.alloc (.cells #[.pointer none] 22)).alloc (.cells #[.int .i64 b] 3)).alloc (.cells #[.int .i64 3] 3)) from (((Below.refl w.heap.size w).alloc (Nat.le_refl _) _).alloc (by simp) _).alloc (by simp; omega) _)
  go_enter Try.func10, Try.ntmps10
  go_wp2_with fail
  refine (FAsk_nil _ _ _).mono ?_
  rintro r w' ⟨rfl, rfl⟩
  go_wp2_with fail
  go_ret2
  exact ⟨rfl, HB.out⟩

def m01 : Ws := mkW [0, 1]
def m12 : Ws := mkW [1, 2]
def bsA : Nat → Bk := updT (fun _ => bk0) 0 (newB (-1) m01)
def bsB : Nat → Bk := updT bsA 1 (newB 0 m12)
def bsC : Nat → Bk := (sealD 2 bsB 1).2
def bsD : Nat → Bk := (sealD 2 bsC 0).2
def bsE : Nat → Bk := (placeD 2 bsD 0 3).2
def bsF : Nat → Bk := (burstD 2 bsE 0).2.2
theorem mk1_ne : eqW m01 ws0 = false := by decide +kernel
theorem mk2_ne : eqW m12 ws0 = false := by decide +kernel
theorem makeA : makeD 0 (fun _ => bk0) (-1) m01 = (0, 0, 1, bsA) := by
  unfold makeD
  rw [if_neg (by simp), if_neg (by rw [mk1_ne]; simp), if_neg (by simp), if_neg (by omega)]
  rfl
theorem bsA_st : bsA 0 17 = 1 := by decide +kernel
theorem makeB : makeD 1 bsA 0 m12 = (1, 0, 2, bsB) := by
  unfold makeD
  rw [if_neg (by simp), if_neg (by rw [mk2_ne]; simp), if_neg (fun h => h.2 bsA_st), if_neg (by omega)]
  rfl
theorem maskB : eqW (maskD 2 bsB 1) (mkW [1]) = true := by decide +kernel
theorem sealC : sealD 2 bsB 1 = (0, bsC) := Prod.ext (by decide +kernel) rfl
theorem sealE : sealD 2 bsC 0 = (0, bsD) := Prod.ext (by decide +kernel) rfl
theorem placeE : placeD 2 bsD 0 3 = (0, bsE) := Prod.ext (by decide +kernel) rfl
theorem burstF : burstD 2 bsE 0 = (0, [0, 1], bsF) := Prod.ext (by decide +kernel) (Prod.ext (by decide +kernel) rfl)
theorem freeF : freeD 2 bsF 0 = true := by decide +kernel
theorem freeG : freeD 2 bsF 1 = false := by decide +kernel

set_option maxRecDepth 100000 in
set_option maxHeartbeats 2000000 in
theorem lives_any (w : World) : Calls Try.prog 15 #[] w fun r w' => r = .returned (.bool true) ∧ Below w.heap.size w w' := by
  have HMK := Lib.hid (fun (l : List Nat) (v : Value) (w : World) (hv : SlL w v l) (hl : ∀ x ∈ l, x < 1024) (hlen : l.length ≤ 2000) => Make01_any hv hl hlen)
  have HNE := fun w => neq_ws (maskD 2 bsB 1) (mkW [1]) w
  rw [maskB] at HNE
  unfold wsV at HNE
  go_enter Try.func15, Try.ntmps15
  go_wp2_with fail
  refine (FNew_any _).mono ?_
  rintro r w1 ⟨base, fb, rfl, hfb, hT, hB⟩
  have HT1 := Lib.hid (hT.alloc (.cells #[.int .i64 0, .int .i64 1] 3))
  have HB1 := Lib.hid (hB.alloc hB.size (.cells #[.int .i64 0, .int .i64 1] 3))
  clear hT hB
  go_wp2_with fail
  refine (HMK.out [0, 1] _ _ (sl2 w1 0 1) (by simp) (by simp)).mono ?_
  rintro r w2 ⟨rfl, hb⟩
  have HT2 := Lib.hid (HT1.out.below hb)
  have HB2 := Lib.hid (HB1.out.trans (hb.mono HB1.out.size))
  clear hb HT1 HB1
  have HM2 := Lib.hid (FMake_any HT2.out (-1) m01)
  rw [makeA] at HM2
  go_wp2_with fail
  refine HM2.out.mono ?_
  rintro r w3 ⟨rfl, lv3, hT, hF, -⟩
  have HB3 := Lib.hid ((fo_below HB2.out HT2.out HB2.out.size hfb hF).alloc (Nat.le_trans HB2.out.size hF.size) (.cells #[.int .i64 1, .int .i64 2] 3))
  have HT3 := Lib.hid (hT.alloc (.cells #[.int .i64 1, .int .i64 2] 3))
  clear hT hF HT2 HB2 HM2
  go_wp2_with fail
  refine (HMK.out [1, 2] _ _ (sl2 w3 1 2) (by simp) (by simp)).mono ?_
  rintro r w4 ⟨rfl, hb⟩
  have HT4 := Lib.hid (HT3.out.below hb)
  have HB4 := Lib.hid (HB3.out.trans (hb.mono HB3.out.size))
  clear hb HT3 HB3
  have HM4 := Lib.hid (FMake_any HT4.out 0 m12)
  rw [makeB] at HM4
  go_wp2_with fail
  refine HM4.out.mono ?_
  rintro r w5 ⟨rfl, lv5, hT, hF, -⟩
  have HB5 := Lib.hid (fo_below HB4.out HT4.out HB4.out.size hfb hF)
  have HT5 := Lib.hid (show IsFo w5 base fb lv5 2 bsB from hT)
  clear hT hF HT4 HB4 HM4
  go_wp2_with fail
  refine (FMask_any HT5.out 1).mono ?_
  rintro r w6 ⟨rfl, hb⟩
  have HT6 := Lib.hid ((HT5.out.below hb).alloc (.cells #[.int .i64 1] 3))
  have HB6 := Lib.hid ((HB5.out.trans (hb.mono HB5.out.size)).alloc (Nat.le_trans HB5.out.size hb.size) (.cells #[.int .i64 1] 3))
  clear hb HT5 HB5
  go_wp2_with fail
  refine (HMK.out [1] _ _ (sl1 w6 1) (by simp) (by simp)).mono ?_
  rintro r w7 ⟨rfl, hb⟩
  have HT7 := Lib.hid (HT6.out.below hb)
  have HB7 := Lib.hid (HB6.out.trans (hb.mono HB6.out.size))
  clear hb HT6 HB6
  have HS7 := Lib.hid (FSeal_any HT7.out 1)
  rw [sealC] at HS7
  unfold wsV
  go_wp2_with fail
  refine HS7.out.mono ?_
  rintro r w8 ⟨rfl, hT, hF⟩
  have HB8 := Lib.hid (fo_below HB7.out HT7.out HB7.out.size hfb hF)
  have HT8 := Lib.hid hT
  clear hT hF HT7 HB7 HS7
  have HS8 := Lib.hid (FSeal_any HT8.out 0)
  rw [sealE] at HS8
  go_wp2_with fail
  refine HS8.out.mono ?_
  rintro r w9 ⟨rfl, hT, hF⟩
  have HB9 := Lib.hid (fo_below HB8.out HT8.out HB8.out.size hfb hF)
  have HT9 := Lib.hid hT
  clear hT hF HT8 HB8 HS8
  have HP9 := Lib.hid (FPlace_any HT9.out 0 3)
  rw [placeE] at HP9
  go_wp2_with fail
  refine HP9.out.mono ?_
  rintro r w10 ⟨rfl, hT, hF⟩
  have HB10 := Lib.hid (fo_below HB9.out HT9.out HB9.out.size hfb hF)
  have HT10 := Lib.hid hT
  clear hT hF HT9 HB9 HP9
  have HBU := Lib.hid (FBurst_any HT10.out 0)
  rw [burstF] at HBU
  go_wp2_with fail
  refine HBU.out.mono ?_
  rintro r w11 ⟨v, rfl, ho, hT, hF⟩
  have HB11 := Lib.hid ((fo_below HB10.out HT10.out HB10.out.size hfb hF).alloc (Nat.le_trans HB10.out.size hF.size) (.cells #[.int .i64 0, .int .i64 1] 3))
  have HT11 := Lib.hid (hT.alloc (.cells #[.int .i64 0, .int .i64 1] 3))
  have HV11 := Lib.hid (SlL.own (ho.alloc (.cells #[.int .i64 0, .int .i64 1] 3)))
  clear hT hF ho HT10 HB10 HBU
  have HF1 := Lib.hid (fun (w' : World) (hh : IsFo w' base fb lv5 2 bsF) => FFree_any hh 0)
  have HF2 := Lib.hid (fun (w' : World) (hh : IsFo w' base fb lv5 2 bsF) => FFree_any hh 1)
  rw [freeF] at HF1
  rw [freeG] at HF2
  go_wp2_with fail
  refine (Same_eq HV11.out (sl2 w11 0 1) (by simp)).mono ?_
  rintro r w12 ⟨rfl, k, rfl⟩
  go_wp2_with fail
  refine (HF1.out _ (HT11.out.drewN k)).mono ?_
  rintro r w' ⟨rfl, rfl⟩
  go_wp2_with fail
  refine (HF2.out _ (HT11.out.drewN k)).mono ?_
  rintro r w' ⟨rfl, rfl⟩
  go_wp2_with fail
  go_ret
  exact ⟨rfl, Go.Proofs.Ytmbdhpibkhgkcaa.Below.drewN HB11.out k⟩
end Go.Proofs.Ytmbdhpibkhgkcaa
