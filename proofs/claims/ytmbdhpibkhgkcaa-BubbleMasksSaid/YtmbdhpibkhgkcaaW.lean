/- The document's Mask (package pinfoldref13). No condition. -/
import Derived.Test.YtmbdhpibkhgkcaaV
namespace Go.Proofs.Ytmbdhpibkhgkcaa
open Go.RowKit

def onesK (k : Nat) : Ws := fun o => if o < k then 18446744073709551615 else 0
theorem onesK_next (k : Nat) : setw (onesK k) k 18446744073709551615 = onesK (k + 1) := by
  funext o
  unfold setw onesK
  by_cases e : o = k
  · subst e; rw [if_pos rfl, if_pos (by omega)]
  · rw [if_neg e]
    by_cases h : o < k
    · rw [if_pos h, if_pos (by omega)]
    · rw [if_neg h, if_neg (by omega)]
theorem onesK_all : wsArr (onesK 16) = wsArr wsAll := wsArr_congr fun o ho => by
  unfold onesK wsAll
  rw [if_pos ho]
  decide

def maskL (bs : Nat → Bk) (l : List Nat) : Ws := l.foldl (fun s (x : Nat) => andW s (maskOf (bs x))) wsAll
theorem maskL_snoc (bs : Nat → Bk) (l : List Nat) (x : Nat) : maskL bs (l ++ [x]) = andW (maskL bs l) (maskOf (bs x)) := by simp [maskL]
theorem andK_all (s t : Ws) : wsArr (andK s t 16) = wsArr (andW s t) := wsArr_congr fun o ho => by unfold andK andW; rw [if_pos ho]
theorem andK_none (s t : Ws) : andK s t 0 = s := by funext o; simp [andK]

section
variable {w w' : World} {n : Nat} {v : Value} {bs : Nat → Bk}

set_option maxRecDepth 100000 in
set_option maxHeartbeats 4000000 in
theorem RMask_any (h : SlB w v n bs) (hu : Ups n bs) (hn : n ≤ 32) (b : Int) : Calls Try.prog 38 #[v, .int .i64 b] w fun r w' => r = .returned (wsV (maskL bs (wayD n bs b))) ∧ Below w.heap.size w w' := by
  have hz := zero29
  have HWAY := Lib.hid (fun (w' : World) (hB : Below w.heap.size w w') => RWay_any (h.below hB) hu hn b)
  have HLT := Lib.hid (show ∀ x ∈ wayD n bs b, x < n from wayI_lt _ _)
  have hll : (wayD n bs b).length ≤ 40 := by
    by_cases hb : isB n b = true
    · have := wayI_len (n := n) (bs := bs) (b + 1).toNat b
      have := isB_iff.1 hb
      unfold wayD
      omega
    · unfold wayD
      rw [wayI_no (by cases hh : isB n b; rfl; exact absurd hh hb)]
      simp
  generalize wayD n bs b = l at *
  obtain ⟨W1, hW1⟩ : ∃ W1, (w.alloc (.cells (wsArr ws0) 29)).alloc (.cells (wsArr ws0) 29) = W1 := ⟨_, rfl⟩
  obtain ⟨A, hA⟩ : ∃ A, w.heap.size = A := ⟨_, rfl⟩
  have HR1 := Lib.hid (show WsAt W1 A ws0 by
    unfold WsAt
    rw [← hW1, ← hA, heap_alloc_old _ _ (by simp)]
    exact heap_alloc_new _ _)
  have HS1 := Lib.hid (show WsAt W1 (A + 1) (onesK 0) by
    unfold WsAt
    rw [← hW1, ← hA]
    have := heap_alloc_new (w.alloc (.cells (wsArr ws0) 29)) (.cells (wsArr ws0) 29)
    rw [World.size_alloc] at this
    exact this)
  have HB1 := Lib.hid (show Below w.heap.size w W1 by
    rw [← hW1]
    exact ((Below.refl w.heap.size w).alloc (Nat.le_refl _) _).alloc (by simp) _)
  have HAA := Lib.hid (show w.heap.size ≤ A ∧ A ≤ w.heap.size by omega)
  unfold wsV
  obtain ⟨Z, hZ⟩ : ∃ Z, Z = wsArr ws0 := ⟨_, rfl⟩
  simp only [← hZ] at hz
  rw [← hZ] at hW1
  have HZ := Lib.hid hZ
  obtain ⟨a, cap, rfl, hg⟩ := h
  have HG := Lib.hid hg
  have hne : A ≠ A + 1 := by omega
  clear hZ hu hg
  go_enter Try.func38, Try.ntmps38
  go_upto_region 2 with fail
  clear hW1 hA hz
  go_wp2_with fail
  go_loopw [10] (fun x wr => ∃ k : Nat, k ≤ 16 ∧ x = .int .i64 k ∧ WsAt wr A ws0 ∧ WsAt wr (A + 1) (onesK k) ∧ Below w.heap.size w wr) (fun x _ => 16 - (intOf x).toNat)
  case atStart => exact ⟨0, Nat.zero_le _, rfl, HR1.out, HS1.out, HB1.out⟩
  case round =>
    clear HR1 HS1 HB1
    obtain ⟨k, hk, rfl, hR, hS, hB⟩ := hrel
    have HB := Lib.hid hB
    have HR := Lib.hid hR
    have HS := Lib.hid hS
    clear hR hS hB
    by_cases hlt : k < 16
    · have hltI : (k : Int) < 16 := by omega
      have c1 := HS.out.cell hlt
      have f1 := HS.out.frozen k
      have HX := Lib.hid (onesK_next k)
      go_wp2_with fail
      go_roundw
      case rel =>
        refine ⟨k + 1, by omega, by go_num, ?_, ?_, ?_⟩
        · exact (heap_setCell_other wr ⟨A + 1, k, none⟩ A _ hne).trans HR.out
        · rw [← HX.out]; exact HS.out.set k _
        · exact HB.out.setCell (p := ⟨A + 1, k, none⟩) (Nat.le_trans HAA.out.1 (Nat.le_succ _)) _
      case measure => simp [intOf]; omega
    · obtain rfl : k = 16 := by omega
      clear hlt
      go_wp2_with fail
      refine (HWAY.out wr HB.out).mono ?_
      rintro r w2 ⟨u, rfl, ho, hb⟩
      have HB2 := Lib.hid (HB.out.trans (hb.mono HB.out.size))
      have HR2 := Lib.hid (HR.out.below hb)
      have HS2 := Lib.hid (show WsAt w2 (A + 1) (maskL bs []) by
        have := HS.out.below hb
        unfold WsAt at this ⊢
        rw [onesK_all] at this
        exact this)
      obtain ⟨ua, ucap, hu, hux⟩ := SlL.own ho
      subst hu
      have HX := Lib.hid hux
      have HAW := Lib.hid (show ∀ p : Addr, p.block < w2.heap.size → p.block ≠ A + 1 → ∀ (i : Nat) (x : Int), (w2.setCell ⟨A + 1, i, none⟩ (.int .u64 x)).cell? p = w2.cell? p from fun p hp hpn i x => World.cell?_of_block (heap_setCell_other w2 ⟨A + 1, i, none⟩ p.block _ hpn))
      have HUB := Lib.hid (show ∀ g off, ua = some ⟨g, off, none⟩ → g ≠ A + 1 ∨ l.length = 0 from fun g off e => by
        by_cases h0 : l.length = 0
        · exact .inr h0
        · left
          obtain ⟨g', off', e', _⟩ := hux (by omega)
          rw [e] at e'
          injection e' with e'
          injection e' with e1 e2 e3
          rcases ho.2 with ⟨h1, h2⟩ | ⟨g2, cap2, cur2, h1, h2, _⟩
          · simp at h1; rw [h1.1] at e; cases e
          · injection h1 with h1 _ _
            rw [e] at h1
            injection h1 with h1
            injection h1 with h1 _ _
            have := HR.out.lt
            have hs := HS.out.lt
            omega)
      obtain ⟨m, hm⟩ : ∃ m, l.length = m := ⟨_, rfl⟩
      have HM := Lib.hid hm
      rw [hm] at HX hll HUB
      rw [hm]
      clear ho hb hux hm HB HR HS HWAY
      go_wp2_with fail
      go_loopw [20] (fun x wr => ∃ j : Nat, j ≤ m ∧ x = .int .i64 j ∧ WsAt wr A ws0 ∧ WsAt wr (A + 1) (maskL bs (l.take j)) ∧ Below w.heap.size w wr ∧ ∀ p : Addr, p.block < w2.heap.size → p.block ≠ A + 1 → wr.cell? p = w2.cell? p) (fun x _ => m - (intOf x).toNat)
      case atStart => exact ⟨0, Nat.zero_le _, rfl, HR2.out, HS2.out, HB2.out, fun _ _ _ => rfl⟩
      case round =>
        obtain ⟨j, hj, rfl, hR, hS, hB, hC⟩ := hrel
        have HB := Lib.hid hB
        have HR := Lib.hid hR
        have HS := Lib.hid hS
        have HC := Lib.hid hC
        clear hR hS hB hC
        by_cases hlt : j < m
        · have hltI : (j : Int) < m := by omega
          obtain ⟨g, off, rfl, hx⟩ := HX.out (by omega)
          obtain ⟨y, hy⟩ : ∃ y, l[j]? = some y := ⟨l[j]'(by rw [HM.out]; exact hlt), List.getElem?_eq_getElem _⟩
          have hcx := hx j y hy
          have hgne : g ≠ A + 1 := (HUB.out g off rfl).resolve_right (by omega)
          have cx := (HC.out ⟨g, off + j, none⟩ (World.block_lt_of_cell? _ _ hcx) hgne).trans hcx
          have hyn := HLT.out y (List.mem_of_getElem? hy)
          obtain ⟨ga, rfl, hgx⟩ := HG.out (by omega)
          have HGX := Lib.hid hgx
          have hgal : ga < w.heap.size := World.block_lt_of_cell? _ _ (hgx y 1 hyn (by omega))
          have HTK := Lib.hid (show maskL bs (l.take (j + 1)) = andW (maskL bs (l.take j)) (maskOf (bs y)) by rw [List.take_add_one, hy]; exact maskL_snoc _ _ _)
          generalize maskL bs (l.take j) = s at *
          have HS0 := Lib.hid (show WsAt wr (A + 1) (andK s (maskOf (bs y)) 0) by rw [andK_none]; exact HS.out)
          clear hcx hx hy hgx
          go_wp2_with fail
          go_loopw [24] (fun x wx => ∃ k : Nat, k ≤ 16 ∧ x = .int .i64 k ∧ WsAt wx A ws0 ∧ WsAt wx (A + 1) (andK s (maskOf (bs y)) k) ∧ Below w.heap.size w wx ∧ ∀ p : Addr, p.block < w2.heap.size → p.block ≠ A + 1 → wx.cell? p = w2.cell? p) (fun x _ => 16 - (intOf x).toNat)
          case atStart => exact ⟨0, Nat.zero_le _, rfl, HR.out, HS0.out, HB.out, HC.out⟩
          case round =>
            clear HR HS HB HC HS0 cx
            obtain ⟨k, hk, rfl, hR, hS, hB, hC⟩ := hrel
            have HB := Lib.hid hB
            have HR := Lib.hid hR
            have HS := Lib.hid hS
            have HC := Lib.hid hC
            clear hR hS hB hC
            by_cases hk16 : k < 16
            · have hkI : (k : Int) < 16 := by omega
              have c1 := HS.out.cell hk16
              rw [show andK s (maskOf (bs y)) k k = s k by unfold andK; rw [if_neg (by omega)]] at c1
              have f1 := HS.out.frozen k
              have c2 := (HB.out.cell (p := ⟨ga, y * 19 + (k + 1), none⟩) hgal).trans (HGX.out y (k + 1) hyn (by omega))
              rw [show y * 19 + (k + 1) = y * 19 + 1 + k by omega, show buKind (k + 1) = .u64 by unfold buKind; rw [if_pos (by omega)], show bs y (k + 1) = maskOf (bs y) k from rfl] at c2
              have HNX := Lib.hid (andK_next s (maskOf (bs y)) k)
              generalize maskOf (bs y) = mm at *
              go_wp2_with fail
              go_region
              go_wp2_with fail
              go_roundw
              case rel =>
                refine ⟨k + 1, by omega, by go_num, ?_, ?_, ?_, ?_⟩
                · exact (heap_setCell_other _ ⟨A + 1, k, none⟩ A _ hne).trans HR.out
                · rw [← HNX.out]; exact HS.out.set k _
                · exact (HB.out.setCell (p := ⟨A + 1, k, none⟩) (Nat.le_trans HAA.out.1 (Nat.le_succ _)) _).drew
                · intro p hp hpn
                  exact (World.cell?_of_block (heap_setCell_other _ ⟨A + 1, k, none⟩ p.block _ hpn)).trans (HC.out p hp hpn)
              case measure => simp [intOf]; omega
            · obtain rfl : k = 16 := by omega
              have HS16 := Lib.hid (show WsAt _ (A + 1) (andW s (maskOf (bs y))) by
                have := HS.out
                unfold WsAt at this ⊢
                rw [andK_all] at this
                exact this)
              clear hk16
              go_wp2_with fail
              go_roundw
              case rel => exact ⟨j + 1, by omega, by go_num, HR.out, by rw [HTK.out]; exact HS16.out, HB.out, HC.out⟩
              case measure => simp [intOf]; omega
        · obtain rfl : j = m := by omega
          have HTK := Lib.hid (show l.take j = l by rw [← HM.out, List.take_length])
          have HS3 := HS.out
          rw [HTK.out] at HS3
          have HA := Lib.hid (show wr.heap[A + 1]? = some (.cells (wsArr (maskL bs l)) 29 (0, 0)) from HS3)
          have HC2 := Lib.hid (show wr.heap[A]? = some (.cells Z 29 (0, 0)) by rw [HZ.out]; exact HR.out)
          have s1 := size29 (maskL bs l)
          have s2 := one29 (maskL bs l)
          have z3 : Z.size = (wsArr (maskL bs l)).size := by rw [HZ.out, wsArr_size, wsArr_size]
          obtain ⟨U, hU⟩ : ∃ U, wsArr (maskL bs l) = U := ⟨_, rfl⟩
          rw [hU] at HA s1 s2 z3
          have HU := Lib.hid hU
          clear hU hlt HS3
          go_wp2_with (first | (refine wpList_load_row rfl 29 _ rfl (A + 1) rfl 29 U (0, 0) _ HA.out Try.underlying29 rfl s1 ?_) | (refine wpList_store_row rfl 29 _ _ rfl A U rfl rfl 29 Z HC2.out s1 z3 s2 ?_))
          exact bodyPost_ret (results_c1 rfl _ _ A 29 U _ rfl (setRow_heap wr A Z U 29 (0, 0) HC2.out) Try.underlying29 rfl s1) rfl ⟨by rw [HU.out], below_setRow HB.out HAA.out.1 _⟩
end
end Go.Proofs.Ytmbdhpibkhgkcaa
