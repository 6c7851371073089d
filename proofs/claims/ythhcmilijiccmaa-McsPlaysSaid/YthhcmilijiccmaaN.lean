/- A part of the proof of McsPlays: the walk of the law. No condition. -/
import Derived.Test.YthhcmilijiccmaaK
import Derived.Test.YthhcmilijiccmaaL
import Derived.Deep.CutBlock
import Derived.Test.YthhcmilijiccmaaO
namespace Go.Proofs.Ythhcmilijiccmaa
open Go.RowKit

theorem RBegin_any (B C : Nat → Nat) (L : Lock) (A : Nat → Int) (who f : Int) (w : World) (h : IsRef w B C L A) (ha : AtOk L A) (ok : L.Ok) (hf : f = 0 ∨ f = 2) :
    Calls Try.prog 13 #[.pointer (some ⟨B 0, 0, none⟩), .int .i64 who, .int .i64 f] w
      fun r w' => r = .returned (.int .i64 (L.call who f).1) ∧ (∃ A', IsRef w' B C (L.call who f).2 A' ∧ AtOk (L.call who f).2 A') ∧ Frm (InRef B) w w' := by
  cases hh : L.has who with
  | false =>
    refine (Begin_no B C L A who f w h ok hh).mono ?_
    rintro r w' ⟨rfl, rfl⟩
    simp only [Lock.call, hh]
    exact ⟨rfl, ⟨A, h, ha⟩, Frm.refl _ _⟩
  | true =>
    obtain ⟨h0, h1⟩ := Lock.has_iff.1 hh
    obtain ⟨i, rfl⟩ := Int.eq_ofNat_of_zero_le h0
    by_cases hs : (L.ps i).state = f
    · refine (Begin_yes B C L A i f w h ok (by omega) hs (by omega)).mono ?_
      rintro r w' ⟨rfl, h2, h3⟩
      simp only [Lock.call, hh, Int.toNat_natCast, hs, if_true]
      exact ⟨trivial, ⟨_, h2, ha.set i 1 _ (by omega) (fun j hj => by simp [Lock.put, Lock.setP, hj]) (by simp [Lock.put, Lock.setP_same])⟩, h3⟩
    · refine (Begin_other B C L A i f w h ok (by omega) hs).mono ?_
      rintro r w' ⟨rfl, rfl⟩
      simp only [Lock.call, hh, Int.toNat_natCast, if_neg hs, if_true]
      exact ⟨trivial, ⟨A, h, ha⟩, Frm.refl _ _⟩

/-- The first party, below n, that is inside or giving; -1: there is none. -/
def firstVal (L : Lock) (n : Nat) : Int := match firstIn L n with
  | some i => i
  | none => -1

theorem firstVal_succ (L : Lock) (n : Nat) : firstVal L (n + 1) = if 2 ≤ (L.ps n).state ∧ firstVal L n < 0 then (n : Int) else firstVal L n := by
  unfold firstVal
  simp only [firstIn]
  cases h : firstIn L n with
  | some i =>
    have : ¬ ((i : Int) < 0) := by omega
    simp [this]
  | none =>
    by_cases h2 : 2 ≤ (L.ps n).state <;> simp [h2]

theorem holder_first (L : Lock) : (holder L).2 = decide (0 ≤ firstVal L L.n) ∧ (holder L).1 = max (firstVal L L.n) 0 := by
  unfold holder firstVal
  cases firstIn L L.n with
  | some i => simp
  | none => exact ⟨by simp, by simp only []; omega⟩

set_option maxRecDepth 100000 in
set_option maxHeartbeats 4000000 in
theorem plays_any (n : Int) (a : Option Addr) (len cap : Nat) (e : Nat → Opn) (w : World) (h0 : -9223372036854775808 ≤ n) (h1 : n ≤ 9223372036854775807) (ha : SlOk a len cap) (hI : RawO w a len e) :
    Calls Try.prog 4 #[.int .i64 n, .slice a len cap] w fun r w' => r = .returned (.bool true) ∧ Below w.heap.size w w' := by
  have HI := Lib.hid hI
  clear hI
  go_enter Try.func4, Try.ntmps4
  go_upto_region 1 with fail
  go_cut [1] (fun u1 wr => ∃ (m cap' : Nat), u1 = .slice a m cap' ∧ m ≤ len ∧ m ≤ 200 ∧ w = wr)
  case first =>
    rcases ha with ⟨rfl, rfl, rfl⟩ | ⟨x, rfl, hcap, hm⟩
    · go_wp2_with fail
      go_meet
      case rel => exact ⟨0, _, rfl, by omega, by omega, rfl⟩
    · by_cases h2 : (200 : Int) < len
      all_goals
        go_wp2_with fail
        all_goals
          go_meet
          case rel => exact ⟨_, _, rfl, by omega, by omega, rfl⟩
  case rest =>
    obtain ⟨m, cap', rfl, hm, hm2, rfl⟩ := hcut
    have HO := Lib.hid (HI.out.take hm)
    clear HI ha
    go_wp2_with fail
    refine (New_any n _ h0 h1).mono ?_
    rintro r w1 ⟨b, rfl, hb, hL, hB1⟩
    have hs1 := hB1.size
    have HL := Lib.hid hL
    have HB1 := Lib.hid hB1
    clear hL hB1
    go_wp2_with fail
    refine (RNew_any n _ h0 h1).mono ?_
    rintro r w2 ⟨B, C, rfl, hR, hbs, hB2⟩
    have HR := Lib.hid hR
    have HL2 := Lib.hid (Blk.of_heap HL.out (hB2.block b (Blk.lt HL.out)))
    have HBB := Lib.hid (show ∀ k, k ≤ 5 → w.heap.size ≤ B k ∧ b ≠ B k from fun k hk => ⟨by have := (hbs k hk).1; omega, by have := (hbs k hk).1; have := Blk.lt HL.out; omega⟩)
    have HB2 := Lib.hid (HB1.out.trans (hB2.mono hs1))
    clear hR hbs hB2 HL HB1
    go_wp2_with fail
    go_loopw [31] (fun i wr => ∃ (k : Nat) (L : Lock) (A : Nat → Int), k ≤ m ∧ i = .int .i64 k ∧ IsLock wr b L ∧ L.Ok ∧ IsRef wr B C L A ∧ AtOk L A ∧ Below w.heap.size w wr) (fun i _ => m - (intOf i).toNat)
    case atStart => exact ⟨0, _, _, Nat.zero_le _, rfl, HL2.out, Lock.Ok.fresh n, HR.out, ⟨fun i => by omega, fun i hi => by simp [Lock.fresh] at hi⟩, HB2.out⟩
    case round =>
      obtain ⟨k, L, A, hk, rfl, hL, ok, hR, hA, hB⟩ := hrel
      by_cases hlt : k < m
      · rcases HO.out with h0 | ⟨ob, off, rfl, hob, hoc, hor⟩
        · omega
        obtain ⟨c0, c1⟩ := (hoc.below hob hB) k hlt
        obtain ⟨r0, r1⟩ := hor k hlt
        have hbl : ob < wr.heap.size := by have := hB.size; omega
        clear hoc hor
        go_upto_block 2 with fail
        have HR := Lib.hid hR
        have HL := Lib.hid hL
        have HA := Lib.hid hA
        have HK := Lib.hid ok
        have HB := Lib.hid hB
        clear hR hL hA ok hB
        generalize (e k).kind = kd at *
        generalize (e k).who = who at *
        obtain ⟨wo, rfl⟩ : ∃ wo : World, wo = wr := ⟨_, rfl⟩
        obtain ⟨W1, hW1⟩ : ∃ W1, wo.alloc (.cells #[.int .u64 kd, .int .i64 who] 28) = W1 := ⟨_, rfl⟩
        obtain ⟨S, hS⟩ : ∃ S, wo.heap.size = S := ⟨_, rfl⟩
        have HL1 := Lib.hid (show IsLock W1 b L by rw [← hW1]; exact Blk.alloc HL.out _)
        have HR1 := Lib.hid (show IsRef W1 B C L A by rw [← hW1]; exact HR.out.of_frm (S := fun _ => False) ((Frm.refl _ _).alloc _) (fun _ _ h => h))
        have HB1 := Lib.hid (show Below w.heap.size w W1 by rw [← hW1]; exact HB.out.alloc HB.out.size _)
        have hcell : W1.cell? ⟨S, 1, none⟩ = some (.int .i64 who) := by rw [← hW1, ← hS]; simp
        have hSb : S ≠ b := by have := Blk.lt HL.out; omega
        have hSl : S < W1.heap.size := by rw [← hW1, ← hS]; simp
        rw [hW1, hS]
        clear hW1 hS HL HR HB
        go_cut [9, 10, 11, 12] (fun s9 s10 s11 s12 wr => ∃ (x : Bool) (y : Int) (L : Lock) (A : Nat → Int), s9 = .bool x ∧ s10 = .bool x ∧ s11 = .int .i64 y ∧ s12 = .int .i64 y ∧ IsLock wr b L ∧ L.Ok ∧ IsRef wr B C L A ∧ AtOk L A ∧ Below w.heap.size w wr)
        case first =>
          by_cases k0 : kd % 6 = 0
          · have k0' : (kd % 6 == 0) = true := by simp [k0]
            have HK0 := Lib.hid k0
            clear k0
            go_wp2_with fail
            refine (Take_any b L who _ HL1.out HK.out).mono ?_
            rintro r w1' ⟨rfl, hL', hF⟩
            have hcell' : w1'.cell? ⟨S, 1, none⟩ = some (.int .i64 who) := (World.cell?_of_block (w := W1) (hF.block S hSl (fun e => hSb e))).trans hcell
            have HL' := Lib.hid hL'
            have HF := Lib.hid hF
            have HR' := Lib.hid (HR1.out.of_frm hF (fun k hk e => (HBB.out k hk).2 e.symm))
            clear hL' hF
            go_wp2_with fail
            refine (RBegin_any B C L A who 0 _ HR'.out HA.out HK.out (.inl rfl)).mono ?_
            rintro r w2' ⟨rfl, ⟨A', hR', hA'⟩, hF2⟩
            have HR2 := Lib.hid hR'
            have HA2 := Lib.hid hA'
            have HF2 := Lib.hid hF2
            clear hR' hA' hF2
            go_wp2_with fail
            go_meet
            case rel => exact ⟨_, _, (L.call who 0).2, A', rfl, rfl, rfl, rfl, HF2.out.blk HL'.out (fun ⟨k, hk, e⟩ => (HBB.out k hk).2 e), HK.out.call who (.inl rfl), HR2.out, HA2.out, (HB1.out.trans (HF.out.below HB1.out.size (fun k hk e => by unfold Only at e; omega))).trans (HF2.out.below (by have := HF.out.size; have := HB1.out.size; omega) (fun k hk ⟨j, hj, e⟩ => by have := (HBB.out j hj).1; omega))⟩
          by_cases k1 : kd % 6 = 1
          · have k0' : (kd % 6 == 0) = false := by simpa using k0
            have k1' : (kd % 6 == 1) = true := by simp [k1]
            have HK0 := Lib.hid k0
            have HK1 := Lib.hid k1
            clear k0 k1
            go_wp2_with fail
            refine (Give_any b L who _ HL1.out HK.out).mono ?_
            rintro r w1' ⟨rfl, hL', hF⟩
            have hcell' : w1'.cell? ⟨S, 1, none⟩ = some (.int .i64 who) := (World.cell?_of_block (w := W1) (hF.block S hSl (fun e => hSb e))).trans hcell
            have HL' := Lib.hid hL'
            have HF := Lib.hid hF
            have HR' := Lib.hid (HR1.out.of_frm hF (fun k hk e => (HBB.out k hk).2 e.symm))
            clear hL' hF
            go_wp2_with fail
            refine (RBegin_any B C L A who 2 _ HR'.out HA.out HK.out (.inr rfl)).mono ?_
            rintro r w2' ⟨rfl, ⟨A', hR', hA'⟩, hF2⟩
            have HR2 := Lib.hid hR'
            have HA2 := Lib.hid hA'
            have HF2 := Lib.hid hF2
            clear hR' hA' hF2
            go_wp2_with fail
            go_meet
            case rel => exact ⟨_, _, (L.call who 2).2, A', rfl, rfl, rfl, rfl, HF2.out.blk HL'.out (fun ⟨k, hk, e⟩ => (HBB.out k hk).2 e), HK.out.call who (.inr rfl), HR2.out, HA2.out, (HB1.out.trans (HF.out.below HB1.out.size (fun k hk e => by unfold Only at e; omega))).trans (HF2.out.below (by have := HF.out.size; have := HB1.out.size; omega) (fun k hk ⟨j, hj, e⟩ => by have := (HBB.out j hj).1; omega))⟩
          · have k0' : (kd % 6 == 0) = false := by simpa using k0
            have k1' : (kd % 6 == 1) = false := by simpa using k1
            have HK0 := Lib.hid k0
            have HK1 := Lib.hid k1
            clear k0 k1
            go_wp2_with fail
            refine (Step_any b L who _ HL1.out HK.out).mono ?_
            rintro r w1' ⟨rfl, hL', hF⟩
            have hcell' : w1'.cell? ⟨S, 1, none⟩ = some (.int .i64 who) := (World.cell?_of_block (w := W1) (hF.block S hSl (fun e => hSb e))).trans hcell
            have HL' := Lib.hid hL'
            have HF := Lib.hid hF
            have HR' := Lib.hid (HR1.out.of_frm hF (fun k hk e => (HBB.out k hk).2 e.symm))
            clear hL' hF
            go_wp2_with fail
            refine (RStep_any B C L A who _ HR'.out HA.out HK.out).mono ?_
            rintro r w2' ⟨rfl, ⟨A', hR', hA'⟩, hF2⟩
            have HR2 := Lib.hid hR'
            have HA2 := Lib.hid hA'
            have HF2 := Lib.hid hF2
            clear hR' hA' hF2
            go_wp2_with fail
            go_meet
            case rel => exact ⟨_, _, (L.step who).2.2, A', rfl, rfl, rfl, rfl, HF2.out.blk HL'.out (fun ⟨k, hk, e⟩ => (HBB.out k hk).2 e), HK.out.step who, HR2.out, HA2.out, (HB1.out.trans (HF.out.below HB1.out.size (fun k hk e => by unfold Only at e; omega))).trans (HF2.out.below (by have := HF.out.size; have := HB1.out.size; omega) (fun k hk ⟨j, hj, e⟩ => by have := (HBB.out j hj).1; omega))⟩
        case rest =>
          obtain ⟨x, y, L, A, rfl, rfl, rfl, rfl, hL, ok, hR, hA, hB⟩ := hcut
          have t3 : wc.cell? ⟨B 0, 3, none⟩ = some (.slice (some ⟨B 3, 0, none⟩) L.n (C 3)) := (hR.top.cell (o := 3) (by omega)).trans rfl
          have hs3 : ∀ j, j < L.n → wc.cell? ⟨B 3, j, none⟩ = some (.int .i64 (L.ps j).state) := fun j hj => ((hR.rows 3 (by omega) (by omega)).cell hj).trans rfl
          have HS3 := Lib.hid hs3
          have HST := Lib.hid (fun who => State_any b L who wc hL ok)
          have HHD := Lib.hid (Holder_any b L wc hL ok)
          have hn := ok.n
          have HL := Lib.hid hL
          have HR := Lib.hid hR
          have HA := Lib.hid hA
          have HK := Lib.hid ok
          have HB := Lib.hid hB
          have e1 : L.stateOf (-1) = -1 := by simp [Lock.stateOf, Lock.has]
          have e2 : L.stateOf L.n = -1 := by simp [Lock.stateOf, Lock.has]
          have HE1 := Lib.hid e1
          have HE2 := Lib.hid e2
          clear hL ok hR hA hB hs3 HL1 HR1 HB1 e1 e2
          go_wp2_with fail
          refine (HST.out (-1)).mono ?_
          rintro r w' ⟨rfl, rfl⟩
          rw [HE1.out]
          go_wp2_with fail
          refine (HST.out L.n).mono ?_
          rintro r w' ⟨rfl, rfl⟩
          rw [HE2.out]
          go_wp2_with fail
          go_loop [13, 100] (fun f i => ∃ j : Nat, j ≤ L.n ∧ i = .int .i64 j ∧ f = .int .i64 (firstVal L j)) (fun _ i => L.n - (intOf i).toNat)
          case atStart => exact ⟨0, Nat.zero_le _, rfl, rfl⟩
          case round =>
            obtain ⟨j, hj, rfl, rfl⟩ := hrel
            by_cases hltj : j < L.n
            · have cj := HS3.out j hltj
              have HJ := Lib.hid (HST.out j)
              have ej := Lib.hid (show L.stateOf j = (L.ps j).state by
                have : L.has j = true := Lock.has_iff.2 ⟨by omega, by omega⟩
                simp [Lock.stateOf, this])
              have HV := Lib.hid (firstVal_succ L j)
              generalize hfv : firstVal L j = fv at *
              generalize hst : (L.ps j).state = st at *
              have H1 := Lib.hid hfv
              have H2 := Lib.hid hst
              clear hfv hst
              by_cases h2 : 2 ≤ st <;> by_cases h3 : fv < 0
              all_goals
                go_wp2_with fail
                refine HJ.out.mono ?_
                rintro r w' ⟨rfl, rfl⟩
                rw [ej.out]
                go_wp2_with fail
                go_round
                case rel => exact ⟨j + 1, by omega, by go_num, by rw [HV.out]; first | rw [if_pos ⟨by omega, by omega⟩] | rw [if_neg (by omega)]⟩
                case measure => simp [intOf]; omega
            · obtain rfl : j = L.n := by omega
              go_wp2_with fail
              refine HHD.out.mono ?_
              rintro r w' ⟨rfl, rfl⟩
              obtain ⟨q1, q2⟩ := holder_first L
              rw [q1, q2]
              generalize firstVal L L.n = fv at *
              by_cases h3 : 0 ≤ fv
              · have h4 : max fv 0 = fv := by omega
                rw [h4]
                have H4 := Lib.hid h4
                clear h4 q1 q2
                go_wp2_with fail
                all_goals
                  go_roundw
                  case rel => exact ⟨k + 1, L, A, by omega, by go_num, HL.out, HK.out, HR.out, HA.out, HB.out⟩
                  case measure => simp [intOf]; omega
              · have h4 : max fv 0 = 0 := by omega
                rw [h4]
                have H4 := Lib.hid h4
                clear h4 q1 q2
                go_wp2_with fail
                all_goals
                  go_roundw
                  case rel => exact ⟨k + 1, L, A, by omega, by go_num, HL.out, HK.out, HR.out, HA.out, HB.out⟩
                  case measure => simp [intOf]; omega
      · obtain rfl : k = m := by omega
        have HB := Lib.hid hB
        have hs := hB.size
        clear hL ok hR hA hB
        go_wp2_with (go_at_call 11; refine (lives_any _).mono ?_; rintro r w4 ⟨rfl, hb4⟩)
        go_ret
        exact ⟨rfl, HB.out.trans (hb4.mono hs)⟩
end Go.Proofs.Ythhcmilijiccmaa
