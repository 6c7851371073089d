/- A part of the proof of McsGoes: the walk of the law. No condition. -/
import Derived.Test.YthhcmilijiccmaaE
import Derived.Test.YthhcmilijiccmaaF
import Derived.Deep.CutBlock
import Derived.Deep.DeepCutAuto
import Derived.Test.YthhcmilijiccmaaO
import Derived.Test.YthhcmilijiccmaaW
namespace Go.Proofs.Ythhcmilijiccmaa
open Go.RowKit

/-- What stands between the law's loops. -/
structure AtG (w0 wr : World) (b : Nat) (L : Lock) : Prop where
  lock : IsLock wr b L
  ok : L.Ok
  below : Below w0.heap.size w0 wr
  hb : w0.heap.size ≤ b

theorem AtG.alloc {w0 wr : World} {b : Nat} {L : Lock} (h : AtG w0 wr b L) (o : Obj) : AtG w0 (wr.alloc o) b L := ⟨Blk.alloc h.lock o, h.ok, h.below.alloc h.below.size o, h.hb⟩
theorem AtG.turn {w0 wr wr' : World} {b : Nat} {L L' : Lock} (h : AtG w0 wr b L) (hL : IsLock wr' b L') (hF : Frm (Only b) wr wr') (ok : L'.Ok) : AtG w0 wr' b L' :=
  ⟨hL, ok, h.below.trans (hF.below h.below.size (fun j hj => by have := h.hb; unfold Only; omega)), h.hb⟩

theorem step_inv {L : Lock} (ok : L.Ok) {Q : List Nat} (h : Inv L Q) (who : Int) : ∃ Q', Inv (L.step who).2.2 Q' := by
  unfold Lock.step
  split
  case isFalse => exact ⟨Q, h⟩
  rename_i hh
  obtain ⟨h0, h1⟩ := Lock.has_iff.1 hh
  have hi : who.toNat < L.n := by omega
  split
  case isFalse => exact ⟨Q, h⟩
  rename_i hs
  unfold Lock.stepAt
  rcases hs with e | e
  · simp only [if_pos e]
    obtain ⟨Q', h1, -⟩ := h.take ok hi e
    exact ⟨Q', h1⟩
  · simp only [if_neg (show ¬ (L.ps who.toNat).state = 1 by omega), if_pos e]
    obtain ⟨Q', h1, -⟩ := h.give ok hi e
    exact ⟨Q', h1⟩

set_option maxRecDepth 100000 in
set_option maxHeartbeats 4000000 in
theorem goes_any (n : Int) (a : Option Addr) (len cap : Nat) (e : Nat → Opn) (w : World) (h0 : -9223372036854775808 ≤ n) (h1 : n ≤ 9223372036854775807) (ha : SlOk a len cap) (hI : RawO w a len e) :
    Calls Try.prog 5 #[.int .i64 n, .slice a len cap] w fun r w' => r = .returned (.bool true) ∧ Below w.heap.size w w' := by
  have HI := Lib.hid hI
  clear hI
  have hlen : len ≤ 9223372036854775807 := by
    rcases ha with ⟨-, rfl, -⟩ | ⟨x, -, h1, h2⟩ <;> omega
  have HSl := Lib.hid ha
  clear ha
  go_enter Try.func5, Try.ntmps5
  go_wp2_with fail
  refine (New_any n _ h0 h1).mono ?_
  rintro r w1 ⟨b, rfl, hb, hL, hB1⟩
  have H1 := Lib.hid (show AtG w w1 b (Lock.fresh n) from ⟨hL, Lock.Ok.fresh n, hB1, hb⟩)
  clear hL hB1
  go_upto_block 0 with fail
  go_cut [] (fun wr => ∃ (L : Lock) (Q : List Nat), AtG w wr b L ∧ Inv L Q)
  case first =>
    go_wp2_with fail
    go_loopw [19] (fun i wr => ∃ (k : Nat) (L : Lock) (Q : List Nat), k ≤ len ∧ i = .int .i64 k ∧ AtG w wr b L ∧ Inv L Q) (fun i _ => len - (intOf i).toNat)
    case atStart => exact ⟨0, _, [], Nat.zero_le _, rfl, H1.out, Inv.fresh n⟩
    case round =>
      obtain ⟨k, L, Q, hk, rfl, hA, hQ⟩ := hrel
      by_cases hlt : k < len
      · rcases HI.out with h0 | ⟨ob, off, rfl, hob, hoc, hor⟩
        · omega
        obtain ⟨c0, c1⟩ := (hoc.below hob hA.below) k hlt
        obtain ⟨r0, r1⟩ := hor k hlt
        have hbl : ob < wr.heap.size := by have := hA.below.size; omega
        clear hoc hor
        generalize (e k).kind = kd at *
        generalize (e k).who = who at *
        have HA := Lib.hid (fun o => hA.alloc o)
        have HQ := Lib.hid hQ
        have hok := Lib.hid hA.ok
        clear hA hQ
        by_cases h200 : 200 ≤ k
        · go_wp2_with fail
          go_meet
          case rel => exact ⟨L, Q, HA.out _, HQ.out⟩
        · by_cases k0 : kd % 6 = 0
          · have k0' : (kd % 6 == 0) = true := by simp [k0]
            have HK0 := Lib.hid k0
            clear k0
            go_wp2_with fail
            refine (Take_any b L who _ (HA.out _).lock hok.out).mono ?_
            rintro r w2 ⟨rfl, hL', hF⟩
            have HX := Lib.hid ((HA.out _).turn hL' hF (hok.out.call who (.inl rfl)))
            clear hL' hF
            go_wp2_with fail
            go_roundw
            case rel => exact ⟨k + 1, _, Q, by omega, by go_num, HX.out, (HQ.out.call who 0 (.inl rfl)).1⟩
            case measure => simp [intOf]; omega
          by_cases k1 : kd % 6 = 1
          · have k0' : (kd % 6 == 0) = false := by simpa using k0
            have k1' : (kd % 6 == 1) = true := by simp [k1]
            have HK0 := Lib.hid k0
            have HK1 := Lib.hid k1
            clear k0 k1
            go_wp2_with fail
            refine (Give_any b L who _ (HA.out _).lock hok.out).mono ?_
            rintro r w2 ⟨rfl, hL', hF⟩
            have HX := Lib.hid ((HA.out _).turn hL' hF (hok.out.call who (.inr rfl)))
            clear hL' hF
            go_wp2_with fail
            go_roundw
            case rel => exact ⟨k + 1, _, Q, by omega, by go_num, HX.out, (HQ.out.call who 2 (.inr rfl)).1⟩
            case measure => simp [intOf]; omega
          · have k0' : (kd % 6 == 0) = false := by simpa using k0
            have k1' : (kd % 6 == 1) = false := by simpa using k1
            have HK0 := Lib.hid k0
            have HK1 := Lib.hid k1
            clear k0 k1
            go_wp2_with fail
            refine (Step_any b L who _ (HA.out _).lock hok.out).mono ?_
            rintro r w2 ⟨rfl, hL', hF⟩
            have HX := Lib.hid ((HA.out _).turn hL' hF (hok.out.step who))
            clear hL' hF
            obtain ⟨Q', hQ'⟩ := step_inv hok.out HQ.out who
            have HQ' := Lib.hid hQ'
            clear hQ'
            go_wp2_with fail
            go_roundw
            case rel => exact ⟨k + 1, _, Q', by omega, by go_num, HX.out, HQ'.out⟩
            case measure => simp [intOf]; omega
      · obtain rfl : k = len := by omega
        have HA := Lib.hid hA
        have HQ := Lib.hid hQ
        clear hA hQ
        go_wp2_with fail
        go_meet
        case rel => exact ⟨L, Q, HA.out, HQ.out⟩
  case rest =>
    obtain ⟨L, Q, hA, hQ⟩ := hcut
    have HA := Lib.hid hA
    have HQ := Lib.hid hQ
    clear hA hQ H1
    go_wp2_with fail
    go_loopw [46] (fun i wr => ∃ (t : Nat) (L : Lock), t ≤ 200 ∧ i = .int .i64 t ∧ AtG w wr b L ∧ Rd t 0 L) (fun i _ => 200 - (intOf i).toNat)
    case atStart => exact ⟨0, L, by omega, rfl, HA.out, Rd.start HA.out.ok HQ.out⟩
    case round =>
      clear HA HQ
      obtain ⟨t, L, ht, rfl, hA, hR⟩ := hrel
      have HA := Lib.hid hA
      have HR := Lib.hid hR
      clear hA hR
      by_cases hlt : t < 200
      · have hlt' : (t : Int) < 200 := by omega
        go_wp2_with fail
        go_loopw [48] (fun i wr => ∃ (k : Nat) (L : Lock), k ≤ 16 ∧ i = .int .i64 k ∧ AtG w wr b L ∧ Rd t k L) (fun i _ => 16 - (intOf i).toNat)
        case atStart => exact ⟨0, L, by omega, rfl, HA.out, HR.out⟩
        case round =>
          clear HA HR
          obtain ⟨k, L, hk, rfl, hA, hR⟩ := hrel
          by_cases hltk : k < 16
          · have HST := Lib.hid (State_any b L k wr hA.lock hA.ok)
            have HR := Lib.hid (hR.sub hA.ok)
            have HE := Lib.hid (show sub L k = ((if L.stateOf k = 2 then (L.call k 2).2 else L).step k).2.2 from rfl)
            have HA := Lib.hid hA
            clear hA hR
            generalize hst : L.stateOf k = st at *
            have H2 := Lib.hid hst
            clear hst
            by_cases h2 : st = 2
            · subst h2
              have e1 := Lib.hid (show sub L k = ((L.call k 2).2.step k).2.2 from HE.out.trans (by rw [if_pos rfl]))
              go_wp2_with fail
              refine HST.out.mono ?_
              rintro r w2 ⟨rfl, rfl⟩
              go_wp2_with fail
              refine (Give_any b L k _ HA.out.lock HA.out.ok).mono ?_
              rintro r w2 ⟨rfl, hL', hF⟩
              have HX := Lib.hid (HA.out.turn hL' hF (HA.out.ok.call k (.inr rfl)))
              clear hL' hF
              go_wp2_with fail
              refine (Step_any b _ k _ HX.out.lock HX.out.ok).mono ?_
              rintro r w3 ⟨rfl, hL', hF⟩
              have HX2 := Lib.hid (HX.out.turn hL' hF (HX.out.ok.step k))
              clear hL' hF
              go_wp2_with fail
              go_roundw
              case rel => exact ⟨k + 1, _, by omega, by go_num, HX2.out, by rw [← e1.out]; exact HR.out⟩
              case measure => simp [intOf]; omega
            · have h2' : (st == 2) = false := by simpa using h2
              have e1 := Lib.hid (show sub L k = (L.step k).2.2 from HE.out.trans (by rw [if_neg h2]))
              have HN := Lib.hid h2
              clear h2
              go_wp2_with fail
              refine HST.out.mono ?_
              rintro r w2 ⟨rfl, rfl⟩
              go_wp2_with fail
              refine (Step_any b _ k _ HA.out.lock HA.out.ok).mono ?_
              rintro r w3 ⟨rfl, hL', hF⟩
              have HX2 := Lib.hid (HA.out.turn hL' hF (HA.out.ok.step k))
              clear hL' hF
              go_wp2_with fail
              go_roundw
              case rel => exact ⟨k + 1, _, by omega, by go_num, HX2.out, by rw [← e1.out]; exact HR.out⟩
              case measure => simp [intOf]; omega
          · obtain rfl : k = 16 := by omega
            have HA := Lib.hid hA
            have HR := Lib.hid (hR.next hA.ok)
            clear hA hR
            go_wp2_with fail
            go_roundw
            case rel => exact ⟨t + 1, L, by omega, by go_num, HA.out, HR.out⟩
            case measure => simp [intOf]; omega
      · have ht2 : t = 200 := by omega
        rw [ht2] at HR
        have HZ := Lib.hid (fun i : Nat => HR.out.end HA.out.ok i)
        have hge : ¬ (t : Int) < 200 := by omega
        clear ht2 ht
        have HST := Lib.hid (fun i : Nat => State_any b L i wr HA.out.lock HA.out.ok)
        go_wp2_with fail
        go_loop [63] (fun i => ∃ k : Nat, k ≤ 16 ∧ i = .int .i64 k) (fun i => 16 - (intOf i).toNat)
        case atStart => exact ⟨0, by omega, rfl⟩
        case round =>
          obtain ⟨k, hk, rfl⟩ := hrel
          by_cases hltk : k < 16
          · have hz := HZ.out k
            have HK := Lib.hid (HST.out k)
            generalize L.stateOf k = st at *
            go_wp2_with fail
            refine HK.out.mono ?_
            rintro r w2 ⟨rfl, rfl⟩
            go_wp2_with fail
            go_round
            case rel => exact ⟨k + 1, by omega, by go_num⟩
            case measure => simp [intOf]; omega
          · obtain rfl : k = 16 := by omega
            have hs := HA.out.below.size
            have HB := Lib.hid HA.out.below
            go_wp2_with fail
            refine (Step_nil 0 _).mono ?_
            rintro r w2 ⟨rfl, rfl⟩
            go_wp2_with fail
            refine (Holder_nil _).mono ?_
            rintro r w2 ⟨rfl, rfl⟩
            go_wp2_with fail
            refine (Take_nil 0 _).mono ?_
            rintro r w2 ⟨rfl, rfl⟩
            go_wp2_with fail
            refine (Give_nil 0 _).mono ?_
            rintro r w2 ⟨rfl, rfl⟩
            go_wp2_with fail
            refine (State_nil 0 _).mono ?_
            rintro r w2 ⟨rfl, rfl⟩
            go_wp2_with fail
            refine (lives_any _).mono ?_
            rintro r w4 ⟨rfl, hb4⟩
            go_wp2_with fail
            go_ret
            exact ⟨rfl, HB.out.trans (hb4.mono hs)⟩
end Go.Proofs.Ythhcmilijiccmaa
