/- The law's run: what is put in is numbered; what is taken is marked. The walk. No condition. -/
import Derived.Test.YtnjondphbfniaaaOc
import Derived.Test.YtnjondphbfniaaaT
import Derived.Laws.OwnMore
namespace Go.Proofs.Ytnjondphbfniaaa
open Go.RowKit Go.Deep

theorem cells_new1 (w : World) (a : Value) (t : TypeId) : ∀ j u, ([a] : List Value)[j]? = some u → (w.alloc (.cells #[a] t)).cell? ((⟨w.heap.size, 0, none⟩ : Addr).add j) = some u := by
  intro j u h
  match j, h with
  | 0, h => simp at h; subst h; simp [Addr.add]

def RunTo (w : World) (b pb cap : Nat) (r : Ending) (w' : World) : Prop :=
  ∃ d T L N g cv, r = .returned (.tuple #[.slice (some ⟨g, 0, none⟩) N cv, .bool true]) ∧ N ≤ 301 ∧ d.Safe L T N ∧ d.Ok 300 ∧ Marked w w' b pb cap d g cv T N

set_option maxRecDepth 100000 in
set_option maxHeartbeats 8000000 in
theorem run_any {w0 w : World} {b pb cap : Nat} {d : Dq} {L : Int} (h : IsDq w b pb cap d) (ok : d.Ok 0) (hs : d.Safe L (fun _ => 0) 1) (hB : Below w0.heap.size w0 w) (hb : w0.heap.size ≤ b) (hpb : w0.heap.size ≤ pb)
    (a : Option Addr) (m cp : Nat) (e : Nat → Opn) (hm : m ≤ 300) (hO : RawO w0 a m e) :
    Calls Try.prog 12 #[.pointer (some ⟨b, 0, none⟩), .slice a m cp] w (RunTo w b pb cap) := by
  obtain ⟨i3, I3, Z3, S3, B3⟩ := info_parts Try.info3r
  have I3 := Lib.hid I3
  have Z3 := Lib.hid Z3
  have S3 := Lib.hid S3
  have B3 := Lib.hid B3
  have HO := Lib.hid hO
  have HB0 := Lib.hid hB
  have hlb := h.top.lt
  have hlp := h.parts.lt
  have HM := Lib.hid (show Marked w (w.alloc (.cells #[.int .i64 0] 3)) b pb cap d w.heap.size 1 (fun _ => 0) 1 from
    ⟨h.alloc _, World.ownsRow_lit w #[.int .i64 0] 1 (Nat.le_refl _) (by simp [maxLen]) rfl, (Frm.refl _ _).alloc _, ⟨hlb, hlp⟩⟩)
  have HS := Lib.hid hs
  have HOK := Lib.hid ok
  clear hO hB h hs ok
  go_enter Try.func12, Try.ntmps12
  go_wp2_with fail
  go_loopw [6, 7, 8, 16] (fun v br nx i wr => ∃ k : Nat, k ≤ m ∧ i = .int .i64 k ∧ ∃ (d : Dq) (T : Nat → Int) (L : Int) (N g cv : Nat), v = .slice (some ⟨g, 0, none⟩) N cv ∧ br = .int .i64 ((N - 1 : Nat) : Int) ∧ nx = .int .i64 (N : Int) ∧ 1 ≤ N ∧ N ≤ k + 1 ∧ d.Safe L T N ∧ d.Ok k ∧ Marked w wr b pb cap d g cv T N) (fun _ _ _ i _ => m - (intOf i).toNat)
  case atStart => exact ⟨0, Nat.zero_le _, rfl, d, _, L, 1, _, _, rfl, rfl, rfl, by omega, by omega, HS.out, HOK.out, HM.out⟩
  case round =>
    clear HM HS HOK
    obtain ⟨k, hk, rfl, d, T, L, N, g, cv, rfl, rfl, rfl, hN, hNk, hS, hok, hM⟩ := hrel
    by_cases hlt : k < m
    · rcases HO.out with hz | ⟨ob, off, rfl, hob, hoc, hor⟩
      · omega
      have hBr := both_below HB0.out hb hpb hM.frm
      obtain ⟨c0, c1, c2⟩ := (hoc.below hob hBr) k hlt
      obtain ⟨r0, r1⟩ := hor k hlt
      have HS := Lib.hid hS
      have HOK := Lib.hid hok
      have HM := Lib.hid hM
      have hgg := hM.g_ge
      have hok9 := hok.n.2
      generalize (e k).kind = kd at *
      generalize (e k).who = who at *
      generalize (e k).x = x at *
      clear hS hok hM hBr hoc hor
      obtain ⟨wo, rfl⟩ : ∃ wo : World, wo = wr := ⟨_, rfl⟩
      go_upto_region 7 with fail
      obtain ⟨W1, hW1⟩ : ∃ W1, wo.alloc (.cells #[.int .u64 kd, .int .i64 who, .int .i64 x] 29) = W1 := ⟨_, rfl⟩
      obtain ⟨A, hA⟩ : ∃ A, wo.heap.size = A := ⟨_, rfl⟩
      obtain ⟨z0, z1, z2⟩ := cells_new3 wo (.int .u64 kd) (.int .i64 who) (.int .i64 x) 29
      have HM1 := Lib.hid (show Marked w W1 b pb cap d g cv T N by rw [← hW1]; exact HM.out.alloc _)
      rw [hW1, hA] at z0 z1 z2
      rw [hW1, hA]
      clear hW1 hA HM c0 c1 c2
      by_cases e0 : kd % 8 = 0
      · have k0 : (kd % 8 == 0) = true := by simp [e0]
        clear e0
        have HP := Lib.hid (Push_any HM1.out.dq hok9 N)
        have HOK1 := Lib.hid (HOK.out.begin 0 1 N (.inl ⟨.inl rfl, rfl⟩))
        have HS1 := Lib.hid (fun h => HS.out.bPush h)
        have HS2 := Lib.hid (fun h => (Dq.Safe.bPushNo h : (d.begin 0 1 N).2 = d))
        generalize d.begin 0 1 N = q at *
        obtain ⟨q1, q2⟩ := q
        simp only at HP HOK1 HS1 HS2
        go_wp2_with fail
        refine HP.out.mono ?_
        rintro r w3 ⟨rfl, h3, hF3⟩
        have HM3 := Lib.hid (HM1.out.call hF3 h3)
        clear h3 hF3 HP HM1 z0 z1 z2
        by_cases hq1 : q1 = 0
        · have q0 : (q1 == 0) = true := by simp [hq1]
          have HQ1 := Lib.hid hq1
          clear hq1
          have hsz : w.heap.size ≤ (w3.alloc (.cells #[.int .i64 0] 3)).heap.size := by have := HM3.out.frm.size; simp; omega
          go_wp2_with (at_builtin; refine wpList_append_own _ rfl _ _ 32 rfl w.heap.size 3 i3 _ 1 8 Try.underlying32 I3.out Z3.out S3.out B3.out rfl (by decide) _ _ _ rfl (HM3.out.own.alloc _) ⟨w3.heap.size, 0, none⟩ 1 1 [.int .i64 0] rfl rfl (cells_new1 _ _ _) (by simp [Value.oneCell']) (by simp only [maxLen]; omega) (by omega) hsz ?_; intro v' w4 hown' hgrow _; obtain ⟨g', cv', hv', hM4⟩ := (HM3.out.alloc _).grown hgrow hown'; subst hv'; have HM4 := Lib.hid hM4; clear hM4 hown' hgrow)
          go_roundw
          case rel => exact ⟨k + 1, by omega, by go_num, q2, _, L, N + 1, g', cv', rfl, by go_num, by go_num, by omega, by omega, HS1.out HQ1.out, HOK1.out, HM4.out⟩
          case measure => simp [intOf]; omega
        · have q0 : (q1 == 0) = false := by simpa using hq1
          have HQ1 := Lib.hid hq1
          clear hq1
          go_wp2_with fail
          go_roundw
          case rel => exact ⟨k + 1, by omega, by go_num, d, T, L, N, g, cv, rfl, rfl, rfl, by omega, by omega, HS.out, HOK.out.mono, by have := HM3.out; rw [HS2.out HQ1.out] at this; exact this⟩
          case measure => simp [intOf]; omega
      · have k0 : (kd % 8 == 0) = false := by simpa using e0
        clear e0
        by_cases e1 : kd % 8 = 1
        · have k1 : (kd % 8 == 1) = true := by simp [e1]
          clear e1
          have HP := Lib.hid (Pop_any HM1.out.dq hok9)
          have HOK1 := Lib.hid (HOK.out.begin 0 2 0 (.inl ⟨.inr rfl, rfl⟩))
          have HS1 := Lib.hid HS.out.bPop
          generalize d.begin 0 2 0 = q at *
          obtain ⟨q1, q2⟩ := q
          simp only at HP HOK1 HS1
          go_wp2_with fail
          refine HP.out.mono ?_
          rintro r w3 ⟨rfl, h3, hF3⟩
          have HM3 := Lib.hid (HM1.out.call hF3 h3)
          clear h3 hF3 HP HM1 z0 z1 z2
          go_wp2_with fail
          go_roundw
          case rel => exact ⟨k + 1, by omega, by go_num, q2, T, L, N, g, cv, rfl, rfl, rfl, by omega, by omega, HS1.out, HOK1.out, HM3.out⟩
          case measure => simp [intOf]; omega
        · have k1 : (kd % 8 == 1) = false := by simpa using e1
          clear e1
          by_cases e2 : kd % 8 = 2
          · have k2 : (kd % 8 == 2) = true := by simp [e2]
            clear e2
            have HP := Lib.hid (Steal_any HM1.out.dq hok9 who)
            have HOK1 := Lib.hid (HOK.out.theft who)
            have HS1 := Lib.hid (HS.out.theft who)
            generalize d.theft who = q at *
            obtain ⟨q1, q2⟩ := q
            simp only at HP HOK1 HS1
            go_wp2_with fail
            refine HP.out.mono ?_
            rintro r w3 ⟨rfl, h3, hF3⟩
            have HM3 := Lib.hid (HM1.out.call hF3 h3)
            clear h3 hF3 HP HM1 z0 z1 z2
            go_wp2_with fail
            go_roundw
            case rel => exact ⟨k + 1, by omega, by go_num, q2, T, L, N, g, cv, rfl, rfl, rfl, by omega, by omega, HS1.out, HOK1.out, HM3.out⟩
            case measure => simp [intOf]; omega
          · have k2 : (kd % 8 == 2) = false := by simpa using e2
            clear e2
            have HP := Lib.hid (Step_any HM1.out.dq HOK.out (by omega) who)
            have HOK1 := Lib.hid (HOK.out.step who)
            have HK := Lib.hid (HS.out.step HOK.out who)
            generalize d.step who = q at *
            obtain ⟨how, y, er, d'⟩ := q
            simp only at HP HOK1
            unfold stolenV at HP
            go_upto_region 8 with fail
            go_upto_region 9 with (go_at_call 13; refine HP.out.mono ?_; rintro r w3 ⟨rfl, h3, hF3⟩; have HM3 := Lib.hid (HM1.out.call hF3 h3); clear h3 hF3 HP HM1 z0 z1 z2)
            obtain ⟨W5, hW5⟩ : ∃ W5, w3.alloc (.cells #[.bool (how != 0), .int .i64 how, .int .i64 y] 44) = W5 := ⟨_, rfl⟩
            obtain ⟨D, hD⟩ : ∃ D, w3.heap.size = D := ⟨_, rfl⟩
            obtain ⟨y0, y1, y2⟩ := cells_new3 w3 (.bool (how != 0)) (.int .i64 how) (.int .i64 y) 44
            have hDg : ¬ D = g := by have := HM3.out.g_ge; omega
            have hgD : ¬ g = D := fun e => hDg e.symm
            have HM5 := Lib.hid (show Marked w W5 b pb cap d' g cv T N by rw [← hW5]; exact HM3.out.alloc _)
            rw [hW5, hD] at y0 y1 y2
            rw [hW5, hD]
            clear hW5 hD HM3 y0
            by_cases hw4 : how = 4
            · subst hw4
              have hN2 : 2 ≤ N := HK.out.1.2 rfl
              have g0 := HM5.out.cell (i := N - 1) (by omega)
              have g1 := HM5.out.frozen (N - 1)
              have HM6 := Lib.hid (HM5.out.store (N - 1) (-1))
              have HK6 := Lib.hid HK.out.2
              clear HK
              go_wp2_with fail
              go_roundw
              case rel => exact HK6.out.elim fun L' hS' => ⟨k + 1, by omega, by go_num, d', _, L', N, g, cv, rfl, rfl, rfl, by omega, by omega, hS', HOK1.out, HM6.out⟩
              case measure => simp [intOf]; omega
            · have w4' : (how == 4) = false := by simpa using hw4
              have HW4 := Lib.hid hw4
              clear hw4
              by_cases hw1 : how = 1
              · subst hw1
                obtain ⟨t1, t2, t3⟩ := HK.out.1.1 rfl
                simp only at t1 t2 t3
                obtain ⟨yn, rfl⟩ := Int.eq_ofNat_of_zero_le (show 0 ≤ y by omega)
                rw [Int.toNat_natCast] at t3
                have hyn : yn < N := by omega
                have g0 := HM5.out.cell (i := yn) (by omega)
                have g1 := HM5.out.frozen yn
                rw [t3] at g0
                have HM6 := Lib.hid (HM5.out.store yn 1)
                have HK6 := Lib.hid (show ∃ L', d'.Safe L' (setv T yn 1) N from HK.out.2)
                clear HK t3
                go_wp2_with fail
                go_roundw
                case rel => exact HK6.out.elim fun L' hS' => ⟨k + 1, by omega, by go_num, d', _, L', N, g, cv, rfl, rfl, rfl, by omega, by omega, hS', HOK1.out, HM6.out⟩
                case measure => simp [intOf]; omega
              · have w1' : (how == 1) = false := by simpa using hw1
                have HK6 := Lib.hid (show ∃ L', d'.Safe L' T N by
                  have := HK.out.2
                  unfold aft at this
                  rw [if_neg HW4.out, if_neg hw1] at this
                  exact this)
                clear HK hw1
                go_wp2_with fail
                go_roundw
                case rel => exact HK6.out.elim fun L' hS' => ⟨k + 1, by omega, by go_num, d', _, L', N, g, cv, rfl, rfl, rfl, by omega, by omega, hS', HOK1.out, HM5.out⟩
                case measure => simp [intOf]; omega
    · obtain rfl : m = k := by omega
      have HS := Lib.hid hS
      have HOK := Lib.hid hok
      have HM := Lib.hid hM
      clear hS hok hM
      go_wp2_with fail
      go_ret2
      exact ⟨d, T, L, N, g, cv, rfl, by omega, HS.out, HOK.out.monoN (by omega), HM.out⟩
end Go.Proofs.Ytnjondphbfniaaa
