/- A part of the proof of StealPlays: the walk of the law. No condition. -/
import Derived.Test.YtnjondphbfniaaaS
import Derived.Deep.RegionWith
import Derived.IntWalk
namespace Go.Proofs.Ytnjondphbfniaaa
open Go.RowKit Go.Deep

/-- An operation. -/
structure Opn where
  kind : Int
  who : Int
  x : Int

/-- The cells of a slice of operations. -/
def OpCells (w : World) (b off len : Nat) (e : Nat → Opn) : Prop :=
  ∀ k, k < len → w.cell? ⟨b, off + k * 3, none⟩ = some (.int .u64 (e k).kind) ∧ w.cell? ⟨b, off + k * 3 + 1, none⟩ = some (.int .i64 (e k).who) ∧ w.cell? ⟨b, off + k * 3 + 2, none⟩ = some (.int .i64 (e k).x)

theorem OpCells.below {n₀ : Nat} {w w' : World} {b off len : Nat} {e : Nat → Opn} (hb : b < n₀) (h : Below n₀ w w') (hc : OpCells w b off len e) : OpCells w' b off len e := fun k hk =>
  ⟨(h.cell (p := ⟨b, _, none⟩) hb).trans (hc k hk).1, (h.cell (p := ⟨b, _, none⟩) hb).trans (hc k hk).2.1, (h.cell (p := ⟨b, _, none⟩) hb).trans (hc k hk).2.2⟩

def SlOk (a : Option Addr) (len cap : Nat) : Prop := (a = none ∧ len = 0 ∧ cap = 0) ∨ ∃ x, a = some x ∧ len ≤ cap ∧ cap ≤ 9223372036854775807
def RawO (w : World) (a : Option Addr) (len : Nat) (e : Nat → Opn) : Prop := len = 0 ∨ ∃ b off, a = some ⟨b, off, none⟩ ∧ b < w.heap.size ∧ OpCells w b off len e ∧ ∀ k, k < len → 0 ≤ (e k).kind ∧ (e k).kind ≤ 18446744073709551615

theorem RawO.take {w : World} {a : Option Addr} {len m : Nat} {e : Nat → Opn} (h : RawO w a len e) (hm : m ≤ len) : RawO w a m e := by
  rcases h with h | ⟨b, off, ha, hb, hc, hr⟩
  · exact .inl (by omega)
  · exact .inr ⟨b, off, ha, hb, fun k hk => hc k (by omega), fun k hk => hr k (by omega)⟩

/-- The row behind so many operations. -/
def playD (d : Dq) (e : Nat → Opn) : Nat → Dq
  | 0 => d
  | k + 1 => nextD (playD d e k) (e k).kind (e k).who (e k).x

set_option maxRecDepth 100000 in
set_option maxHeartbeats 4000000 in
theorem plays_any (n th : Int) (a : Option Addr) (len cap0 : Nat) (e : Nat → Opn) (w : World) (h0 : -9223372036854775808 ≤ n) (h1 : n ≤ 9223372036854775807) (h2 : -9223372036854775808 ≤ th) (h3 : th ≤ 9223372036854775807) (ha : SlOk a len cap0) (hI : RawO w a len e) :
    Calls Try.prog 3 #[.int .i64 n, .int .i64 th, .slice a len cap0] w fun r w' => r = .returned (.bool true) ∧ Below w.heap.size w w' := by
  have HI := Lib.hid hI
  clear hI
  go_enter Try.func3, Try.ntmps3
  go_upto_region 1 with fail
  go_cut [2] (fun u1 wr => ∃ (m cap' : Nat), u1 = .slice a m cap' ∧ m ≤ len ∧ m ≤ 200 ∧ w = wr)
  case first =>
    rcases ha with ⟨rfl, rfl, rfl⟩ | ⟨x, rfl, hcap, hm⟩
    · go_wp2_with fail
      go_meet
      case rel => exact ⟨0, _, rfl, by omega, by omega, rfl⟩
    · by_cases h2 : (200 : Int) < len
      all_goals
        go_wp2_with fail
        all_goals
          go_meet
          case rel => exact ⟨_, _, rfl, by omega, by omega, rfl⟩
  case rest =>
    obtain ⟨m, cap', rfl, hm, hm2, rfl⟩ := hcut
    have HO := Lib.hid (HI.out.take hm)
    clear HI ha
    go_wp2_with fail
    refine (New_any n th _ h0 h1 h2 h3).mono ?_
    rintro r w1 ⟨b, pb, cap, rfl, hb, hpb, hq, hB⟩
    have HB1 := Lib.hid hB
    have HQ1 := Lib.hid hq
    clear hq hB
    go_wp2_with fail
    refine (RNew_any n th _ h0 h1 h2 h3).mono ?_
    rintro r w2 ⟨rb, sb, qb, rn, cs, cq, rfl, hrb, hsb, hqb, hr, hB2⟩
    have hs1 := HB1.out.size
    have HP := Lib.hid (show Pair w2 b pb cap rb sb qb rn cs cq (Dq.fresh n th) 0 from
      ⟨HQ1.out.of_frm (S := fun k => w1.heap.size ≤ k) ⟨hB2.os, hB2.tape, hB2.output, hB2.size, fun k hk _ => hB2.block k hk⟩ (by have := HQ1.out.top.lt; omega) (by have := HQ1.out.parts.lt; omega), ⟨_, hr, ⟨rfl, rfl, rfl, rfl, rfl, fun i => PtLike.refl _⟩⟩, Dq.Ok.fresh n th, by
        have a1 := HQ1.out.top.lt
        have a2 := HQ1.out.parts.lt
        omega⟩)
    have HB2 := Lib.hid (HB1.out.trans (hB2.mono hs1))
    have HLow := Lib.hid (show ∀ k, k < w.heap.size → ¬ Five b pb rb sb qb k from fun k hk h => by
      rcases h with (h | h) | (h | h | h) <;> omega)
    clear hr hB2 HQ1 HB1 hb hpb hrb hsb hqb hs1
    go_wp2_with fail
    go_loopw [27] (fun i wr => ∃ k : Nat, k ≤ m ∧ i = .int .i64 k ∧ Pair wr b pb cap rb sb qb rn cs cq (playD (Dq.fresh n th) e k) k ∧ Below w.heap.size w wr) (fun i _ => m - (intOf i).toNat)
    case atStart => exact ⟨0, Nat.zero_le _, rfl, HP.out, HB2.out⟩
    case round =>
      clear HP HB2
      obtain ⟨k, hk, rfl, hP, hB⟩ := hrel
      by_cases hlt : k < m
      · rcases HO.out with hz | ⟨ob, off, rfl, hob, hoc, hor⟩
        · omega
        obtain ⟨c0, c1, c2⟩ := (hoc.below hob hB) k hlt
        obtain ⟨r0, r1⟩ := hor k hlt
        have hbl : ob < wr.heap.size := by have := hB.size; omega
        have HE := Lib.hid (show playD (Dq.fresh n th) e (k + 1) = nextD (playD (Dq.fresh n th) e k) (e k).kind (e k).who (e k).x from rfl)
        obtain ⟨d2, hd2⟩ : ∃ d2, playD (Dq.fresh n th) e (k + 1) = d2 := ⟨_, rfl⟩
        rw [hd2] at HE
        have HD2 := Lib.hid hd2
        clear hd2
        generalize playD (Dq.fresh n th) e k = d at *
        generalize (e k).kind = kd at *
        generalize (e k).who = who at *
        generalize (e k).x = x at *
        have HP := Lib.hid hP
        have HB := Lib.hid hB
        clear hoc hor hP hB
        obtain ⟨wo, rfl⟩ : ∃ wo : World, wo = wr := ⟨_, rfl⟩
        go_upto_region 8 with fail
        obtain ⟨W1, hW1⟩ : ∃ W1, wo.alloc (.cells #[.int .u64 kd, .int .i64 who, .int .i64 x] 29) = W1 := ⟨_, rfl⟩
        obtain ⟨A, hA⟩ : ∃ A, wo.heap.size = A := ⟨_, rfl⟩
        obtain ⟨z0, z1, z2⟩ := cells_new3 wo (.int .u64 kd) (.int .i64 who) (.int .i64 x) 29
        have HP1 := Lib.hid (show Pair W1 b pb cap rb sb qb rn cs cq d k by rw [← hW1]; exact HP.out.alloc _)
        have HB1 := Lib.hid (show Below w.heap.size w W1 by rw [← hW1]; exact HB.out.alloc HB.out.size _)
        rw [hW1, hA] at z0 z1 z2
        rw [hW1, hA]
        clear hW1 hA HP HB c0 c1 c2
        have DA := Lib.hid (do_any HP1.out.drew (by omega) kd who x r0)
        rw [← HE.out] at DA
        go_cut [50] (fun u wr => u = .bool false ∧ Pair wr b pb cap rb sb qb rn cs cq d2 (k + 1) ∧ Below w.heap.size w wr)
        case first =>
          refine wp_region_any (by kernel_rfl) ?_
          change wpAny _ _ _ _ _ _ _ (World.drew _)
          refine wpAny_take (i := 0) (v := ?vn0) rfl (by kernel_rfl) (by kernel_rfl) (by kernel_rfl) (fun _ _ _ h => h) (Or.inl ⟨by rfl, ?hyn0⟩) ?restn0
          case hyn0 => (intro w; go_simp) <;> with_reducible rfl
          simp only [Act.put, List.getElem_toArray, List.getElem_cons_succ, List.getElem_cons_zero, List.setIfInBounds_toArray, List.set_cons_succ, List.set_cons_zero]
          refine wpAny_take (i := 1) (v := ?vn1) rfl (by kernel_rfl) (by kernel_rfl) (by kernel_rfl) (fun _ _ _ h => h) (Or.inl ⟨by rfl, ?hyn1⟩) ?restn1
          case hyn1 => (intro w; go_simp) <;> with_reducible rfl
          simp only [Act.put, List.getElem_toArray, List.getElem_cons_succ, List.getElem_cons_zero, List.setIfInBounds_toArray, List.set_cons_succ, List.set_cons_zero]
          refine wpAny_ready (rs := [2]) (by kernel_rfl) (by simp) ?_
          refine AllReady.cons rfl (fun K hK => ?_) AllReady.nil
          go_simp
          refine hK _ _ ?_
          clear hK K
          try simp only [Act.put, List.getElem_toArray, List.getElem_cons_succ, List.getElem_cons_zero, List.setIfInBounds_toArray, List.set_cons_succ, List.set_cons_zero]
          refine wpAny_ready (rs := [3]) (by kernel_rfl) (by simp) ?_
          refine AllReady.cons rfl (fun K hK => ?_) AllReady.nil
          go_simp
          refine DA.out.mono ?_
          rintro q w3 ⟨rfl, hP3, hF3⟩
          obtain ⟨r, hr, hl⟩ := hP3.rf
          have rc0 := hr.c0
          have rc1 := hr.c1
          rw [hl.top] at rc0
          rw [hl.bottom] at rc1
          have LA := Lib.hid (fun w' (hh : IsDq w' b pb cap d2) => Len_any hh hP3.ok (by omega))
          have q1 := hP3.ok.top
          have q2 := hP3.ok.bottom
          have HPP := Lib.hid hP3
          have HFF := Lib.hid hF3
          clear hP3 hF3 hr hl
          refine hK _ _ ?_
          clear hK K
          try simp only [Act.put, List.getElem_toArray, List.getElem_cons_succ, List.getElem_cons_zero, List.setIfInBounds_toArray, List.set_cons_succ, List.set_cons_zero]
          have hw1 : IntKind.i64.wrap (d2.bottom - d2.top) = d2.bottom - d2.top := IntWalk.i64_in _ (by omega)
          by_cases hm : d2.bottom - d2.top ≤ 0
          · have el : d2.len = 0 := by unfold Dq.len; omega
            rw [el] at LA
            clear el
            refine wpAny_of_held (S := fun w' => w'.cell? ⟨rb, 0, none⟩ = some (.int .i64 d2.top) ∧ w'.cell? ⟨rb, 1, none⟩ = some (.int .i64 d2.bottom)) _ _ _ _ ?_
            have hHeld : w3.cell? ⟨rb, 0, none⟩ = some (.int .i64 d2.top) ∧ w3.cell? ⟨rb, 1, none⟩ = some (.int .i64 d2.bottom) := ⟨rc0, rc1⟩
            refine wpAnyH_take (i := 4) (v := ?vs14) rfl (by kernel_rfl) (by kernel_rfl) (by kernel_rfl) (fun _ _ _ h => h) (Or.inl ⟨by rfl, ?hys14⟩) (by assumption) ?rests14
            case hys14 => (intro w hSw; (try dsimp only at hSw); go_simp) <;> with_reducible rfl
            simp only [Act.put, List.getElem_toArray, List.getElem_cons_succ, List.getElem_cons_zero, List.setIfInBounds_toArray, List.set_cons_succ, List.set_cons_zero]
            refine wpAnyH_take (i := 5) (v := ?vs15) rfl (by kernel_rfl) (by kernel_rfl) (by kernel_rfl) (fun _ _ _ h => h) (Or.inl ⟨by rfl, ?hys15⟩) (by assumption) ?rests15
            case hys15 => (intro w hSw; (try dsimp only at hSw); go_simp) <;> with_reducible rfl
            simp only [Act.put, List.getElem_toArray, List.getElem_cons_succ, List.getElem_cons_zero, List.setIfInBounds_toArray, List.set_cons_succ, List.set_cons_zero]
            refine wpAnyH_take (i := 6) (v := ?vs16) rfl (by kernel_rfl) (by kernel_rfl) (by kernel_rfl) (fun _ _ _ h => h) (Or.inl ⟨by rfl, ?hys16⟩) (by assumption) ?rests16
            case hys16 => (intro w hSw; (try dsimp only at hSw); go_simp) <;> with_reducible rfl
            simp only [Act.put, List.getElem_toArray, List.getElem_cons_succ, List.getElem_cons_zero, List.setIfInBounds_toArray, List.set_cons_succ, List.set_cons_zero]
            refine wpAnyH_take (i := 8) (v := ?vs18) rfl (by kernel_rfl) (by kernel_rfl) (by kernel_rfl) (fun _ _ _ h => h) (Or.inl ⟨by rfl, ?hys18⟩) (by assumption) ?rests18
            case hys18 => (intro w hSw; (try dsimp only at hSw); go_simp) <;> with_reducible rfl
            simp only [Act.put, List.getElem_toArray, List.getElem_cons_succ, List.getElem_cons_zero, List.setIfInBounds_toArray, List.set_cons_succ, List.set_cons_zero]
            refine wpAnyH_take (i := 9) (v := ?vs19) rfl (by kernel_rfl) (by kernel_rfl) (by kernel_rfl) (fun _ _ _ h => h) (Or.inl ⟨by rfl, ?hys19⟩) (by assumption) ?rests19
            case hys19 => (intro w hSw; (try dsimp only at hSw); go_simp) <;> with_reducible rfl
            simp only [Act.put, List.getElem_toArray, List.getElem_cons_succ, List.getElem_cons_zero, List.setIfInBounds_toArray, List.set_cons_succ, List.set_cons_zero]
            refine wpAnyH_take (i := 10) (v := ?vs110) rfl (by kernel_rfl) (by kernel_rfl) (by kernel_rfl) (fun _ _ _ h => h) (Or.inl ⟨by rfl, ?hys110⟩) (by assumption) ?rests110
            case hys110 => (intro w hSw; (try dsimp only at hSw); go_simp) <;> with_reducible rfl
            simp only [Act.put, List.getElem_toArray, List.getElem_cons_succ, List.getElem_cons_zero, List.setIfInBounds_toArray, List.set_cons_succ, List.set_cons_zero]
            refine wpAnyH_take (i := 11) (v := ?vs111) rfl (by kernel_rfl) (by kernel_rfl) (by kernel_rfl) (fun _ _ _ h => h) (Or.inl ⟨by rfl, ?hys111⟩) (by assumption) ?rests111
            case hys111 => (intro w hSw; (try dsimp only at hSw); go_simp) <;> with_reducible rfl
            simp only [Act.put, List.getElem_toArray, List.getElem_cons_succ, List.getElem_cons_zero, List.setIfInBounds_toArray, List.set_cons_succ, List.set_cons_zero]
            refine wpAnyH_take (i := 12) (v := ?vs112) rfl (by kernel_rfl) (by kernel_rfl) (by kernel_rfl) (fun _ _ _ h => h) (Or.inl ⟨by rfl, ?hys112⟩) (by assumption) ?rests112
            case hys112 => (intro w hSw; (try dsimp only at hSw); go_simp) <;> with_reducible rfl
            simp only [Act.put, List.getElem_toArray, List.getElem_cons_succ, List.getElem_cons_zero, List.setIfInBounds_toArray, List.set_cons_succ, List.set_cons_zero]
            refine wpAnyH_take (i := 13) (v := ?vs113) rfl (by kernel_rfl) (by kernel_rfl) (by kernel_rfl) (fun _ _ _ h => h) (Or.inl ⟨by rfl, ?hys113⟩) (by assumption) ?rests113
            case hys113 => (intro w hSw; (try dsimp only at hSw); go_simp) <;> with_reducible rfl
            simp only [Act.put, List.getElem_toArray, List.getElem_cons_succ, List.getElem_cons_zero, List.setIfInBounds_toArray, List.set_cons_succ, List.set_cons_zero]
            refine wpAnyH_take (i := 14) (v := ?vs114) rfl (by kernel_rfl) (by kernel_rfl) (by kernel_rfl) (fun _ _ _ h => h) (Or.inl ⟨by rfl, ?hys114⟩) (by assumption) ?rests114
            case hys114 => (intro w hSw; (try dsimp only at hSw); go_simp) <;> with_reducible rfl
            simp only [Act.put, List.getElem_toArray, List.getElem_cons_succ, List.getElem_cons_zero, List.setIfInBounds_toArray, List.set_cons_succ, List.set_cons_zero]
            refine wpAnyH_take (i := 15) (v := ?vs115) rfl (by kernel_rfl) (by kernel_rfl) (by kernel_rfl) (fun _ _ _ h => h) (Or.inl ⟨by rfl, ?hys115⟩) (by assumption) ?rests115
            case hys115 => (intro w hSw; (try dsimp only at hSw); go_simp) <;> with_reducible rfl
            simp only [Act.put, List.getElem_toArray, List.getElem_cons_succ, List.getElem_cons_zero, List.setIfInBounds_toArray, List.set_cons_succ, List.set_cons_zero]
            refine wpAnyH_take (i := 16) (v := ?vs116) rfl (by kernel_rfl) (by kernel_rfl) (by kernel_rfl) (fun _ _ _ h => h) (Or.inl ⟨by rfl, ?hys116⟩) (by assumption) ?rests116
            case hys116 => (intro w hSw; (try dsimp only at hSw); go_simp) <;> with_reducible rfl
            simp only [Act.put, List.getElem_toArray, List.getElem_cons_succ, List.getElem_cons_zero, List.setIfInBounds_toArray, List.set_cons_succ, List.set_cons_zero]
            refine wpAnyH_take (i := 17) (v := ?vs117) rfl (by kernel_rfl) (by kernel_rfl) (by kernel_rfl) (fun _ _ _ h => h) (Or.inl ⟨by rfl, ?hys117⟩) (by assumption) ?rests117
            case hys117 => (intro w hSw; (try dsimp only at hSw); go_simp) <;> with_reducible rfl
            simp only [Act.put, List.getElem_toArray, List.getElem_cons_succ, List.getElem_cons_zero, List.setIfInBounds_toArray, List.set_cons_succ, List.set_cons_zero]
            refine wpAnyH_ready (rs := [7]) (by kernel_rfl) (by simp) ?_
            refine AllReadyH.cons rfl (fun K hK => ?_) AllReadyH.nil
            go_simp
            refine (LA.out _ HPP.out.dq).mono ?_
            rintro q w' ⟨rfl, kk, rfl⟩
            refine hK.out _ _ ⟨rc0, rc1⟩ (fun hHeld => ?_)
            clear hK K
            try simp only [Act.put, List.getElem_toArray, List.getElem_cons_succ, List.getElem_cons_zero, List.setIfInBounds_toArray, List.set_cons_succ, List.set_cons_zero]
            refine wpAnyH_take (i := 18) (v := ?vs1z18) rfl (by kernel_rfl) (by kernel_rfl) (by kernel_rfl) (fun _ _ _ h => h) (Or.inl ⟨by rfl, ?hys1z18⟩) (by assumption) ?rests1z18
            case hys1z18 => (intro w hSw; (try dsimp only at hSw); go_simp) <;> with_reducible rfl
            simp only [Act.put, List.getElem_toArray, List.getElem_cons_succ, List.getElem_cons_zero, List.setIfInBounds_toArray, List.set_cons_succ, List.set_cons_zero]
            refine wpAnyH_take (i := 19) (v := ?vs1z19) rfl (by kernel_rfl) (by kernel_rfl) (by kernel_rfl) (fun _ _ _ h => h) (Or.inl ⟨by rfl, ?hys1z19⟩) (by assumption) ?rests1z19
            case hys1z19 => (intro w hSw; (try dsimp only at hSw); go_simp) <;> with_reducible rfl
            simp only [Act.put, List.getElem_toArray, List.getElem_cons_succ, List.getElem_cons_zero, List.setIfInBounds_toArray, List.set_cons_succ, List.set_cons_zero]
            refine wpAnyH_done (by kernel_rfl) ?_ _
            go_wp2_with fail
            all_goals
              go_meet
              case rel => exact ⟨by simp; try omega, HPP.out.drewN _, Below.drewN (HB1.out.drew.trans (HFF.out.below HB1.out.drew.size HLow.out)) _⟩
          · have el : d2.len = d2.bottom - d2.top := by unfold Dq.len; omega
            rw [el] at LA
            clear el
            refine wpAny_of_held (S := fun w' => w'.cell? ⟨rb, 0, none⟩ = some (.int .i64 d2.top) ∧ w'.cell? ⟨rb, 1, none⟩ = some (.int .i64 d2.bottom)) _ _ _ _ ?_
            have hHeld : w3.cell? ⟨rb, 0, none⟩ = some (.int .i64 d2.top) ∧ w3.cell? ⟨rb, 1, none⟩ = some (.int .i64 d2.bottom) := ⟨rc0, rc1⟩
            refine wpAnyH_take (i := 4) (v := ?vs24) rfl (by kernel_rfl) (by kernel_rfl) (by kernel_rfl) (fun _ _ _ h => h) (Or.inl ⟨by rfl, ?hys24⟩) (by assumption) ?rests24
            case hys24 => (intro w hSw; (try dsimp only at hSw); go_simp) <;> with_reducible rfl
            simp only [Act.put, List.getElem_toArray, List.getElem_cons_succ, List.getElem_cons_zero, List.setIfInBounds_toArray, List.set_cons_succ, List.set_cons_zero]
            refine wpAnyH_take (i := 5) (v := ?vs25) rfl (by kernel_rfl) (by kernel_rfl) (by kernel_rfl) (fun _ _ _ h => h) (Or.inl ⟨by rfl, ?hys25⟩) (by assumption) ?rests25
            case hys25 => (intro w hSw; (try dsimp only at hSw); go_simp) <;> with_reducible rfl
            simp only [Act.put, List.getElem_toArray, List.getElem_cons_succ, List.getElem_cons_zero, List.setIfInBounds_toArray, List.set_cons_succ, List.set_cons_zero]
            refine wpAnyH_take (i := 6) (v := ?vs26) rfl (by kernel_rfl) (by kernel_rfl) (by kernel_rfl) (fun _ _ _ h => h) (Or.inl ⟨by rfl, ?hys26⟩) (by assumption) ?rests26
            case hys26 => (intro w hSw; (try dsimp only at hSw); go_simp) <;> with_reducible rfl
            simp only [Act.put, List.getElem_toArray, List.getElem_cons_succ, List.getElem_cons_zero, List.setIfInBounds_toArray, List.set_cons_succ, List.set_cons_zero]
            refine wpAnyH_take (i := 8) (v := ?vs28) rfl (by kernel_rfl) (by kernel_rfl) (by kernel_rfl) (fun _ _ _ h => h) (Or.inl ⟨by rfl, ?hys28⟩) (by assumption) ?rests28
            case hys28 => (intro w hSw; (try dsimp only at hSw); go_simp) <;> with_reducible rfl
            simp only [Act.put, List.getElem_toArray, List.getElem_cons_succ, List.getElem_cons_zero, List.setIfInBounds_toArray, List.set_cons_succ, List.set_cons_zero]
            refine wpAnyH_take (i := 9) (v := ?vs29) rfl (by kernel_rfl) (by kernel_rfl) (by kernel_rfl) (fun _ _ _ h => h) (Or.inl ⟨by rfl, ?hys29⟩) (by assumption) ?rests29
            case hys29 => (intro w hSw; (try dsimp only at hSw); go_simp) <;> with_reducible rfl
            simp only [Act.put, List.getElem_toArray, List.getElem_cons_succ, List.getElem_cons_zero, List.setIfInBounds_toArray, List.set_cons_succ, List.set_cons_zero]
            refine wpAnyH_take (i := 10) (v := ?vs210) rfl (by kernel_rfl) (by kernel_rfl) (by kernel_rfl) (fun _ _ _ h => h) (Or.inl ⟨by rfl, ?hys210⟩) (by assumption) ?rests210
            case hys210 => (intro w hSw; (try dsimp only at hSw); go_simp) <;> with_reducible rfl
            simp only [Act.put, List.getElem_toArray, List.getElem_cons_succ, List.getElem_cons_zero, List.setIfInBounds_toArray, List.set_cons_succ, List.set_cons_zero]
            refine wpAnyH_take (i := 11) (v := ?vs211) rfl (by kernel_rfl) (by kernel_rfl) (by kernel_rfl) (fun _ _ _ h => h) (Or.inl ⟨by rfl, ?hys211⟩) (by assumption) ?rests211
            case hys211 => (intro w hSw; (try dsimp only at hSw); go_simp) <;> with_reducible rfl
            simp only [Act.put, List.getElem_toArray, List.getElem_cons_succ, List.getElem_cons_zero, List.setIfInBounds_toArray, List.set_cons_succ, List.set_cons_zero]
            refine wpAnyH_take (i := 12) (v := ?vs212) rfl (by kernel_rfl) (by kernel_rfl) (by kernel_rfl) (fun _ _ _ h => h) (Or.inl ⟨by rfl, ?hys212⟩) (by assumption) ?rests212
            case hys212 => (intro w hSw; (try dsimp only at hSw); go_simp) <;> with_reducible rfl
            simp only [Act.put, List.getElem_toArray, List.getElem_cons_succ, List.getElem_cons_zero, List.setIfInBounds_toArray, List.set_cons_succ, List.set_cons_zero]
            refine wpAnyH_take (i := 13) (v := ?vs213) rfl (by kernel_rfl) (by kernel_rfl) (by kernel_rfl) (fun _ _ _ h => h) (Or.inl ⟨by rfl, ?hys213⟩) (by assumption) ?rests213
            case hys213 => (intro w hSw; (try dsimp only at hSw); go_simp) <;> with_reducible rfl
            simp only [Act.put, List.getElem_toArray, List.getElem_cons_succ, List.getElem_cons_zero, List.setIfInBounds_toArray, List.set_cons_succ, List.set_cons_zero]
            refine wpAnyH_take (i := 14) (v := ?vs214) rfl (by kernel_rfl) (by kernel_rfl) (by kernel_rfl) (fun _ _ _ h => h) (Or.inl ⟨by rfl, ?hys214⟩) (by assumption) ?rests214
            case hys214 => (intro w hSw; (try dsimp only at hSw); go_simp) <;> with_reducible rfl
            simp only [Act.put, List.getElem_toArray, List.getElem_cons_succ, List.getElem_cons_zero, List.setIfInBounds_toArray, List.set_cons_succ, List.set_cons_zero]
            refine wpAnyH_take (i := 15) (v := ?vs215) rfl (by kernel_rfl) (by kernel_rfl) (by kernel_rfl) (fun _ _ _ h => h) (Or.inl ⟨by rfl, ?hys215⟩) (by assumption) ?rests215
            case hys215 => (intro w hSw; (try dsimp only at hSw); go_simp) <;> with_reducible rfl
            simp only [Act.put, List.getElem_toArray, List.getElem_cons_succ, List.getElem_cons_zero, List.setIfInBounds_toArray, List.set_cons_succ, List.set_cons_zero]
            refine wpAnyH_take (i := 16) (v := ?vs216) rfl (by kernel_rfl) (by kernel_rfl) (by kernel_rfl) (fun _ _ _ h => h) (Or.inl ⟨by rfl, ?hys216⟩) (by assumption) ?rests216
            case hys216 => (intro w hSw; (try dsimp only at hSw); go_simp) <;> with_reducible rfl
            simp only [Act.put, List.getElem_toArray, List.getElem_cons_succ, List.getElem_cons_zero, List.setIfInBounds_toArray, List.set_cons_succ, List.set_cons_zero]
            refine wpAnyH_take (i := 17) (v := ?vs217) rfl (by kernel_rfl) (by kernel_rfl) (by kernel_rfl) (fun _ _ _ h => h) (Or.inl ⟨by rfl, ?hys217⟩) (by assumption) ?rests217
            case hys217 => (intro w hSw; (try dsimp only at hSw); go_simp) <;> with_reducible rfl
            simp only [Act.put, List.getElem_toArray, List.getElem_cons_succ, List.getElem_cons_zero, List.setIfInBounds_toArray, List.set_cons_succ, List.set_cons_zero]
            refine wpAnyH_ready (rs := [7]) (by kernel_rfl) (by simp) ?_
            refine AllReadyH.cons rfl (fun K hK => ?_) AllReadyH.nil
            go_simp
            refine (LA.out _ HPP.out.dq).mono ?_
            rintro q w' ⟨rfl, kk, rfl⟩
            refine hK.out _ _ ⟨rc0, rc1⟩ (fun hHeld => ?_)
            clear hK K
            try simp only [Act.put, List.getElem_toArray, List.getElem_cons_succ, List.getElem_cons_zero, List.setIfInBounds_toArray, List.set_cons_succ, List.set_cons_zero]
            refine wpAnyH_take (i := 18) (v := ?vs2z18) rfl (by kernel_rfl) (by kernel_rfl) (by kernel_rfl) (fun _ _ _ h => h) (Or.inl ⟨by rfl, ?hys2z18⟩) (by assumption) ?rests2z18
            case hys2z18 => (intro w hSw; (try dsimp only at hSw); go_simp) <;> with_reducible rfl
            simp only [Act.put, List.getElem_toArray, List.getElem_cons_succ, List.getElem_cons_zero, List.setIfInBounds_toArray, List.set_cons_succ, List.set_cons_zero]
            refine wpAnyH_take (i := 19) (v := ?vs2z19) rfl (by kernel_rfl) (by kernel_rfl) (by kernel_rfl) (fun _ _ _ h => h) (Or.inl ⟨by rfl, ?hys2z19⟩) (by assumption) ?rests2z19
            case hys2z19 => (intro w hSw; (try dsimp only at hSw); go_simp) <;> with_reducible rfl
            simp only [Act.put, List.getElem_toArray, List.getElem_cons_succ, List.getElem_cons_zero, List.setIfInBounds_toArray, List.set_cons_succ, List.set_cons_zero]
            refine wpAnyH_done (by kernel_rfl) ?_ _
            go_wp2_with fail
            all_goals
              go_meet
              case rel => exact ⟨by simp; try omega, HPP.out.drewN _, Below.drewN (HB1.out.drew.trans (HFF.out.below HB1.out.drew.size HLow.out)) _⟩
        case rest =>
          obtain ⟨rfl, hP, hB⟩ := hcut
          obtain ⟨r, hr, hl⟩ := hP.rf
          have rc4 := hr.c4
          have hn9 := hP.ok.n
          have hnr : r.n = d2.n := hl.n
          rw [hnr] at rc4
          have BA := Lib.hid (fun y => Busy_any hP.dq hn9.2 y)
          have HCQ := Lib.hid (fun (i : Nat) (hi : i < d2.n) => show wc.cell? ⟨qb, i * 6, none⟩ = some (.int .i64 (d2.ps i).call) from by
            have := (hr.party (i := i) (by omega)).1
            rw [(hl.ps i).call] at this
            exact this)
          have HP := Lib.hid hP
          have HB := Lib.hid hB
          clear hP hB hr hl hnr
          obtain ⟨wo, rfl⟩ : ∃ wo : World, wo = wc := ⟨_, rfl⟩
          go_wp2_with fail
          go_loop [11] (fun u => ∃ y : Int, -1 ≤ y ∧ y ≤ (d2.n : Int) + 1 ∧ u = .int .i64 y) (fun u => ((d2.n : Int) + 1 - intOf u).toNat)
          case atStart => exact ⟨-1, by omega, by omega, rfl⟩
          case round =>
            obtain ⟨y, hy1, hy2, rfl⟩ := hrel
            by_cases hle : y ≤ d2.n
            · have HY := Lib.hid (BA.out y)
              by_cases hy0 : 0 ≤ y ∧ y < d2.n
              · obtain ⟨i, rfl⟩ := Int.eq_ofNat_of_zero_le hy0.1
                have hi : i < d2.n := by omega
                have hc := HCQ.out i hi
                have eb : d2.busy i = ((d2.ps i).call != 0) := by
                  unfold Dq.busy
                  rw [Dq.has_iff.2 ⟨by omega, by omega⟩, Bool.true_and, Int.toNat_natCast]
                rw [eb] at HY
                generalize (d2.ps i).call = cl at *
                clear eb hy0
                by_cases hcl : cl = 0
                all_goals
                  first | (have ec : (cl != 0) = false := by simp [hcl]) | (have ec : (cl != 0) = true := by simpa using hcl)
                  rw [ec] at HY
                  have HCL := Lib.hid hcl
                  clear hcl
                  go_wp2_with fail
                  refine HY.out.mono ?_
                  rintro q w' ⟨rfl, rfl⟩
                  go_wp2_with fail
                  go_round
                  case rel => exact ⟨(i : Int) + 1, by omega, by omega, by go_num⟩
                  case measure => simp [intOf]; omega
              · have eb : d2.busy y = false := by
                  unfold Dq.busy
                  cases hh : d2.has y with
                  | false => rfl
                  | true => exact absurd (Dq.has_iff.1 hh) hy0
                rw [eb] at HY
                clear eb
                have hy4 : y < 0 ∨ (d2.n : Int) ≤ y := by omega
                clear hy0
                rcases hy4 with hy4 | hy4
                all_goals
                  go_wp2_with fail
                  refine HY.out.mono ?_
                  rintro q w' ⟨rfl, rfl⟩
                  go_wp2_with fail
                  go_round
                  case rel => exact ⟨y + 1, by omega, by omega, by go_num⟩
                  case measure => simp [intOf]; omega
            · go_wp2_with fail
              go_roundw
              case rel => exact ⟨k + 1, by omega, by go_num, by rw [HD2.out]; exact HP.out, HB.out⟩
              case measure => simp [intOf]; omega
      · obtain rfl : k = m := by omega
        have HB := Lib.hid hB
        have hs := hB.size
        clear hP hB
        go_wp2_with (go_at_call 11; refine (lives_any _).mono ?_; rintro r w4 ⟨rfl, hb4⟩)
        go_ret
        exact ⟨rfl, HB.out.trans (hb4.mono hs)⟩
end Go.Proofs.Ytnjondphbfniaaa
