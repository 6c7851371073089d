/- A part of the proof of McsAlone: the walk of the law. No condition. -/
import Derived.Test.YthhcmilijiccmaaE
import Derived.Test.YthhcmilijiccmaaF
import Derived.Deep.CutBlock
import Derived.Deep.DeepCutAuto
import Derived.Deep.OwnRows
import Derived.Test.YthhcmilijiccmaaO
import Derived.Test.YthhcmilijiccmaaA
import Derived.Test.YthhcmilijiccmaaX
namespace Go.Proofs.Ythhcmilijiccmaa
open Go.RowKit Go.Deep

/-- The row's elements. -/
def ints (l : List Nat) : List Value := l.map fun (i : Nat) => Value.int .i64 i

/-- What stands at the head of the law's loop (xs: the row's elements). -/
structure AtA (w0 wr : World) (b tb : Nat) (L : Lock) (Q : List Nat) (tk : Nat → Int) (v : Value) (xs : List Nat) (k : Nat) : Prop where
  lock : IsLock wr b L
  ok : L.Ok
  inv : Inv L Q
  row : wr.qRow (tb + 1) 3 v (ints xs)
  taken : Blk wr tb 3 16 (fun o => .int .i64 (tk o))
  lo : ∀ i, 0 ≤ tk i ∧ tk i ≤ k
  below : Below w0.heap.size w0 wr
  hb : w0.heap.size ≤ b ∧ b < tb

section
variable {w0 wr wr' : World} {b tb : Nat} {L L' : Lock} {Q Q' : List Nat} {tk tk' : Nat → Int} {v : Value} {xs : List Nat} {k k' : Nat}

theorem AtA.alloc (h : AtA w0 wr b tb L Q tk v xs k) (o : Obj) : AtA w0 (wr.alloc o) b tb L Q tk v xs k :=
  ⟨Blk.alloc h.lock o, h.ok, h.inv, h.row.of_heap fun j hj => Below.heap_alloc _ _ _ (h.row.lt j hj).2, Blk.alloc h.taken o, h.lo, h.below.alloc h.below.size o, h.hb⟩

theorem AtA.mono (h : AtA w0 wr b tb L Q tk v xs k) (hk : k ≤ k') : AtA w0 wr b tb L Q tk v xs k' :=
  ⟨h.lock, h.ok, h.inv, h.row, h.taken, fun i => ⟨(h.lo i).1, by have := (h.lo i).2; omega⟩, h.below, h.hb⟩

/-- The lock has changed. -/
theorem AtA.turn (h : AtA w0 wr b tb L Q tk v xs k) (hL : IsLock wr' b L') (hF : Frm (Only b) wr wr') (ok : L'.Ok) (inv : Inv L' Q') : AtA w0 wr' b tb L' Q' tk v xs k :=
  ⟨hL, ok, inv, h.row.of_heap fun j hj => hF.block j (h.row.lt j hj).2 (by have := (h.row.lt j hj).1; have := h.hb; unfold Only; omega),
    hF.blk h.taken (by have := h.hb; unfold Only; omega), h.lo, h.below.trans (hF.below h.below.size (fun j hj => by have := h.hb; unfold Only; omega)), h.hb⟩

theorem AtA.own (h : AtA w0 wr b tb L Q tk v xs k) (i : Nat) (x : Int) (hx : 0 ≤ x ∧ x ≤ k) : AtA w0 (wr.setCell ⟨tb, i, none⟩ (.int .i64 x)) b tb L Q (put1 tk i x) v xs k := by
  refine ⟨Blk.other h.lock (by have := h.hb; omega) _ _, h.ok, h.inv, h.row.of_heap fun j hj => Below.heap_setCell _ _ _ _ (by have := (h.row.lt j hj).1; simp only []; omega), ?_, fun j => ?_, h.below.setCell (by have := h.hb; simp only []; omega) _, h.hb⟩
  · refine (Blk.set h.taken i _).congr fun o _ => ?_
    unfold upd put1
    split <;> rfl
  · unfold put1
    split
    · exact hx
    · exact h.lo j

/-- The row has grown, or moved. -/
theorem AtA.grow (h : AtA w0 wr b tb L Q tk v xs k) {v' : Value} {ys : List Nat} (hg : wr.grownBy wr' v.ownBlock) (hq : wr'.qRow (tb + 1) 3 v' (ints ys)) : AtA w0 wr' b tb L Q tk v' ys k := by
  have ht := Blk.lt h.taken
  have hbb := h.hb
  have hf : ∀ j, j ≤ tb → some j ≠ v.ownBlock := fun j hj e => by have := (h.row.lt j e.symm).1; omega
  refine ⟨Blk.of_heap h.lock (hg.block b (by omega) (hf b (by omega))), h.ok, h.inv, hq, Blk.of_heap h.taken (hg.block tb ht (hf tb (Nat.le_refl _))), h.lo, ?_, h.hb⟩
  exact h.below.trans ⟨hg.os, hg.tape, hg.output, hg.size, fun j hj => hg.block j (by have := h.below.size; omega) (hf j (by omega))⟩
end

theorem blk_made' {w : World} {b : Nat} {z : Value} {n : Nat} {t : TypeId} (h : w.heap[b]? = some (.cells (madeCells #[z] n) t)) : Blk w b t n (fun _ => z) :=
  ⟨_, h, by rw [size_madeCells]; omega, fun i hi => by simp [madeCells, hi, Nat.mod_one]⟩

theorem ints_append (l : List Nat) (i : Nat) : ints (l ++ [i]) = ints l ++ [.int .i64 i] := by simp [ints]

theorem Try.info3a : (Try.prog.info? 3).map (fun i => (i.zero, i.size, i.bytes)) = some (some (.int .i64 0), 1, 8) := by kernel_rfl

set_option maxRecDepth 100000 in
set_option maxHeartbeats 4000000 in
theorem alone_any (n : Int) (a : Option Addr) (len cap : Nat) (e : Nat → Opn) (w : World) (h0 : -9223372036854775808 ≤ n) (h1 : n ≤ 9223372036854775807) (ha : SlOk a len cap) (hI : RawO w a len e) :
    Calls Try.prog 3 #[.int .i64 n, .slice a len cap] w fun r w' => r = .returned (.bool true) ∧ Below w.heap.size w w' := by
  have HI := Lib.hid hI
  clear hI
  have k1 : ∀ w, (Instr.makeSlice 25 (.int .i64 16) (.int .i64 16)).run Try.prog w = .ok (.slice (some ⟨w.heap.size, 0, none⟩) 16 16) (w.alloc (.cells (madeCells #[.int .i64 0] 16) 3)) :=
    fun w => run_make_row' (P := Try.prog) 25 3 (.int .i64 0) 8 Try.underlying25 Try.info3a rfl .i64 .i64 16 (by omega) (by omega) w
  go_enter Try.func3, Try.ntmps3
  go_upto_region 1 with fail
  go_cut [1] (fun u1 wr => ∃ (m cap' : Nat), u1 = .slice a m cap' ∧ m ≤ len ∧ m ≤ 300 ∧ w = wr)
  case first =>
    rcases ha with ⟨rfl, rfl, rfl⟩ | ⟨x, rfl, hcap, hm⟩
    · go_wp2_with fail
      go_meet
      case rel => exact ⟨0, _, rfl, by omega, by omega, rfl⟩
    · by_cases h2 : (300 : Int) < len
      all_goals
        go_wp2_with fail
        all_goals
          go_meet
          case rel => exact ⟨_, _, rfl, by omega, by omega, rfl⟩
  case rest =>
    obtain ⟨m, cap', rfl, hm, hm2, rfl⟩ := hcut
    have HO := Lib.hid (HI.out.take hm)
    clear HI ha
    go_wp2_with fail
    refine (New_any n _ h0 h1).mono ?_
    rintro r w1 ⟨b, rfl, hb, hL, hB1⟩
    have hs1 := hB1.size
    have HL := Lib.hid hL
    have HB1 := Lib.hid hB1
    clear hL hB1
    go_wp2_with fail
    obtain ⟨T, hT⟩ : ∃ T, w1.heap.size = T := ⟨_, rfl⟩
    rw [hT]
    go_loopw [7, 24] (fun v i wr => ∃ (k : Nat) (L : Lock) (Q : List Nat) (tk : Nat → Int), k ≤ m ∧ i = .int .i64 k ∧ AtA w wr b T L Q tk v (rowOf L Q) k ∧ TkOk L tk) (fun _ i _ => m - (intOf i).toNat)
    case atStart =>
      have hbl := Blk.lt HL.out
      subst hT
      refine ⟨0, _, [], fun _ => 0, Nat.zero_le _, rfl, ⟨Blk.alloc HL.out _, Lock.Ok.fresh n, Inv.fresh n, World.qRow_nil _ _ _, ?_, fun i => by omega, HB1.out.alloc hs1 _, hb, hbl⟩, fun i _ h => by simp [Lock.fresh] at h⟩
      exact blk_made' (heap_alloc_new w1 _)
    case round =>
      obtain ⟨k, L, Q, tk, hk, rfl, hA, htk⟩ := hrel
      by_cases hlt : k < m
      · rcases HO.out with h0 | ⟨ob, off, rfl, hob, hoc, hor⟩
        · omega
        obtain ⟨c0, c1⟩ := (hoc.below hob hA.below) k hlt
        obtain ⟨r0, r1⟩ := hor k hlt
        have hbl : ob < wr.heap.size := by have := hA.below.size; omega
        clear hoc hor
        go_upto_block 2 with fail
        generalize (e k).kind = kd at *
        generalize (e k).who = who at *
        obtain ⟨wo, rfl⟩ : ∃ wo : World, wo = wr := ⟨_, rfl⟩
        obtain ⟨W1, hW1⟩ : ∃ W1, wo.alloc (.cells #[.int .u64 kd, .int .i64 who] 28) = W1 := ⟨_, rfl⟩
        obtain ⟨V, hV⟩ : ∃ V, u7 = V := ⟨_, rfl⟩
        rw [hV] at hA
        have HA := Lib.hid (show AtA w W1 b T L Q tk V (rowOf L Q) k by rw [← hW1]; exact hA.alloc _)
        have hn := hA.ok.n
        have HTK := Lib.hid htk
        rw [hW1, hV]
        clear hW1 hA htk hV c0 c1 hbl
        go_cut [7] (fun s7 wr => ∃ (L : Lock) (Q : List Nat) (tk : Nat → Int), AtA w wr b T L Q tk s7 (rowOf L Q) (k + 1) ∧ TkOk L tk)
        case first =>
          by_cases k0 : kd % 6 = 0
          · have k0' : (kd % 6 == 0) = true := by simp [k0]
            have HK0 := Lib.hid k0
            clear k0
            have HT := Lib.hid (Take_any b L who _ HA.out.lock HA.out.ok)
            cases hh : L.has who with
            | false =>
              have e1 : (L.call who 0) = (1, L) := by simp [Lock.call, hh]
              rw [e1] at HT
              have HH := Lib.hid hh
              clear hh e1
              go_wp2_with fail
              refine HT.out.mono ?_
              rintro r w1' ⟨rfl, hL', hF⟩
              have HX := Lib.hid (HA.out.turn hL' hF HA.out.ok HA.out.inv)
              clear hL' hF
              go_wp2_with fail
              go_meet
              case rel => exact ⟨L, Q, tk, HX.out.mono (by omega), HTK.out⟩
            | true =>
              obtain ⟨g0, g1⟩ := Lock.has_iff.1 hh
              obtain ⟨i, rfl⟩ := Int.eq_ofNat_of_zero_le g0
              by_cases hs : (L.ps i).state = 0
              · have e1 : (L.call i 0) = (0, L.put i 1) := by simp [Lock.call, hh, hs]
                have hi : i < L.n := by omega
                have hc := HA.out.inv.call i 0 (.inl rfl)
                rw [e1] at HT hc
                have hc1 := hc.1
                have HR := Lib.hid hc.2
                have HI1 := Lib.hid hc1
                have HO1 := Lib.hid (HA.out.ok.put i (t := 1) (.inl rfl))
                have HTK2 := Lib.hid (HTK.out.takes hi hs)
                have HH := Lib.hid hh
                have HS := Lib.hid hs
                clear hh e1 hc hc1 hs
                have hi16 : (i : Int) < 16 := by omega
                go_wp2_with fail
                refine HT.out.mono ?_
                rintro r w1' ⟨rfl, hL', hF⟩
                have HX := Lib.hid ((HA.out.turn hL' hF HO1.out HI1.out).own i 0 (by omega))
                have c3 : w1'.cell? ⟨T, i, none⟩ = some (.int .i64 (tk i)) := (hF.blk HA.out.taken (by have := HA.out.hb; unfold Only; omega)).cell (by omega)
                have f3 : w1'.frozen? ⟨T, i, none⟩ = false := (hF.blk HA.out.taken (by have := HA.out.hb; unfold Only; omega)).frozen i
                clear hL' hF
                go_wp2_with fail
                go_meet
                case rel => exact ⟨_, Q, _, by rw [HR.out]; exact HX.out.mono (by omega), HTK2.out⟩
              · have e1 : (L.call i 0) = (5, L) := by simp [Lock.call, hh, hs]
                rw [e1] at HT
                have HH := Lib.hid hh
                have HS := Lib.hid hs
                clear hh e1 hs
                go_wp2_with fail
                refine HT.out.mono ?_
                rintro r w1' ⟨rfl, hL', hF⟩
                have HX := Lib.hid (HA.out.turn hL' hF HA.out.ok HA.out.inv)
                clear hL' hF
                go_wp2_with fail
                go_meet
                case rel => exact ⟨L, Q, tk, HX.out.mono (by omega), HTK.out⟩
          by_cases k1 : kd % 6 = 1
          · have k0' : (kd % 6 == 0) = false := by simpa using k0
            have k1' : (kd % 6 == 1) = true := by simp [k1]
            have HK0 := Lib.hid k0
            have HK1 := Lib.hid k1
            clear k0 k1
            go_wp2_with fail
            refine (Give_any b L who _ HA.out.lock HA.out.ok).mono ?_
            rintro r w1' ⟨rfl, hL', hF⟩
            have hc := HA.out.inv.call who 2 (.inr rfl)
            have HX := Lib.hid (HA.out.turn hL' hF (HA.out.ok.call who (.inr rfl)) hc.1)
            have HR := Lib.hid hc.2
            clear hL' hF hc
            go_wp2_with fail
            go_meet
            case rel => exact ⟨_, Q, tk, by rw [HR.out]; exact HX.out.mono (by omega), HTK.out.gives who⟩
          · have k0' : (kd % 6 == 0) = false := by simpa using k0
            have k1' : (kd % 6 == 1) = false := by simpa using k1
            have HK0 := Lib.hid k0
            have HK1 := Lib.hid k1
            clear k0 k1
            by_cases hw1 : L.stateOf who = 1
            · obtain ⟨i, rfl, hi, hs, hh⟩ := stateOf_one hw1
              have hi16 : (i : Int) < 16 := by omega
              have hlo := HA.out.lo i
              have HST := Lib.hid (State_any b L i W1 HA.out.lock HA.out.ok)
              rw [hw1] at HST
              have HSP := Lib.hid (Step_any b L i W1 HA.out.lock HA.out.ok)
              rw [take_states HA.out.ok hi hs] at HSP
              obtain ⟨Q', hI', hrow⟩ := HA.out.inv.take HA.out.ok hi hs
              have h3 := HTK.out.three HA.out.ok hi hs
              have HTK2 := Lib.hid (HTK.out.take HA.out.ok hs hi)
              have HO2 := Lib.hid (HA.out.ok.take i hi hs)
              have hi' : i < (L.take i).n := by rw [take_n]; exact hi
              have HI2 := Lib.hid hI'
              have HS2 := Lib.hid (stateOf_has hi')
              generalize L.take i = L' at *
              have HR := Lib.hid hrow
              generalize hst' : (L'.ps i).state = st at *
              have HST2 := Lib.hid hst'
              have H3 := Lib.hid h3
              clear hI' hrow h3 hw1 hh hst'
              go_wp2_with fail
              refine HST.out.mono ?_
              rintro r w' ⟨rfl, rfl⟩
              go_wp2_with fail
              refine HSP.out.mono ?_
              rintro r w2 ⟨rfl, hL', hF⟩
              have HX := Lib.hid ((HA.out.turn hL' hF HO2.out HI2.out).mono (k' := k + 1) (by omega))
              have c3 : w2.cell? ⟨T, i, none⟩ = some (.int .i64 (tk i)) := HX.out.taken.cell (by omega)
              have f3 : w2.frozen? ⟨T, i, none⟩ = false := HX.out.taken.frozen i
              clear hL' hF
              go_upto_if 59 with fail
              obtain ⟨W3, hW3⟩ : ∃ W3, w2.setCell ⟨T, i, none⟩ (.int .i64 (tk i + 1)) = W3 := ⟨_, rfl⟩
              have HX3 := Lib.hid (show AtA w W3 b T L' Q' (put1 tk i (tk i + 1)) V (rowOf L Q) (k + 1) by rw [← hW3]; exact HX.out.own i _ (by omega))
              have HQ := Lib.hid (Nat.le_trans (rowOf_len L Q) HA.out.inv.len)
              rw [hW3]
              clear hW3 c3 f3 HX
              go_cut [7] (fun s7 wr => AtA w wr b T L' Q' (put1 tk i (tk i + 1)) s7 (if (L.ps i).step = 3 then rowOf L Q ++ [i] else rowOf L Q) (k + 1))
              case first =>
                by_cases hs3 : (L.ps i).step = 3
                · have e3 : tk i + 1 = 3 := H3.out.2 hs3
                  obtain ⟨i0, hi0, hz0, hz1, hz2⟩ := info_parts Try.info3a
                  have hq := HX3.out.row
                  have hql : (ints (rowOf L Q)).length ≤ 16 := by have := HQ.out; simp only [ints, List.length_map]; omega
                  have hWT : T + 1 ≤ W3.heap.size := HX3.out.taken.lt
                  rw [e3]
                  have HS3 := Lib.hid hs3
                  clear hs3
                  go_wp2_with (at_builtin; refine wpList_append_q _ rfl _ _ 25 rfl (T + 1) 3 i0 (.int .i64 0) 8 Try.underlying25 hi0 hz0 hz1 hz2 rfl V (ints (rowOf L Q)) rfl (hq.of_heap fun j hj => Below.heap_alloc _ _ _ (hq.lt j hj).2) ⟨W3.heap.size, 0, none⟩ 1 (.int .i64 i) rfl (by simp) (by simp [Value.oneCell']) (by simp only [maxLen]; omega) (by omega) (by simp; omega) ?_; intro v' w5 hown' hgrow _)
                  go_meet
                  case rel => rw [if_pos HS3.out]; exact (HX3.out.alloc _).grow hgrow (by rw [ints_append]; exact hown')
                · have e3 : ¬ tk i + 1 = 3 := fun e => hs3 (H3.out.1 e)
                  have e3' : (tk i + 1 == 3) = false := by simpa using e3
                  have HS3 := Lib.hid hs3
                  have HE3 := Lib.hid e3
                  clear hs3 e3
                  go_wp2_with fail
                  go_meet
                  case rel => rw [if_neg HS3.out]; exact HX3.out
              case rest =>
                have HX4 := Lib.hid hcut
                rw [HR.out] at HX4
                have HST4 := Lib.hid (State_any b L' i wc hcut.lock hcut.ok)
                rw [HS2.out] at HST4
                clear hcut
                go_wp2_with fail
                refine HST4.out.mono ?_
                rintro r w' ⟨rfl, rfl⟩
                by_cases h2 : st = 2
                · subst h2
                  rw [if_pos rfl] at HX4
                  obtain ⟨g, off', cp, hv, hcp, hgT, hg0, hq, hq0⟩ := World.qRow.head (x := .int .i64 i) (xs := ints (rowOf L' Q')) HX4.out.row
                  subst hv
                  have HX5 := Lib.hid ((fun v' hv' => ⟨HX4.out.lock, HX4.out.ok, HX4.out.inv, hv', HX4.out.taken, HX4.out.lo, HX4.out.below, HX4.out.hb⟩ : ∀ v', wc.qRow (T + 1) 3 v' (ints (rowOf L' Q')) → AtA w wc b T L' Q' (put1 tk i (tk i + 1)) v' (rowOf L' Q') (k + 1)))
                  have hl0 : cp = 1 → (ints (rowOf L' Q')).length = 0 := fun _ => by omega
                  have HQ1 := Lib.hid hq
                  have HQ2 := Lib.hid hq0
                  clear hq hq0 HX4
                  by_cases hc1 : cp - 1 = 0
                  · obtain rfl : cp = 1 := by omega
                    rw [hl0 rfl] at HQ2
                    go_wp2_with fail
                    all_goals
                      go_meet
                      case rel => exact ⟨L', Q', _, HX5.out _ (HQ2.out (by first | trivial | rfl)), HTK2.out⟩
                  · have HC1 := Lib.hid hc1
                    go_wp2_with fail
                    all_goals
                      go_meet
                      case rel => exact ⟨L', Q', _, HX5.out _ HQ1.out, HTK2.out⟩
                · have h2' : (st == 2) = false := by simpa using h2
                  rw [if_neg h2] at HX4
                  have H2 := Lib.hid h2
                  clear h2
                  go_wp2_with fail
                  go_meet
                  case rel => exact ⟨L', Q', _, HX4.out, HTK2.out⟩
            · have HST := Lib.hid (State_any b L who W1 HA.out.lock HA.out.ok)
              have HSP := Lib.hid (Step_any b L who W1 HA.out.lock HA.out.ok)
              obtain ⟨Q', hI', hrow, htk'⟩ := HTK.out.step HA.out.ok HA.out.inv who hw1
              have HO2 := Lib.hid (HA.out.ok.step who)
              have HI2 := Lib.hid hI'
              have HTK2 := Lib.hid htk'
              have HR := Lib.hid hrow
              generalize L.stateOf who = st at *
              have hw1' : (st == 1) = false := by simpa using hw1
              have HW1 := Lib.hid hw1
              clear hI' hrow htk' hw1
              go_wp2_with fail
              refine HST.out.mono ?_
              rintro r w' ⟨rfl, rfl⟩
              go_wp2_with fail
              refine HSP.out.mono ?_
              rintro r w2 ⟨rfl, hL', hF⟩
              have HX := Lib.hid ((HA.out.turn hL' hF HO2.out HI2.out).mono (k' := k + 1) (by omega))
              clear hL' hF
              by_cases hg0 : 0 ≤ who
              · by_cases hg1 : who < 16
                all_goals
                  go_wp2_with fail
                  go_meet
                  case rel => exact ⟨_, Q', _, by rw [HR.out]; exact HX.out, HTK2.out⟩
              · go_wp2_with fail
                go_meet
                case rel => exact ⟨_, Q', _, by rw [HR.out]; exact HX.out, HTK2.out⟩
        case rest =>
          obtain ⟨L, Q, tk, hA, htk⟩ := hcut
          have HA := Lib.hid hA
          have HTK := Lib.hid htk
          have HST := Lib.hid (fun who => State_any b L who wc hA.lock hA.ok)
          have HC := Lib.hid (hA.inv.cnt_le 16)
          clear hA htk
          go_wp2_with fail
          go_loop [12, 102] (fun f i => ∃ j : Nat, j ≤ 16 ∧ i = .int .i64 j ∧ f = .int .i64 (cntIn L j)) (fun _ i => 16 - (intOf i).toNat)
          case atStart => exact ⟨0, Nat.zero_le _, rfl, rfl⟩
          case round =>
            obtain ⟨j, hj, rfl, rfl⟩ := hrel
            by_cases hltj : j < 16
            · have HJ := Lib.hid (HST.out j)
              have HV := Lib.hid (show cntIn L (j + 1) = if 2 ≤ L.stateOf j then cntIn L j + 1 else cntIn L j from rfl)
              have hcb : cntIn L j ≤ 1 := HA.out.inv.cnt_le j
              generalize hfv : cntIn L j = fv at *
              generalize hst : L.stateOf j = st at *
              have H1 := Lib.hid hfv
              have H2 := Lib.hid hst
              clear hfv hst
              by_cases h2 : 2 ≤ st
              all_goals
                go_wp2_with fail
                refine HJ.out.mono ?_
                rintro r w' ⟨rfl, rfl⟩
                go_wp2_with fail
                go_round
                case rel => exact ⟨j + 1, by omega, by go_num, by rw [HV.out]; first | (rw [if_pos h2]; go_num) | rw [if_neg (by omega)]⟩
                case measure => simp [intOf]; omega
            · obtain rfl : j = 16 := by omega
              have hc := HC.out
              go_wp2_with fail
              go_roundw
              case rel =>  exact ⟨k + 1, L, Q, tk, by omega, by go_num, HA.out, HTK.out⟩
              case measure => simp [intOf]; omega
      · obtain rfl : k = m := by omega
        have HB := Lib.hid hA.below
        have hs := hA.below.size
        clear hA
        go_wp2_with (go_at_call 11; refine (lives_any _).mono ?_; rintro r w4 ⟨rfl, hb4⟩)
        go_ret
        exact ⟨rfl, HB.out.trans (hb4.mono hs)⟩
end Go.Proofs.Ythhcmilijiccmaa
