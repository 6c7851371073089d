/- Contracts of the row's own functions (package steal): Step. No condition. -/
import Derived.Test.YtnjondphbfniaaaH
namespace Go.Proofs.Ytnjondphbfniaaa
open Go.RowKit

/-- What a step answers with. -/
def stolenV (h x e : Int) : Value := .tuple #[.agg #[.bool (h != 0), .int .i64 h, .int .i64 x], .int .i64 e]

section
variable {b pb cap : Nat} {d : Dq} {w : World}

theorem Step_no (h : IsDq w b pb cap d) (who : Int) (hh : d.has who = false) :
    Calls Try.prog 13 #[.pointer (some ⟨b, 0, none⟩), .int .i64 who] w fun r w' => r = .returned (stolenV 0 0 1) ∧ IsDq w' b pb cap d ∧ Frm (Both b pb) w w' := by
  have hno : who < 0 ∨ (d.n : Int) ≤ who := by
    have : ¬ (0 ≤ who ∧ who < d.n) := fun hc => by rw [Dq.has_iff.2 hc] at hh; cases hh
    omega
  have hF := (Frm.refl (fun _ => False) w).alloc (.cells #[.bool false, .int .i64 0, .int .i64 0] 44)
  have h1 := h.of_frm hF (fun h => h) (fun h => h)
  have HA := Lib.hid (at_no b pb cap d who _ h1 hno)
  have H1 := Lib.hid h1
  clear h hh hno h1 hF
  go_enter Try.func13, Try.ntmps13
  go_wp2_with fail
  refine HA.out.mono ?_
  rintro r w' ⟨rfl, rfl⟩
  go_wp2_with fail
  exact bodyPost_ret (v := stolenV 0 0 1) (by simp [results, Try.results13, stolenV, go_sem]) rfl ⟨rfl, H1.out, (Frm.refl _ _).alloc _⟩

theorem Step_nil (who : Int) (w : World) : Calls Try.prog 13 #[.pointer none, .int .i64 who] w fun r w' => r = .returned (stolenV 0 0 1) ∧ Below w.heap.size w w' := by
  go_enter Try.func13, Try.ntmps13
  go_wp2_with fail
  refine (at_nil _ _).mono ?_
  rintro r w' ⟨rfl, rfl⟩
  go_wp2_with fail
  exact bodyPost_ret (v := stolenV 0 0 1) (by simp [results, Try.results13, stolenV, go_sem]) rfl ⟨rfl, (Below.refl _ _).alloc (Nat.le_refl _) _⟩

theorem Step_idle (h : IsDq w b pb cap d) (hn : d.n ≤ 9) (i : Nat) (hi : i < d.n) (hc : (d.ps i).call = 0) :
    Calls Try.prog 13 #[.pointer (some ⟨b, 0, none⟩), .int .i64 i] w fun r w' => r = .returned (stolenV 0 0 5) ∧ IsDq w' b pb cap d ∧ Frm (Both b pb) w w' := by
  have hF := (Frm.refl (fun _ => False) w).alloc (.cells #[.bool false, .int .i64 0, .int .i64 0] 44)
  have h1 := h.of_frm hF (fun h => h) (fun h => h)
  have HA := Lib.hid (at_ok b pb cap d i _ h1 hi hn)
  have p0 := (h1.party hi).1
  rw [hc] at p0
  have H1 := Lib.hid h1
  clear h h1 hF hc
  go_enter Try.func13, Try.ntmps13
  go_wp2_with fail
  refine HA.out.mono ?_
  rintro r w' ⟨rfl, rfl⟩
  go_wp2_with fail
  exact bodyPost_ret (v := stolenV 0 0 5) (by simp [results, Try.results13, stolenV, go_sem]) rfl ⟨rfl, H1.out, (Frm.refl _ _).alloc _⟩

theorem Dq.go_n (d : Dq) (i : Nat) : (d.go i).2.n = d.n := by
  unfold Dq.go Dq.push Dq.pop Dq.steal
  (repeat' split) <;> rfl

theorem Dq.go_step {d : Dq} {K : Nat} (ok : d.Ok K) (i : Nat) : 0 ≤ ((d.go i).2.ps i).step ∧ ((d.go i).2.ps i).step ≤ 5 := by
  have := (ok.ps i).step
  unfold Dq.go Dq.push Dq.pop Dq.steal
  (repeat' split) <;> simp only [Dq.setP, Dq.setB, Dq.setT, Dq.setS, if_true] <;> (first | omega | (split <;> omega))

theorem IsDq.res (h : IsDq w b pb cap d) {A : Nat} (hA : A ≠ b ∧ A ≠ pb) (v0 v1 v2 : Value) : IsDq (((w.setCell ⟨A, 0, none⟩ v0).setCell ⟨A, 1, none⟩ v1).setCell ⟨A, 2, none⟩ v2) b pb cap d :=
  h.of_frm (S := fun k => k = A) ((((Frm.refl (fun k => k = A) w).setCell (p := ⟨A, 0, none⟩) (fun _ => rfl) _).setCell (p := ⟨A, 1, none⟩) (fun _ => rfl) _).setCell (p := ⟨A, 2, none⟩) (fun _ => rfl) _) (fun e => hA.1 e.symm) (fun e => hA.2 e.symm)

theorem Frm.res {S : Nat → Prop} {a w : World} (h : Frm S a w) {A : Nat} (hA : a.heap.size ≤ A) (v0 v1 v2 : Value) : Frm S a (((w.setCell ⟨A, 0, none⟩ v0).setCell ⟨A, 1, none⟩ v1).setCell ⟨A, 2, none⟩ v2) :=
  ((h.setCell (p := ⟨A, 0, none⟩) (fun hl => absurd hl (Nat.not_lt.2 hA)) _).setCell (p := ⟨A, 1, none⟩) (fun hl => absurd hl (Nat.not_lt.2 hA)) _).setCell (p := ⟨A, 2, none⟩) (fun hl => absurd hl (Nat.not_lt.2 hA)) _

theorem IsDq.alloc (h : IsDq w b pb cap d) (o : Obj) : IsDq (w.alloc o) b pb cap d := h.of_frm (S := fun _ => False) ((Frm.refl _ _).alloc _) (fun h => h) (fun h => h)

set_option maxRecDepth 100000 in
set_option maxHeartbeats 2000000 in
theorem Step_yes (h : IsDq w b pb cap d) {K : Nat} (ok : d.Ok K) (hK : K ≤ 100000) (i : Nat) (hi : i < d.n) (hc : 1 ≤ (d.ps i).call ∧ (d.ps i).call ≤ 3) :
    Calls Try.prog 13 #[.pointer (some ⟨b, 0, none⟩), .int .i64 i] w
      fun r w' => r = .returned (stolenV (d.go i).1 (if (d.go i).1 = 1 then ((d.go i).2.ps i).x else 0) 0) ∧ IsDq w' b pb cap (Dq.done (d.go i) i) ∧ Frm (Both b pb) w w' := by
  have hF := (Frm.refl (fun _ => False) w).alloc (.cells #[.bool false, .int .i64 0, .int .i64 0] 44)
  have h1 := h.of_frm hF (fun h => h) (fun h => h)
  have HA := Lib.hid (at_ok b pb cap d i _ h1 hi ok.n.2)
  have p0 := (h1.party hi).1
  have H1 := Lib.hid h1
  have hq1 := Dq.go_n d i
  have hq2 := Dq.go_step ok i
  have HG1 := Lib.hid (fun (e : (d.ps i).call = 1) => show (d.go i) = d.push i by unfold Dq.go; rw [if_pos e])
  have HG2 := Lib.hid (fun (e : (d.ps i).call = 2) => show (d.go i) = d.pop i by unfold Dq.go; rw [if_neg (by omega), if_pos e])
  have HG3 := Lib.hid (fun (e : (d.ps i).call = 3) => show (d.go i) = d.steal i by unfold Dq.go; rw [if_neg (by omega), if_neg (by omega)])
  have HOK := Lib.hid ok
  have hAb : w.heap.size ≠ b ∧ w.heap.size ≠ pb := by
    have a1 := h.top.lt
    have a2 := h.parts.lt
    omega
  obtain ⟨A, hA⟩ : ∃ A, w.heap.size = A := ⟨_, rfl⟩
  have HR := Lib.hid (show Blk (w.alloc (.cells #[.bool false, .int .i64 0, .int .i64 0] 44)) A 44 3 (fun o => if o = 0 then .bool false else .int .i64 0) by
    rw [← hA]
    exact (Blk.new w #[.bool false, .int .i64 0, .int .i64 0] 44).congr fun o ho => by
      match o, ho with
      | 0, _ => rfl
      | 1, _ => rfl
      | 2, _ => rfl)
  rw [hA] at hAb
  obtain ⟨q, hq⟩ : ∃ q, d.go i = q := ⟨_, rfl⟩
  rw [hq] at hq1 hq2 ⊢
  have HQ := Lib.hid hq
  have HN := Lib.hid hq1
  have HF0 := Lib.hid (show Frm (Both b pb) w (w.alloc (.cells #[.bool false, .int .i64 0, .int .i64 0] 44)) from (Frm.refl _ _).alloc _)
  obtain ⟨W0, hW0⟩ : ∃ W0, w.alloc (.cells #[.bool false, .int .i64 0, .int .i64 0] 44) = W0 := ⟨_, rfl⟩
  rw [hW0] at HA p0 H1 HR HF0
  have HAb := Lib.hid hAb
  obtain ⟨c, hce⟩ : ∃ c, (d.ps i).call = c := ⟨_, rfl⟩
  rw [hce] at p0 hc
  have HCE := Lib.hid hce
  clear h h1 hF ok hq hq1 hce
  go_enter Try.func13, Try.ntmps13
  go_wp2_with fail
  try rw [hW0]
  try rw [hA]
  refine HA.out.mono ?_
  rintro r w' ⟨rfl, rfl⟩
  try simp only [hA]
  have HAE := Lib.hid hA
  have HWE := Lib.hid hW0
  clear hA hW0
  go_upto_block 0 with fail
  go_cut [7] (fun s7 wr => s7 = .int .i64 q.1 ∧ IsDq wr b pb cap q.2 ∧ Blk wr A 44 3 (fun o => if o = 0 then .bool false else .int .i64 0) ∧ Frm (Both b pb) w wr)
  case first =>
    have hcc : c = 1 ∨ c = 2 ∨ c = 3 := by omega
    have hR : ∀ w', Frm (Both b pb) W0 w' → Blk w' A 44 3 (fun o => if o = 0 then .bool false else .int .i64 0) := fun w' hF => hF.blk HR.out (fun e => by rcases e with e | e; exact HAb.out.1 e; exact HAb.out.2 e)
    have HRR := Lib.hid hR
    clear hR
    rcases hcc with rfl | rfl | rfl
    · have HC := Lib.hid (push_any b pb cap i d K W0 H1.out HOK.out hK hi HCE.out)
      have e := (HG1.out HCE.out).symm.trans HQ.out
      rw [e] at HC
      clear e hc
      go_wp2_with fail
      refine HC.out.mono ?_
      rintro r w1 ⟨rfl, h2, hF2⟩
      go_wp2_with fail
      go_meet
      case rel => exact ⟨rfl, h2, HRR.out _ hF2, HF0.out.trans hF2⟩
    · have HC := Lib.hid (pop_any b pb cap i d K W0 H1.out HOK.out hK hi HCE.out)
      have e := (HG2.out HCE.out).symm.trans HQ.out
      rw [e] at HC
      clear e hc
      go_wp2_with fail
      refine HC.out.mono ?_
      rintro r w1 ⟨rfl, h2, hF2⟩
      go_wp2_with fail
      go_meet
      case rel => exact ⟨rfl, h2, HRR.out _ hF2, HF0.out.trans hF2⟩
    · have HC := Lib.hid (steal_any b pb cap i d K W0 H1.out HOK.out hK hi HCE.out)
      have e := (HG3.out HCE.out).symm.trans HQ.out
      rw [e] at HC
      clear e hc
      go_wp2_with fail
      refine HC.out.mono ?_
      rintro r w1 ⟨rfl, h2, hF2⟩
      go_wp2_with fail
      go_meet
      case rel => exact ⟨rfl, h2, HRR.out _ hF2, HF0.out.trans hF2⟩
  case rest =>
    obtain ⟨rfl, h2, hB, hF⟩ := hcut
    obtain ⟨g1, g⟩ := q
    simp only at h2 hq2 HN ⊢
    have hi2 : i < g.n := by have := HN.out; omega
    obtain ⟨p0, p1, p2, p3, p4, p5⟩ := h2.party hi2
    have fp := h2.fp
    have r0 := (hB.cell (o := 0) (by omega))
    have r1 := (hB.cell (o := 1) (by omega))
    have r2 := (hB.cell (o := 2) (by omega))
    have fA := hB.frozen
    have hA1 : ¬ A = pb := HAb.out.2
    have hA2 : ¬ pb = A := fun e => HAb.out.2 e.symm
    simp only [if_true, Nat.one_ne_zero, if_false, show ¬ (2 : Nat) = 0 by omega] at r0 r1 r2
    have hAl := hB.lt
    have hpl := h2.parts.lt
    have hn1 : ¬ pb = wc.heap.size := by omega
    have hn2 : ¬ wc.heap.size = pb := by omega
    have hn3 : ¬ A = wc.heap.size := by omega
    have hn4 : ¬ wc.heap.size = A := by omega
    have HD0 := Lib.hid (fun (e : g1 = 0) => show Dq.done (g1, g) i = g.setP i { g.ps i with step := (g.ps i).step + 1 } by unfold Dq.done; rw [if_pos e])
    have HD1 := Lib.hid (fun (e : ¬ g1 = 0) => show Dq.done (g1, g) i = (g.setP i { g.ps i with step := (g.ps i).step + 1 }).setP i Pt.none by
      unfold Dq.done
      rw [if_neg e]
      simp only [Dq.setP, Dq.mk.injEq, and_true, true_and]
      funext y
      by_cases e : y = i <;> simp [e])
    have HX := Lib.hid (h2.setStep hi2 ((g.ps i).step + 1))
    have HX6 := Lib.hid ((h2.setStep hi2 ((g.ps i).step + 1)).put6 (d := g.setP i { g.ps i with step := (g.ps i).step + 1 }) (i := i) hi2 Pt.none)
    have HF2 := Lib.hid (hF.pd (i * 6 + 1) (.int .i64 ((g.ps i).step + 1)))
    have HFA := Lib.hid (show w.heap.size ≤ A from Nat.le_of_eq HAE.out)
    by_cases e0 : g1 = 0
    · subst e0
      have HD := Lib.hid (HD0.out rfl)
      generalize (g.ps i).step = st at *
      clear h2 hB hF
      go_wp2_with fail
      refine bodyPost_ret (v := stolenV 0 0 0) ?_ rfl ⟨rfl, ?_, HF2.out.res HFA.out _ _ _⟩
      · simp [results, Try.results13, stolenV, go_sem, r0, r1, r2, fA, hA1, hA2]
      · rw [HD.out]; exact HX.out.res HAb.out _ _ _
    · have e1 : (g1 == 0) = false := by simpa using e0
      have e2 : (g1 != 0) = true := by simpa using e0
      have HD := Lib.hid (HD1.out e0)
      by_cases e3 : g1 = 1
      · subst e3
        generalize (g.ps i).step = st at *
        clear h2 hB hF e0
        go_wp2_with fail
        all_goals first
          | (exfalso; omega)
          | (refine bodyPost_ret (v := stolenV 1 (g.ps i).x 0) ?_ rfl ⟨rfl, ?_, (((HF2.out.pd6 _ _ _ _ _ _ _).res HFA.out _ _ _).alloc _)⟩
             · simp [results, Try.results13, stolenV, go_sem, r0, r1, r2, fA, hA1, hA2, hn1, hn2, hn3, hn4, hAl]
             · rw [HD.out]; exact (HX6.out.res HAb.out _ _ _).alloc _)
      · have e4 : (g1 == 1) = false := by simpa using e3
        have HE := Lib.hid (And.intro e0 e3)
        generalize (g.ps i).step = st at *
        clear h2 hB hF e0 e3
        go_wp2_with fail
        all_goals first
          | (exfalso; have := HE.out; omega)
          | (refine bodyPost_ret (v := stolenV g1 0 0) ?_ rfl ⟨rfl, ?_, (((HF2.out.pd6 _ _ _ _ _ _ _).res HFA.out _ _ _).alloc _)⟩
             · simp [results, Try.results13, stolenV, go_sem, r0, r1, r2, fA, hA1, hA2, hn1, hn2, hn3, hn4, hAl, e2]
             · rw [HD.out]; exact (HX6.out.res HAb.out _ _ _).alloc _)
end
end Go.Proofs.Ytnjondphbfniaaa
