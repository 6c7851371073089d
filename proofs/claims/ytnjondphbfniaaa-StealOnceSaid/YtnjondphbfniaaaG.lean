/- Contracts of the row's own functions (package steal): a step of a pop. No condition. -/
import Derived.Test.YtnjondphbfniaaaF
namespace Go.Proofs.Ytnjondphbfniaaa
open Go.RowKit

set_option maxRecDepth 100000 in
set_option maxHeartbeats 4000000 in
theorem pop_any (b pb cap i : Nat) (d : Dq) (K : Nat) (w : World) (h : IsDq w b pb cap d) (ok : d.Ok K) (hK : K ≤ 100000) (hi : i < d.n) (hc : (d.ps i).call = 2) :
    Calls Try.prog 23 #[.pointer (some ⟨b, 0, none⟩), .pointer (some ⟨pb, i * 6, none⟩)] w
      fun r w' => r = .returned (.int .i64 (d.pop i).1) ∧ IsDq w' b pb cap (d.pop i).2 ∧ Frm (Both b pb) w w' := by
  have hp := ok.ps i
  have h1 := hp.live (by omega)
  have hst := hp.step
  have h3 := hp.b
  have h4 := hp.t
  have htop := ok.top
  have hroom := ok.room
  have hbo := ok.bottom
  have c0 := h.c0
  have c1 := h.c1
  have c66 := h.c66
  have fb := h.fb
  have fp := h.fp
  obtain ⟨p0, p1, p2, p3, p4, p5⟩ := h.party hi
  have hne : ¬ b = pb := h.apart
  have hne' : ¬ pb = b := fun e => h.apart e.symm
  have H := Lib.hid h
  have HOK := Lib.hid ok
  have HC := Lib.hid hc
  have hread := hp.read hc
  unfold Dq.pop
  by_cases s1 : (d.ps i).step = 1
  · rw [if_pos s1]
    rw [s1] at p1
    have HX := Lib.hid ((h.setPb hi (d.bottom - 1)).setBottom (d.bottom - 1))
    have S1 := Lib.hid s1
    clear h ok hp h1 hst h3 h4 s1 hc hread
    go_enter Try.func23, Try.ntmps23
    go_wp2_with fail
    go_ret
    exact ⟨rfl, HX.out, ((Frm.refl _ _).pd _ _).bd _ _⟩
  rw [if_neg s1]
  by_cases s2 : (d.ps i).step = 2
  · rw [if_pos s2]
    rw [s2] at p1
    have HX0 := Lib.hid (fun k => ((h.setPt hi d.top).drewN k))
    have HX1 := Lib.hid (fun k => (((h.setPt hi d.top).drewN k).setStep hi 4))
    have hs4 := s2
    have S1 := Lib.hid s1
    have S2 := Lib.hid s2
    have E0 : (d.setP i { d.ps i with t := d.top, step := if (d.ps i).b < d.top then 4 else (d.ps i).step }) = if (d.ps i).b < d.top then (d.setP i { d.ps i with t := d.top }).setP i { (d.setP i { d.ps i with t := d.top }).ps i with step := 4 } else d.setP i { d.ps i with t := d.top } := by
      split
      · simp only [Dq.setP, Dq.mk.injEq, and_true, true_and, if_true]
        funext y
        by_cases e : y = i <;> simp [e]
      · rfl
    rw [E0]
    generalize hbb : (d.ps i).b = B at *
    have HB := Lib.hid hbb
    by_cases hr : B < d.top
    · rw [if_pos hr]
      clear h ok hp h1 hst h4 s1 s2 hc hbb hs4 hread E0
      go_enter Try.func23, Try.ntmps23
      go_wp2_with fail
      go_quiet (fail)
      go_wp2_with fail
      go_ret
      exact ⟨rfl, HX1.out nq, (((Frm.refl _ _).pd _ _).drewN nq).pd _ _⟩
    · rw [if_neg hr]
      clear h ok hp h1 hst h4 s1 s2 hc hbb hs4 hread E0
      go_enter Try.func23, Try.ntmps23
      go_wp2_with fail
      go_quiet (fail)
      go_wp2_with fail
      go_ret
      exact ⟨rfl, HX0.out nq, ((Frm.refl _ _).pd _ _).drewN nq⟩
  rw [if_neg s2]
  by_cases s3 : (d.ps i).step = 3
  · rw [if_pos s3]
    rw [s3] at p1
    have htb := hread s3
    have hbn : 0 ≤ (d.ps i).b := by omega
    have hat := d.at_lt hbn hroom.1
    have hlt : d.at' (d.ps i).b < 64 := by omega
    have cs := h.cs hlt
    have HX := Lib.hid (fun k k2 => ((h.drewN k).setPx hi (d.slots (d.at' (d.ps i).b))).drewN k2)
    have HSl := Lib.hid (fun w' (h' : IsDq w' b pb cap d) => slot_any b pb cap d (d.ps i).b w' h' hbn hroom)
    have S1 := Lib.hid s1
    have S2 := Lib.hid s2
    have S3 := Lib.hid s3
    generalize d.slots (d.at' (d.ps i).b) = X at *
    generalize d.at' (d.ps i).b = S at *
    generalize (d.ps i).b = B at *
    generalize (d.ps i).t = T at *
    by_cases hr : T < B
    · rw [if_pos hr]
      clear h ok hp h1 hst s1 s2 s3 hc hat hread htb
      go_enter Try.func23, Try.ntmps23
      go_wp2_with fail
      refine (HSl.out _ H.out).mono ?_
      rintro r w' ⟨rfl, k, rfl⟩
      go_wp2_with fail
      go_quiet (fail)
      go_wp2_with fail
      go_ret
      first
        | exact ⟨rfl, HX.out _ _, (((Frm.refl _ _).drewN _).pd _ _).drewN _⟩
        | (have := HX.out (k + nq) 0; exact ⟨rfl, this, ((Frm.refl _ _).drewN _).pd _ _⟩)
        | (have := HX.out (nq + k) 0; exact ⟨rfl, this, ((Frm.refl _ _).drewN _).pd _ _⟩)
    · rw [if_neg hr]
      clear h ok hp h1 hst s1 s2 s3 hc hat hread htb
      go_enter Try.func23, Try.ntmps23
      go_wp2_with fail
      refine (HSl.out _ H.out).mono ?_
      rintro r w' ⟨rfl, k, rfl⟩
      go_wp2_with fail
      go_quiet (fail)
      go_wp2_with fail
      go_ret
      first
        | exact ⟨rfl, HX.out _ _, (((Frm.refl _ _).drewN _).pd _ _).drewN _⟩
        | (have := HX.out (k + nq) 0; exact ⟨rfl, this, ((Frm.refl _ _).drewN _).pd _ _⟩)
        | (have := HX.out (nq + k) 0; exact ⟨rfl, this, ((Frm.refl _ _).drewN _).pd _ _⟩)
  rw [if_neg s3]
  by_cases s4 : (d.ps i).step = 4
  · rw [if_pos s4]
    rw [s4] at p1
    have HS := Lib.hid (swap_any b pb cap i d K w h ok hK hi)
    have S4 := Lib.hid s4
    by_cases e : d.top = (d.ps i).t
    · rw [if_pos e]
      rw [if_pos e] at HS
      have e1 : (d.top == (d.ps i).t) = true := by simpa using e
      rw [e1] at HS
      have HE := Lib.hid e
      have HW := Lib.hid (fun w' (h' : IsDq w' b pb cap (d.setT (d.top + 1))) => h'.setWon (i := i) hi true)
      have HP := Lib.hid (fun w' (h' : IsDq w' b pb cap (d.setT (d.top + 1))) => (h'.party (i := i) hi).2.2.2.2.2)
      have HFz := Lib.hid (fun w' (h' : IsDq w' b pb cap (d.setT (d.top + 1))) => h'.fp (i * 6 + 5))
      clear h ok hp h1 hst h3 h4 s1 s2 s3 s4 hc e e1 hread
      go_enter Try.func23, Try.ntmps23
      go_wp2_with fail
      refine HS.out.mono ?_
      rintro r w' ⟨rfl, h2, hF⟩
      have p5' := HP.out _ h2
      have f5' := HFz.out _ h2
      have H2 := Lib.hid h2
      clear h2
      go_wp2_with fail
      go_ret
      exact ⟨rfl, HW.out _ H2.out, hF.pd _ _⟩
    · rw [if_neg e]
      rw [if_neg e] at HS
      have e1 : (d.top == (d.ps i).t) = false := by simpa using e
      rw [e1] at HS
      have HE := Lib.hid e
      have HW := Lib.hid (fun w' (h' : IsDq w' b pb cap d) => h'.setWon (i := i) hi false)
      have HP := Lib.hid (fun w' (h' : IsDq w' b pb cap d) => (h'.party (i := i) hi).2.2.2.2.2)
      have HFz := Lib.hid (fun w' (h' : IsDq w' b pb cap d) => h'.fp (i * 6 + 5))
      clear h ok hp h1 hst h3 h4 s1 s2 s3 s4 hc e e1 hread
      go_enter Try.func23, Try.ntmps23
      go_wp2_with fail
      refine HS.out.mono ?_
      rintro r w' ⟨rfl, h2, hF⟩
      have p5' := HP.out _ h2
      have f5' := HFz.out _ h2
      have H2 := Lib.hid h2
      clear h2
      go_wp2_with fail
      go_ret
      exact ⟨rfl, HW.out _ H2.out, hF.pd _ _⟩
  · rw [if_neg s4]
    have s5 : (d.ps i).step = 5 := by omega
    rw [s5] at p1
    have HX := Lib.hid (h.setBottom ((d.ps i).b + 1))
    have S1 := Lib.hid s5
    generalize (d.ps i).b = B at *
    cases hw : (d.ps i).won with
    | true =>
      rw [hw] at p5
      have HWn := Lib.hid hw
      clear h ok hp h1 hst h4 s1 s2 s3 s4 hc s5 hread hw
      go_enter Try.func23, Try.ntmps23
      go_wp2_with fail
      go_ret
      exact ⟨rfl, HX.out, (Frm.refl _ _).bd _ _⟩
    | false =>
      rw [hw] at p5
      have HWn := Lib.hid hw
      clear h ok hp h1 hst h4 s1 s2 s3 s4 hc s5 hread hw
      go_enter Try.func23, Try.ntmps23
      go_wp2_with fail
      go_ret
      exact ⟨rfl, HX.out, (Frm.refl _ _).bd _ _⟩
end Go.Proofs.Ytnjondphbfniaaa
