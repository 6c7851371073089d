/- Contracts of the row's own functions (package steal): a step of a steal. No condition. -/
import Derived.Test.YtnjondphbfniaaaE
namespace Go.Proofs.Ytnjondphbfniaaa
open Go.RowKit

set_option maxHeartbeats 4000000 in
theorem steal_any (b pb cap i : Nat) (d : Dq) (K : Nat) (w : World) (h : IsDq w b pb cap d) (ok : d.Ok K) (hK : K ≤ 100000) (hi : i < d.n) (hc : (d.ps i).call = 3) :
    Calls Try.prog 24 #[.pointer (some ⟨b, 0, none⟩), .pointer (some ⟨pb, i * 6, none⟩)] w
      fun r w' => r = .returned (.int .i64 (d.steal i).1) ∧ IsDq w' b pb cap (d.steal i).2 ∧ Frm (Both b pb) w w' := by
  have hp := ok.ps i
  have h1 := hp.live (by omega)
  have h2 := hp.short (.inr hc)
  have h3 := hp.b
  have h4 := hp.t
  have htop := ok.top
  have hroom := ok.room
  have hbo := ok.bottom
  have c0 := h.c0
  have c1 := h.c1
  have c66 := h.c66
  have fb := h.fb
  have fp := h.fp
  obtain ⟨p0, p1, p2, p3, p4, p5⟩ := h.party hi
  have hne : ¬ b = pb := h.apart
  have hne' : ¬ pb = b := fun e => h.apart e.symm
  have H := Lib.hid h
  have HOK := Lib.hid ok
  have HC := Lib.hid hc
  unfold Dq.steal
  by_cases s1 : (d.ps i).step = 1
  · rw [if_pos s1]
    rw [s1] at p1
    have HX := Lib.hid (h.setPt hi d.top)
    have S1 := Lib.hid s1
    clear h ok hp h1 h2 h3 h4 s1 hc
    go_enter Try.func24, Try.ntmps24
    go_wp2_with fail
    go_ret
    exact ⟨rfl, HX.out, (Frm.refl _ _).pd _ _⟩
  rw [if_neg s1]
  by_cases s2 : (d.ps i).step = 2
  · rw [if_pos s2]
    rw [s2] at p1
    have HX := Lib.hid (fun k => (h.setPb hi d.bottom).drewN k)
    have S1 := Lib.hid s1
    have S2 := Lib.hid s2
    generalize hbb : (d.ps i).t = B at *
    have HB := Lib.hid hbb
    by_cases hr : d.bottom ≤ B
    · rw [if_pos hr]
      clear h ok hp h1 h2 h3 s1 s2 hc hbb
      go_enter Try.func24, Try.ntmps24
      go_wp2_with fail
      go_quiet (fail)
      go_wp2_with fail
      go_ret
      exact ⟨rfl, HX.out nq, ((Frm.refl _ _).pd _ _).drewN nq⟩
    · rw [if_neg hr]
      clear h ok hp h1 h2 h3 s1 s2 hc hbb
      go_enter Try.func24, Try.ntmps24
      go_wp2_with fail
      go_quiet (fail)
      go_wp2_with fail
      go_ret
      exact ⟨rfl, HX.out nq, ((Frm.refl _ _).pd _ _).drewN nq⟩
  rw [if_neg s2]
  by_cases s3 : (d.ps i).step = 3
  · rw [if_pos s3]
    rw [s3] at p1
    have hbn : 0 ≤ (d.ps i).t := h4.1
    have hat := d.at_lt hbn hroom.1
    have hlt : d.at' (d.ps i).t < 64 := by omega
    have cs := h.cs hlt
    have HX := Lib.hid (fun k => (h.drewN k).setPx hi (d.slots (d.at' (d.ps i).t)))
    have HSl := Lib.hid (fun w' (h' : IsDq w' b pb cap d) => slot_any b pb cap d (d.ps i).t w' h' hbn hroom)
    have S1 := Lib.hid s1
    have S2 := Lib.hid s2
    have S3 := Lib.hid s3
    generalize d.slots (d.at' (d.ps i).t) = X at *
    generalize d.at' (d.ps i).t = S at *
    generalize (d.ps i).t = B at *
    clear h ok hp h1 h2 h3 s1 s2 s3 hc hat
    go_enter Try.func24, Try.ntmps24
    go_wp2_with fail
    refine (HSl.out _ H.out).mono ?_
    rintro r w' ⟨rfl, k, rfl⟩
    go_wp2_with fail
    go_ret
    exact ⟨rfl, HX.out _, ((Frm.refl _ _).drewN _).pd _ _⟩
  · rw [if_neg s3]
    have s4 : (d.ps i).step = 4 := by omega
    rw [s4] at p1
    have HS := Lib.hid (swap_any b pb cap i d K w h ok hK hi)
    have S4 := Lib.hid s4
    by_cases e : d.top = (d.ps i).t
    · rw [if_pos e]
      rw [if_pos e] at HS
      have e1 : (d.top == (d.ps i).t) = true := by simpa using e
      rw [e1] at HS
      have HE := Lib.hid e
      clear h ok hp h1 h2 h3 h4 s1 s2 s3 s4 hc e e1
      go_enter Try.func24, Try.ntmps24
      go_wp2_with fail
      refine HS.out.mono ?_
      rintro r w' ⟨rfl, h2, hF⟩
      go_wp2_with fail
      go_ret
      exact ⟨rfl, h2, hF⟩
    · rw [if_neg e]
      rw [if_neg e] at HS
      have e1 : (d.top == (d.ps i).t) = false := by simpa using e
      rw [e1] at HS
      have HE := Lib.hid e
      clear h ok hp h1 h2 h3 h4 s1 s2 s3 s4 hc e e1
      go_enter Try.func24, Try.ntmps24
      go_wp2_with fail
      refine HS.out.mono ?_
      rintro r w' ⟨rfl, h2, hF⟩
      go_wp2_with fail
      go_ret
      exact ⟨rfl, h2, hF⟩
end Go.Proofs.Ytnjondphbfniaaa
