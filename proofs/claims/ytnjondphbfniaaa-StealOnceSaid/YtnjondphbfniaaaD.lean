/- Contracts of the row's own functions (package steal): slot, swap, push, steal, pop. No condition. -/
import Derived.Test.YtnjondphbfniaaaC
namespace Go.Proofs.Ytnjondphbfniaaa
open Go.RowKit

theorem Dq.at_lt (d : Dq) {n : Int} (hn : 0 ≤ n) (h1 : 1 ≤ d.room) : ((d.at' n : Nat) : Int) = n % d.room ∧ ((d.at' n : Nat) : Int) < d.room := by
  unfold Dq.at'
  have h2 := Int.emod_nonneg n (show d.room ≠ 0 by omega)
  have h3 := Int.emod_lt_of_pos n (show 0 < d.room by omega)
  omega

theorem slot_any (b pb cap : Nat) (d : Dq) (n : Int) (w : World) (h : IsDq w b pb cap d) (hn : 0 ≤ n) (hr : 1 ≤ d.room ∧ d.room ≤ 64) :
    Calls Try.prog 26 #[.pointer (some ⟨b, 0, none⟩), .int .i64 n] w fun r w' => r = .returned (.pointer (some ⟨b, 2 + d.at' n, none⟩)) ∧ ∃ k, w' = w.drewN k := by
  obtain ⟨h2, h3⟩ := d.at_lt hn hr.1
  have hc := h.c66
  have e1 : n.tmod d.room = (d.at' n : Nat) := by rw [Int.tmod_eq_emod_of_nonneg hn]; exact h2.symm
  generalize d.at' n = i at *
  generalize d.room = r at *
  have hi : i < 64 := by omega
  have hr0 : ¬ r = 0 := by omega
  clear h h2
  go_enter Try.func26, Try.ntmps26
  go_wp2_with fail
  go_quiet (fail)
  go_wp2_with fail
  go_ret
  exact ⟨rfl, nq, rfl⟩

theorem Frm.bd {a w : World} {b pb : Nat} (h : Frm (Both b pb) a w) (o : Nat) (v : Value) : Frm (Both b pb) a (w.setCell ⟨b, o, none⟩ v) := h.setCell (p := ⟨b, o, none⟩) (fun _ => .inl rfl) v
theorem Frm.pd {a w : World} {b pb : Nat} (h : Frm (Both b pb) a w) (o : Nat) (v : Value) : Frm (Both b pb) a (w.setCell ⟨pb, o, none⟩ v) := h.setCell (p := ⟨pb, o, none⟩) (fun _ => .inr rfl) v

theorem swap_any (b pb cap i : Nat) (d : Dq) (K : Nat) (w : World) (h : IsDq w b pb cap d) (ok : d.Ok K) (hK : K ≤ 100000) (hi : i < d.n) :
    Calls Try.prog 27 #[.pointer (some ⟨b, 0, none⟩), .pointer (some ⟨pb, i * 6, none⟩)] w
      fun r w' => r = .returned (.bool (d.top == (d.ps i).t)) ∧ IsDq w' b pb cap (if d.top = (d.ps i).t then d.setT (d.top + 1) else d) ∧ Frm (Both b pb) w w' := by
  have ht := ok.top
  have c0 := h.c0
  have fb := h.fb 0
  obtain ⟨-, -, -, c3, -, -⟩ := h.party hi
  have H := Lib.hid h
  have HT := Lib.hid (fun k => (h.drewN k).setTop (d.top + 1))
  clear h ok
  by_cases e : d.top = (d.ps i).t
  · rw [if_pos e]
    have e1 : (d.top == (d.ps i).t) = true := by simpa using e
    rw [e1]
    rw [← e] at c3
    have HE := Lib.hid e
    generalize d.top = T at *
    clear e e1
    go_enter Try.func27, Try.ntmps27
    go_wp2_with fail
    go_quiet (fail)
    go_wp2_with fail
    go_ret
    exact ⟨rfl, HT.out nq, ((Frm.refl _ _).drewN nq).bd _ _⟩
  · rw [if_neg e]
    have e1 : (d.top == (d.ps i).t) = false := by simpa using e
    have e2 : (d.top != (d.ps i).t) = true := by simpa using e
    rw [e1]
    generalize d.top = T at *
    generalize (d.ps i).t = t at *
    have HE := Lib.hid e
    clear e1
    go_enter Try.func27, Try.ntmps27
    go_wp2_with fail
    go_quiet (fail)
    go_wp2_with fail
    go_ret
    exact ⟨rfl, H.out.drewN nq, (Frm.refl _ _).drewN nq⟩
end Go.Proofs.Ytnjondphbfniaaa
