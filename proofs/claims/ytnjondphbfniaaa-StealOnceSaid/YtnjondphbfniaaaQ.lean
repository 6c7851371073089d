/- The row's steps and the document's, told alike. No condition. -/
import Derived.Test.YtnjondphbfniaaaL1
import Derived.Test.YtnjondphbfniaaaL2
import Derived.Test.YtnjondphbfniaaaL3
import Derived.Test.YtnjondphbfniaaaP
namespace Go.Proofs.Ytnjondphbfniaaa
open Go.RowKit

theorem Step_any {w : World} {b pb cap K : Nat} {d : Dq} (h : IsDq w b pb cap d) (ok : d.Ok K) (hK : K ≤ 100000) (who : Int) :
    Calls Try.prog 13 #[.pointer (some ⟨b, 0, none⟩), .int .i64 who] w
      fun r w' => r = .returned (stolenV (d.step who).1 (d.step who).2.1 (d.step who).2.2.1) ∧ IsDq w' b pb cap (d.step who).2.2.2 ∧ Frm (Both b pb) w w' := by
  unfold Dq.step
  cases hh : d.has who with
  | false =>
    rw [if_neg (by simp)]
    exact Step_no h who hh
  | true =>
    rw [if_pos rfl]
    obtain ⟨h0, h1⟩ := Dq.has_iff.1 hh
    obtain ⟨i, rfl⟩ := Int.eq_ofNat_of_zero_le h0
    have hi : i < d.n := by omega
    rw [Int.toNat_natCast]
    by_cases hc : 1 ≤ (d.ps i).call ∧ (d.ps i).call ≤ 3
    · rw [if_pos hc]
      exact Step_yes h ok hK i hi hc
    · rw [if_neg hc]
      have := (ok.ps i).call
      exact Step_idle h ok.n.2 i hi (by omega)

theorem rok_of {d r : Dq} {K i : Nat} (hl : Like d r) (ok : d.Ok K) (hi : i < d.n) (hc : 1 ≤ (d.ps i).call ∧ (d.ps i).call ≤ 3) : ROk r i K := by
  have hp := hl.ps i
  have q := ok.ps i
  have hs := q.live (by omega)
  have hst := q.step
  have hbo := ok.bottom
  refine ⟨⟨by rw [hl.n]; exact hi, by rw [hl.n]; exact ok.n.2⟩, by rw [hl.room]; exact ok.room, by rw [hl.top]; exact ok.top, by rw [hl.bottom]; exact hbo, by rw [hp.call]; exact hc, by rw [hp.step]; omega, fun e => ?_, fun e => ?_, fun e => ?_, fun e e2 => ?_⟩
  · rw [hp.call] at e
    rw [hp.step]
    exact q.short (by omega)
  · rw [hp.call] at e
    rw [hp.b e]
    exact q.b
  · rw [hp.call] at e
    rw [hp.t e]
    exact q.t
  · rw [hp.call] at e
    rw [hp.step] at e2
    rw [hp.b e]
    by_cases c1 : (d.ps i).call = 1
    · have h1 := q.push c1 (by omega)
      have i0 := q.who.1 (.inl c1)
      have := ok.idle (by rw [← i0]; omega)
      omega
    · have h1 := q.read (by omega) e2
      have := q.t
      omega

def RStepped (w : World) (rb sb qb rn cs cq : Nat) (s : Int × Int × Int × Dq) (e : Ending) (w' : World) : Prop :=
  e = .returned (.tuple #[.int .i64 s.1, .int .i64 s.2.1, .int .i64 s.2.2.1]) ∧ (∃ r', IsRf w' rb sb qb rn cs cq r' ∧ Like s.2.2.2 r') ∧ Frm (Rfb rb sb qb) w w'

theorem RStep_any {w : World} {rb sb qb rn cs cq K : Nat} {d r : Dq} (h : IsRf w rb sb qb rn cs cq r) (hl : Like d r) (ok : d.Ok K) (hK : K ≤ 100000) (who : Int) :
    Calls Try.prog 20 #[.pointer (some ⟨rb, 0, none⟩), .int .i64 who] w fun e w' => RStepped w rb sb qb rn cs cq (d.step who) e w' := by
  unfold Dq.step
  cases hh : d.has who with
  | false =>
    rw [if_neg (by simp)]
    have hr : r.has who = false := by unfold Dq.has at hh ⊢; rw [hl.n]; exact hh
    refine (RStep_no h who hr).mono ?_
    rintro e w' ⟨rfl, rfl⟩
    exact ⟨rfl, ⟨r, h, hl⟩, Frm.refl _ _⟩
  | true =>
    rw [if_pos rfl]
    obtain ⟨h0, h1⟩ := Dq.has_iff.1 hh
    obtain ⟨i, rfl⟩ := Int.eq_ofNat_of_zero_le h0
    have hi : i < d.n := by omega
    have hir : i < r.n := by rw [hl.n]; exact hi
    have hp := hl.ps i
    rw [Int.toNat_natCast]
    by_cases hc : 1 ≤ (d.ps i).call ∧ (d.ps i).call ≤ 3
    · rw [if_pos hc]
      have ro := rok_of hl ok hi hc
      obtain ⟨s1, s2, s3⟩ := hl.step ok i hc
      have hcall := hp.call
      have main : Calls Try.prog 20 #[.pointer (some ⟨rb, 0, none⟩), .int .i64 i] w
          fun e w' => e = .returned (.tuple #[.int .i64 (rgo r i).1, .int .i64 (if (rgo r i).1 = 1 then (rgo r i).2.2.1.x else 0), .int .i64 0]) ∧ IsRf w' rb sb qb rn cs cq (rend (rgo r i) i) ∧ Frm (Rfb rb sb qb) w w' := by
        have hcc : (d.ps i).call = 1 ∨ (d.ps i).call = 2 ∨ (d.ps i).call = 3 := by omega
        rcases hcc with e | e | e
        · exact RStep_push h ro (by omega) (by rw [hcall]; exact e)
        · exact RStep_pop h ro (by omega) (by rw [hcall]; exact e)
        · exact RStep_theft h ro (by omega) (by rw [hcall]; exact e)
      refine main.mono ?_
      rintro e w' ⟨rfl, h2, hF⟩
      refine ⟨?_, ⟨_, h2, s2⟩, hF⟩
      have e2 : (if (rgo r i).1 = 1 then (rgo r i).2.2.1.x else 0) = if (d.go i).1 = 1 then ((d.go i).2.ps i).x else 0 := by
        rw [s1]
        split
        · rename_i e; exact s3 e
        · rfl
      rw [e2, s1]
    · rw [if_neg hc]
      have hk := (ok.ps i).call
      have hs := (ok.ps i).step
      refine (RStep_idle h (by rw [hl.n]; exact ok.n.2) hir (by rw [hp.call]; omega) (by rw [hp.step]; exact hs)).mono ?_
      rintro e w' ⟨rfl, hb⟩
      exact ⟨rfl, ⟨r, h.of_frm (S := fun k => w.heap.size ≤ k) ⟨hb.os, hb.tape, hb.output, hb.size, fun k hk _ => hb.block k hk⟩ (by have := h.top.lt; omega) (by have := h.slots.lt; omega) (by have := h.parts.lt; omega), hl⟩,
        ⟨hb.os, hb.tape, hb.output, hb.size, fun k hk _ => hb.block k hk⟩⟩

/-- What stands while the law runs. -/
structure Pair (w : World) (b pb cap rb sb qb rn cs cq : Nat) (d : Dq) (K : Nat) : Prop where
  dq : IsDq w b pb cap d
  rf : ∃ r, IsRf w rb sb qb rn cs cq r ∧ Like d r
  ok : d.Ok K
  apart : b ≠ rb ∧ b ≠ sb ∧ b ≠ qb ∧ pb ≠ rb ∧ pb ≠ sb ∧ pb ≠ qb

def Five (b pb rb sb qb : Nat) : Nat → Prop := fun k => Both b pb k ∨ Rfb rb sb qb k

section
variable {w w' : World} {b pb cap rb sb qb rn cs cq K : Nat} {d : Dq}

theorem Pair.of_frm {S : Nat → Prop} (h : Pair w b pb cap rb sb qb rn cs cq d K) (hF : Frm S w w') (h1 : ∀ k, Five b pb rb sb qb k → ¬ S k) : Pair w' b pb cap rb sb qb rn cs cq d K := by
  obtain ⟨r, hr, hl⟩ := h.rf
  exact ⟨h.dq.of_frm hF (h1 _ (.inl (.inl rfl))) (h1 _ (.inl (.inr rfl))), ⟨r, hr.of_frm hF (h1 _ (.inr (.inl rfl))) (h1 _ (.inr (.inr (.inl rfl)))) (h1 _ (.inr (.inr (.inr rfl)))), hl⟩, h.ok, h.apart⟩

theorem Pair.alloc (h : Pair w b pb cap rb sb qb rn cs cq d K) (o : Obj) : Pair (w.alloc o) b pb cap rb sb qb rn cs cq d K := h.of_frm (S := fun _ => False) ((Frm.refl _ _).alloc o) (fun _ _ h => h)
theorem Pair.drewN (h : Pair w b pb cap rb sb qb rn cs cq d K) (n : Nat) : Pair (w.drewN n) b pb cap rb sb qb rn cs cq d K := h.of_frm (S := fun _ => False) ((Frm.refl _ _).drewN n) (fun _ _ h => h)
theorem Pair.drew (h : Pair w b pb cap rb sb qb rn cs cq d K) : Pair w.drew b pb cap rb sb qb rn cs cq d K := h.of_frm (S := fun _ => False) ((Frm.refl _ _).drew) (fun _ _ h => h)

theorem IsRf.past {r : Dq} (h : IsRf w rb sb qb rn cs cq r) (ha : b ≠ rb ∧ b ≠ sb ∧ b ≠ qb ∧ pb ≠ rb ∧ pb ≠ sb ∧ pb ≠ qb) (hF : Frm (Both b pb) w w') : IsRf w' rb sb qb rn cs cq r :=
  h.of_frm hF (by unfold Both; omega) (by unfold Both; omega) (by unfold Both; omega)
theorem IsDq.past (h : IsDq w b pb cap d) (ha : b ≠ rb ∧ b ≠ sb ∧ b ≠ qb ∧ pb ≠ rb ∧ pb ≠ sb ∧ pb ≠ qb) (hF : Frm (Rfb rb sb qb) w w') : IsDq w' b pb cap d :=
  h.of_frm hF (by unfold Rfb; omega) (by unfold Rfb; omega)
theorem Frm.l5 (h : Frm (Both b pb) w w') : Frm (Five b pb rb sb qb) w w' := h.mono fun _ _ hk => .inl hk
theorem Frm.r5 (h : Frm (Rfb rb sb qb) w w') : Frm (Five b pb rb sb qb) w w' := h.mono fun _ _ hk => .inr hk
end

/-- Behind one operation. -/
def nextD (d : Dq) (kind who x : Int) : Dq :=
  if kind % 8 = 0 then (d.begin 0 1 x).2 else if kind % 8 = 1 then (d.begin 0 2 0).2 else if kind % 8 = 2 then (d.theft who).2 else (d.step who).2.2.2

theorem Dq.Ok.theft {d : Dq} {K : Nat} (h : d.Ok K) (who : Int) : (d.theft who).2.Ok (K + 1) := by
  unfold Dq.theft
  split
  · exact h.mono
  · rename_i e
    exact h.begin who 3 0 (.inr ⟨rfl, e⟩)

theorem Dq.Ok.nextD {d : Dq} {K : Nat} (h : d.Ok K) (kind who x : Int) : (nextD d kind who x).Ok (K + 1) := by
  unfold Go.Proofs.Ytnjondphbfniaaa.nextD
  split
  · exact h.begin 0 1 x (.inl ⟨.inl rfl, rfl⟩)
  · split
    · exact h.begin 0 2 0 (.inl ⟨.inr rfl, rfl⟩)
    · split
      · exact h.theft who
      · exact h.step who
end Go.Proofs.Ytnjondphbfniaaa
