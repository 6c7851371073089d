/- The document's answer for the lock (package pinfoldref29): how its memory tells a lock, and the contract of Begin. No condition. -/
import Derived.Test.YthhcmilijiccmaaF
namespace Go.Proofs.Ythhcmilijiccmaa
open Go.RowKit

/-- What stands in list k (1 Next, 2 Waits, 3 State, 4 At, 5 Other) at place i. -/
def fld (L : Lock) (A : Nat → Int) : Nat → Nat → Value
  | 1, i => .int .i64 (L.ps i).next
  | 2, i => .bool (L.ps i).waits
  | 3, i => .int .i64 (L.ps i).state
  | 4, i => .int .i64 (A i)
  | _, i => .int .i64 (L.ps i).other

def fty : Nat → TypeId
  | 2 => 4
  | _ => 3

/-- The fields of the struct: B k is list k's block, C k its capacity. -/
def top (B C : Nat → Nat) (L : Lock) : Nat → Value
  | 0 => .int .i64 L.tail
  | k => .slice (some ⟨B k, 0, none⟩) L.n (C k)

structure IsRef (w : World) (B C : Nat → Nat) (L : Lock) (A : Nat → Int) : Prop where
  top : Blk w (B 0) 41 6 (top B C L)
  rows : ∀ k, 1 ≤ k → k ≤ 5 → Blk w (B k) (fty k) L.n (fld L A k)
  apart : ∀ j k, j ≤ 5 → k ≤ 5 → j ≠ k → B j ≠ B k

theorem IsRef.of_frm {S : Nat → Prop} {w w' : World} {B C : Nat → Nat} {L : Lock} {A : Nat → Int} (h : IsRef w B C L A) (hF : Frm S w w') (hS : ∀ k, k ≤ 5 → ¬ S (B k)) : IsRef w' B C L A :=
  ⟨hF.blk h.top (hS 0 (by omega)), fun k h1 h2 => hF.blk (h.rows k h1 h2) (hS k h2), h.apart⟩

theorem IsRef.drewN {w : World} {B C : Nat → Nat} {L : Lock} {A : Nat → Int} (h : IsRef w B C L A) (n : Nat) : IsRef (w.drewN n) B C L A := ⟨h.top.drewN n, fun k h1 h2 => (h.rows k h1 h2).drewN n, h.apart⟩
theorem IsRef.drew {w : World} {B C : Nat → Nat} {L : Lock} {A : Nat → Int} (h : IsRef w B C L A) : IsRef w.drew B C L A := ⟨h.top.drew, fun k h1 h2 => (h.rows k h1 h2).drew, h.apart⟩

theorem IsRef.set {w : World} {B C : Nat → Nat} {L : Lock} {A : Nat → Int} (h : IsRef w B C L A) (k i : Nat) (v : Value) (h1 : 1 ≤ k) (h2 : k ≤ 5) (L' : Lock) (A' : Nat → Int) (hn : L'.n = L.n) (ht : L'.tail = L.tail)
    (hf : ∀ k' i', 1 ≤ k' → k' ≤ 5 → fld L' A' k' i' = if k' = k ∧ i' = i then v else fld L A k' i') : IsRef (w.setCell ⟨B k, i, none⟩ v) B C L' A' := by
  refine ⟨?_, fun k' h1' h2' => ?_, h.apart⟩
  · refine (h.top.other (h.apart 0 k (by omega) h2 (by omega)) i v).congr fun o _ => ?_
    cases o with
    | zero => simp [Ythhcmilijiccmaa.top, ht]
    | succ o => simp [Ythhcmilijiccmaa.top, hn]
  · rw [hn]
    by_cases e : k' = k
    · subst e
      refine ((h.rows k' h1' h2').set i v).congr fun o _ => ?_
      rw [hf k' o h1' h2']
      by_cases e2 : o = i
      · subst e2; simp [upd_same]
      · simp [upd_other _ _ e2, e2]
    · refine ((h.rows k' h1' h2').other (h.apart k' k h2' h2 e) i v).congr fun o _ => ?_
      rw [hf k' o h1' h2', if_neg (fun c => e c.1)]

section
variable {w : World} {B C : Nat → Nat} {L : Lock} {A : Nat → Int}

theorem IsRef.setTail (h : IsRef w B C L A) (t : Int) : IsRef (w.setCell ⟨B 0, 0, none⟩ (.int .i64 t)) B C (L.setT t) A := by
  refine ⟨(h.top.set 0 _).congr fun o _ => ?_, fun k h1 h2 => ((h.rows k h1 h2).other (h.apart k 0 h2 (by omega) (by omega)) _ _).congr fun o _ => ?_, h.apart⟩
  · cases o with
    | zero => rw [upd_same]; rfl
    | succ o => rw [upd_other _ _ (by omega)]; rfl
  · match k, h1, h2 with
    | 1, _, _ => rfl
    | 2, _, _ => rfl
    | 3, _, _ => rfl
    | 4, _, _ => rfl
    | 5, _, _ => rfl

/-- A function turned at one place. -/
def updI (A : Nat → Int) (i : Nat) (v : Int) : Nat → Int := fun j => if j = i then v else A j

theorem IsRef.setAt (h : IsRef w B C L A) (i : Nat) (v : Int) : IsRef (w.setCell ⟨B 4, i, none⟩ (.int .i64 v)) B C L (updI A i v) := by
  refine h.set 4 i _ (by omega) (by omega) L _ rfl rfl fun k' i' h1 h2 => ?_
  match k', h1, h2 with
  | 1, _, _ => simp [fld]
  | 2, _, _ => simp [fld]
  | 3, _, _ => simp [fld]
  | 4, _, _ => by_cases e : i' = i <;> simp [fld, updI, e]
  | 5, _, _ => simp [fld]

theorem IsRef.setNext (h : IsRef w B C L A) (i : Nat) (v : Int) : IsRef (w.setCell ⟨B 1, i, none⟩ (.int .i64 v)) B C (L.setP i { L.ps i with next := v }) A := by
  refine h.set 1 i _ (by omega) (by omega) _ A rfl rfl fun k' i' h1 h2 => ?_
  match k', h1, h2 with
  | 1, _, _ => by_cases e : i' = i <;> simp [fld, Lock.setP, e]
  | 2, _, _ => by_cases e : i' = i <;> simp [fld, Lock.setP, e]
  | 3, _, _ => by_cases e : i' = i <;> simp [fld, Lock.setP, e]
  | 4, _, _ => simp [fld]
  | 5, _, _ => by_cases e : i' = i <;> simp [fld, Lock.setP, e]

theorem IsRef.setWaits (h : IsRef w B C L A) (i : Nat) (v : Bool) : IsRef (w.setCell ⟨B 2, i, none⟩ (.bool v)) B C (L.setP i { L.ps i with waits := v }) A := by
  refine h.set 2 i _ (by omega) (by omega) _ A rfl rfl fun k' i' h1 h2 => ?_
  match k', h1, h2 with
  | 1, _, _ => by_cases e : i' = i <;> simp [fld, Lock.setP, e]
  | 2, _, _ => by_cases e : i' = i <;> simp [fld, Lock.setP, e]
  | 3, _, _ => by_cases e : i' = i <;> simp [fld, Lock.setP, e]
  | 4, _, _ => simp [fld]
  | 5, _, _ => by_cases e : i' = i <;> simp [fld, Lock.setP, e]

theorem IsRef.setState (h : IsRef w B C L A) (i : Nat) (v : Int) : IsRef (w.setCell ⟨B 3, i, none⟩ (.int .i64 v)) B C (L.setP i { L.ps i with state := v }) A := by
  refine h.set 3 i _ (by omega) (by omega) _ A rfl rfl fun k' i' h1 h2 => ?_
  match k', h1, h2 with
  | 1, _, _ => by_cases e : i' = i <;> simp [fld, Lock.setP, e]
  | 2, _, _ => by_cases e : i' = i <;> simp [fld, Lock.setP, e]
  | 3, _, _ => by_cases e : i' = i <;> simp [fld, Lock.setP, e]
  | 4, _, _ => simp [fld]
  | 5, _, _ => by_cases e : i' = i <;> simp [fld, Lock.setP, e]

theorem IsRef.setOther (h : IsRef w B C L A) (i : Nat) (v : Int) : IsRef (w.setCell ⟨B 5, i, none⟩ (.int .i64 v)) B C (L.setP i { L.ps i with other := v }) A := by
  refine h.set 5 i _ (by omega) (by omega) _ A rfl rfl fun k' i' h1 h2 => ?_
  match k', h1, h2 with
  | 1, _, _ => by_cases e : i' = i <;> simp [fld, Lock.setP, e]
  | 2, _, _ => by_cases e : i' = i <;> simp [fld, Lock.setP, e]
  | 3, _, _ => by_cases e : i' = i <;> simp [fld, Lock.setP, e]
  | 4, _, _ => simp [fld]
  | 5, _, _ => by_cases e : i' = i <;> simp [fld, Lock.setP, e]

/-- The memory tells nothing of a party's step. -/
theorem IsRef.setStep (h : IsRef w B C L A) (i : Nat) (v : Int) : IsRef w B C (L.setP i { L.ps i with step := v }) A := by
  refine ⟨h.top.congr fun o _ => by cases o <;> rfl, fun k h1 h2 => (h.rows k h1 h2).congr fun o _ => ?_, h.apart⟩
  match k, h1, h2 with
  | 1, _, _ => by_cases e : o = i <;> simp [fld, Lock.setP, e]
  | 2, _, _ => by_cases e : o = i <;> simp [fld, Lock.setP, e]
  | 3, _, _ => by_cases e : o = i <;> simp [fld, Lock.setP, e]
  | 4, _, _ => simp [fld]
  | 5, _, _ => by_cases e : o = i <;> simp [fld, Lock.setP, e]
end

/-- The blocks of the answer's memory. -/
def InRef (B : Nat → Nat) : Nat → Prop := fun b => ∃ k, k ≤ 5 ∧ b = B k

/-- What At says of parties that are taking or giving. -/
structure AtOk (L : Lock) (A : Nat → Int) : Prop where
  range : ∀ i, 0 ≤ A i ∧ A i ≤ 6
  same : ∀ i, (L.ps i).state = 1 ∨ (L.ps i).state = 3 → A i = (L.ps i).step

theorem Frm.ref {a w : World} {B : Nat → Nat} (h : Frm (InRef B) a w) (k : Nat) (hk : k ≤ 5) (o : Nat) (v : Value) : Frm (InRef B) a (w.setCell ⟨B k, o, none⟩ v) := h.setCell (p := ⟨B k, o, none⟩) (fun _ => ⟨k, hk, rfl⟩) v

/-- Begin: the number of the error, and the lock. -/
theorem Begin_no (B C : Nat → Nat) (L : Lock) (A : Nat → Int) (who f : Int) (w : World) (h : IsRef w B C L A) (ok : L.Ok) (hh : L.has who = false) :
    Calls Try.prog 13 #[.pointer (some ⟨B 0, 0, none⟩), .int .i64 who, .int .i64 f] w fun r w' => r = .returned (.int .i64 1) ∧ w = w' := by
  have hn := ok.n
  have hno : who < 0 ∨ (L.n : Int) ≤ who := by
    have : ¬ (0 ≤ who ∧ who < L.n) := fun hc => by rw [Lock.has_iff.2 hc] at hh; cases hh
    omega
  have t3 : w.cell? ⟨B 0, 3, none⟩ = some (.slice (some ⟨B 3, 0, none⟩) L.n (C 3)) := (h.top.cell (o := 3) (by omega)).trans rfl
  clear h ok hh
  by_cases h0 : who < 0
  · go_enter Try.func13, Try.ntmps13
    go_wp2
    go_ret
    exact ⟨rfl, rfl⟩
  · go_enter Try.func13, Try.ntmps13
    go_wp2
    go_ret
    exact ⟨rfl, rfl⟩

theorem Begin_other (B C : Nat → Nat) (L : Lock) (A : Nat → Int) (i : Nat) (f : Int) (w : World) (h : IsRef w B C L A) (ok : L.Ok) (hi : i < L.n) (hs : (L.ps i).state ≠ f) :
    Calls Try.prog 13 #[.pointer (some ⟨B 0, 0, none⟩), .int .i64 i, .int .i64 f] w fun r w' => r = .returned (.int .i64 5) ∧ w = w' := by
  have hn := ok.n
  have t3 : w.cell? ⟨B 0, 3, none⟩ = some (.slice (some ⟨B 3, 0, none⟩) L.n (C 3)) := (h.top.cell (o := 3) (by omega)).trans rfl
  have c3 : w.cell? ⟨B 3, i, none⟩ = some (.int .i64 (L.ps i).state) := ((h.rows 3 (by omega) (by omega)).cell hi).trans rfl
  have hs' : ((L.ps i).state != f) = true := by simpa using hs
  clear h ok hs
  go_enter Try.func13, Try.ntmps13
  go_wp2
  go_ret
  exact ⟨rfl, rfl⟩

theorem Begin_yes (B C : Nat → Nat) (L : Lock) (A : Nat → Int) (i : Nat) (f : Int) (w : World) (h : IsRef w B C L A) (ok : L.Ok) (hi : i < L.n) (hs : (L.ps i).state = f) (hf : 0 ≤ f ∧ f ≤ 2) :
    Calls Try.prog 13 #[.pointer (some ⟨B 0, 0, none⟩), .int .i64 i, .int .i64 f] w fun r w' => r = .returned (.int .i64 0) ∧ IsRef w' B C (L.put i (f + 1)) (updI A i 1) ∧ Frm (InRef B) w w' := by
  have hn := ok.n
  have t3 : w.cell? ⟨B 0, 3, none⟩ = some (.slice (some ⟨B 3, 0, none⟩) L.n (C 3)) := (h.top.cell (o := 3) (by omega)).trans rfl
  have t4 : w.cell? ⟨B 0, 4, none⟩ = some (.slice (some ⟨B 4, 0, none⟩) L.n (C 4)) := (h.top.cell (o := 4) (by omega)).trans rfl
  have c3 : w.cell? ⟨B 3, i, none⟩ = some (.int .i64 f) := ((h.rows 3 (by omega) (by omega)).cell hi).trans (by rw [← hs]; rfl)
  have c4 : w.cell? ⟨B 4, i, none⟩ = some (.int .i64 (A i)) := ((h.rows 4 (by omega) (by omega)).cell hi).trans rfl
  have fz3 : ∀ o, w.frozen? ⟨B 3, o, none⟩ = false := (h.rows 3 (by omega) (by omega)).frozen
  have fz4 : ∀ o, w.frozen? ⟨B 4, o, none⟩ = false := (h.rows 4 (by omega) (by omega)).frozen
  have d03 := h.apart 0 3 (by omega) (by omega) (by omega)
  have d30 := h.apart 3 0 (by omega) (by omega) (by omega)
  have d34 := h.apart 3 4 (by omega) (by omega) (by omega)
  have d43 := h.apart 4 3 (by omega) (by omega) (by omega)
  have HL := Lib.hid h
  clear h ok hs
  go_enter Try.func13, Try.ntmps13
  go_wp2
  go_ways
  go_ret
  refine ⟨rfl, ?_, ((Frm.refl _ _).ref 3 (by omega) _ _).ref 4 (by omega) _ _⟩
  have := ((HL.out.setState i (f + 1)).setAt i 1).setStep i 1
  simp only [Lock.setP_same, Lock.setP_setP] at this
  exact this
end Go.Proofs.Ythhcmilijiccmaa
