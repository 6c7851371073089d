/- Contracts of the lock's own functions (package mcs), over blocks told by functions. No condition. -/
import Derived.Test.YthhcmilijiccmaaRows
import Derived.Test.YthhcmilijiccmaaB
import Derived.Test.YthhcmilijiccmaaM
import Derived.WalkSpells
namespace Go.Proofs.Ythhcmilijiccmaa
open Go.RowKit

def Party.cell (p : Party) : Nat → Value
  | 0 => .int .i64 p.next
  | 1 => .bool p.waits
  | 2 => .int .i64 p.state
  | 3 => .int .i64 p.step
  | _ => .int .i64 p.other

/-- The cells of a lock. -/
def enc (L : Lock) (o : Nat) : Value := if o = 0 then .int .i64 L.tail else if o = 81 then .int .i64 L.n else (L.ps ((o - 1) / 5)).cell ((o - 1) % 5)

theorem enc_at (L : Lock) {i j : Nat} (hi : i < 16) (hj : j < 5) : enc L (1 + i * 5 + j) = (L.ps i).cell j := by
  unfold enc
  rw [if_neg (by omega), if_neg (by omega), show (1 + i * 5 + j - 1) / 5 = i from by omega, show (1 + i * 5 + j - 1) % 5 = j from by omega]

def IsLock (w : World) (b : Nat) (L : Lock) : Prop := Blk w b 48 82 (enc L)

theorem IsLock.tail {w : World} {b : Nat} {L : Lock} (h : IsLock w b L) : w.cell? ⟨b, 0, none⟩ = some (.int .i64 L.tail) := (Blk.cell h (o := 0) (by omega)).trans rfl
theorem IsLock.num {w : World} {b : Nat} {L : Lock} (h : IsLock w b L) : w.cell? ⟨b, 81, none⟩ = some (.int .i64 L.n) := (Blk.cell h (o := 81) (by omega)).trans rfl

theorem IsLock.cells {w : World} {b : Nat} {L : Lock} (h : IsLock w b L) {i : Nat} (hi : i < 16) :
    w.cell? ⟨b, 1 + i * 5, none⟩ = some (.int .i64 (L.ps i).next) ∧ w.cell? ⟨b, 1 + i * 5 + 1, none⟩ = some (.bool (L.ps i).waits) ∧ w.cell? ⟨b, 1 + i * 5 + 2, none⟩ = some (.int .i64 (L.ps i).state) ∧
    w.cell? ⟨b, 1 + i * 5 + 3, none⟩ = some (.int .i64 (L.ps i).step) ∧ w.cell? ⟨b, 1 + i * 5 + 4, none⟩ = some (.int .i64 (L.ps i).other) := by
  have hb : ∀ j, j < 5 → w.cell? ⟨b, 1 + i * 5 + j, none⟩ = some ((L.ps i).cell j) := fun j hj => by rw [Blk.cell h (by omega), enc_at L hi hj]
  exact ⟨hb 0 (by omega), hb 1 (by omega), hb 2 (by omega), hb 3 (by omega), hb 4 (by omega)⟩

theorem IsLock.setTail {w : World} {b : Nat} {L : Lock} (h : IsLock w b L) (t : Int) : IsLock (w.setCell ⟨b, 0, none⟩ (.int .i64 t)) b (L.setT t) := by
  refine (Blk.set h 0 _).congr fun o ho => ?_
  by_cases e : o = 0
  · subst e; rw [upd_same]; rfl
  · rw [upd_other _ _ e]
    simp [enc, e]

theorem IsLock.setParty {w : World} {b : Nat} {L : Lock} (h : IsLock w b L) {i : Nat} (j : Nat) (hi : i < 16) (hj : j < 5) (p : Party) (hp : ∀ k, k < 5 → k ≠ j → p.cell k = (L.ps i).cell k) :
    IsLock (w.setCell ⟨b, 1 + i * 5 + j, none⟩ (p.cell j)) b (L.setP i p) := by
  refine (Blk.set h _ _).congr fun o ho => ?_
  by_cases e0 : o = 0
  · subst e0
    rw [upd_other _ _ (by omega)]
    rfl
  by_cases e1 : o = 81
  · subst e1
    rw [upd_other _ _ (by omega)]
    rfl
  have hen : ∀ M : Lock, enc M o = (M.ps ((o - 1) / 5)).cell ((o - 1) % 5) := fun M => by unfold enc; rw [if_neg e0, if_neg e1]
  rw [hen]
  by_cases e : o = 1 + i * 5 + j
  · subst e
    rw [upd_same, show (1 + i * 5 + j - 1) / 5 = i from by omega, show (1 + i * 5 + j - 1) % 5 = j from by omega, Lock.setP_same]
  · rw [upd_other _ _ e, hen]
    by_cases e2 : (o - 1) / 5 = i
    · rw [e2, Lock.setP_same, hp _ (Nat.mod_lt _ (by omega)) (by omega)]
    · rw [Lock.setP_other _ _ e2]

theorem IsLock.setNext {w : World} {b i : Nat} {L : Lock} (h : IsLock w b L) (hi : i < 16) (v : Int) : IsLock (w.setCell ⟨b, 1 + i * 5, none⟩ (.int .i64 v)) b (L.setP i { L.ps i with next := v }) :=
  h.setParty 0 hi (by omega) { L.ps i with next := v } (fun k hk hn => by match k, hk, hn with | 1, _, _ => rfl | 2, _, _ => rfl | 3, _, _ => rfl | 4, _, _ => rfl)
theorem IsLock.setWaits {w : World} {b i : Nat} {L : Lock} (h : IsLock w b L) (hi : i < 16) (v : Bool) : IsLock (w.setCell ⟨b, 1 + i * 5 + 1, none⟩ (.bool v)) b (L.setP i { L.ps i with waits := v }) :=
  h.setParty 1 hi (by omega) { L.ps i with waits := v } (fun k hk hn => by match k, hk, hn with | 0, _, _ => rfl | 2, _, _ => rfl | 3, _, _ => rfl | 4, _, _ => rfl)
theorem IsLock.setState {w : World} {b i : Nat} {L : Lock} (h : IsLock w b L) (hi : i < 16) (v : Int) : IsLock (w.setCell ⟨b, 1 + i * 5 + 2, none⟩ (.int .i64 v)) b (L.setP i { L.ps i with state := v }) :=
  h.setParty 2 hi (by omega) { L.ps i with state := v } (fun k hk hn => by match k, hk, hn with | 0, _, _ => rfl | 1, _, _ => rfl | 3, _, _ => rfl | 4, _, _ => rfl)
theorem IsLock.setStep {w : World} {b i : Nat} {L : Lock} (h : IsLock w b L) (hi : i < 16) (v : Int) : IsLock (w.setCell ⟨b, 1 + i * 5 + 3, none⟩ (.int .i64 v)) b (L.setP i { L.ps i with step := v }) :=
  h.setParty 3 hi (by omega) { L.ps i with step := v } (fun k hk hn => by match k, hk, hn with | 0, _, _ => rfl | 1, _, _ => rfl | 2, _, _ => rfl | 4, _, _ => rfl)
theorem IsLock.setOther {w : World} {b i : Nat} {L : Lock} (h : IsLock w b L) (hi : i < 16) (v : Int) : IsLock (w.setCell ⟨b, 1 + i * 5 + 4, none⟩ (.int .i64 v)) b (L.setP i { L.ps i with other := v }) :=
  h.setParty 4 hi (by omega) { L.ps i with other := v } (fun k hk hn => by
    have : k = 0 ∨ k = 1 ∨ k = 2 ∨ k = 3 := by omega
    rcases this with rfl | rfl | rfl | rfl <;> rfl)

/-- What a call of one of the lock's functions may turn: the lock's own block. -/
def Only (b : Nat) : Nat → Prop := fun k => k = b
theorem Frm.own {a w : World} {b : Nat} (h : Frm (Only b) a w) (o : Nat) (v : Value) : Frm (Only b) a (w.setCell ⟨b, o, none⟩ v) := h.setCell (p := ⟨b, o, none⟩) (fun _ => rfl) v

theorem at_ok (b i n : Nat) (w : World) (h : w.cell? ⟨b, 81, none⟩ = some (.int .i64 n)) (hi : i < n) (hn : n ≤ 16) :
    Calls Try.prog 17 #[.pointer (some ⟨b, 0, none⟩), .int .i64 i] w fun r w' => r = .returned (.pointer (some ⟨b, 1 + i * 5, none⟩)) ∧ w = w' := by
  go_enter Try.func17, Try.ntmps17
  go_wp2
  go_ret
  exact ⟨rfl, rfl⟩

theorem at_no (b n : Nat) (who : Int) (w : World) (h : w.cell? ⟨b, 81, none⟩ = some (.int .i64 n)) (hi : who < 0 ∨ (n : Int) ≤ who) :
    Calls Try.prog 17 #[.pointer (some ⟨b, 0, none⟩), .int .i64 who] w fun r w' => r = .returned (.pointer none) ∧ w = w' := by
  rcases hi with hi | hi
  · go_enter Try.func17, Try.ntmps17
    go_wp2
    go_ret
    exact ⟨rfl, rfl⟩
  · have h0 : ¬ who < 0 := by omega
    go_enter Try.func17, Try.ntmps17
    go_wp2
    go_ret
    exact ⟨rfl, rfl⟩

theorem at_nil (who : Int) (w : World) : Calls Try.prog 17 #[.pointer none, .int .i64 who] w fun r w' => r = .returned (.pointer none) ∧ w = w' := by
  go_enter Try.func17, Try.ntmps17
  go_wp2
  go_ret
  exact ⟨rfl, rfl⟩

/-- A step of taking. -/
theorem take_any (b i : Nat) (L : Lock) (w : World) (h : IsLock w b L) (ok : L.Ok) (hi : i < L.n) (hs : (L.ps i).state = 1) :
    Calls Try.prog 18 #[.pointer (some ⟨b, 0, none⟩), .int .i64 i, .pointer (some ⟨b, 1 + i * 5, none⟩)] w
      fun r w' => r = .returned (.tuple #[]) ∧ IsLock w' b (L.take i) ∧ Frm (Only b) w w' := by
  have hn := ok.n
  have hi16 : i < 16 := by omega
  have hp := ok.ps i
  obtain ⟨c0, c1, c2, c3, c4⟩ := h.cells hi16
  have ct := h.tail
  have fz : ∀ o, w.frozen? ⟨b, o, none⟩ = false := Blk.frozen h
  have h1 := hp.taking hs
  have HL := Lib.hid h
  clear h
  by_cases e1 : (L.ps i).step = 1
  · rw [e1] at c3
    have HE := Lib.hid e1
    clear e1 hs h1 hp hn ok
    go_enter Try.func18, Try.ntmps18
    go_wp2
    go_end0
    refine ⟨rfl, ?_, ((Frm.refl _ _).own _ _).own _ _⟩
    have := (HL.out.setNext hi16 (-1)).setStep hi16 2
    rw [Lock.setP_same, Lock.setP_setP] at this
    unfold Lock.take
    rw [if_pos HE.out]
    exact this
  by_cases e2 : (L.ps i).step = 2
  · rw [e2] at c3
    have HE1 := Lib.hid e1
    have HE := Lib.hid e2
    clear e1 e2 hs h1 hp hn ok
    go_enter Try.func18, Try.ntmps18
    go_wp2
    go_end0
    refine ⟨rfl, ?_, ((Frm.refl _ _).own _ _).own _ _⟩
    have := (HL.out.setWaits hi16 true).setStep hi16 3
    rw [Lock.setP_same, Lock.setP_setP] at this
    unfold Lock.take
    rw [if_neg HE1.out, if_pos HE.out]
    exact this
  by_cases e3 : (L.ps i).step = 3
  · rw [e3] at c3
    have HE1 := Lib.hid e1
    have HE2 := Lib.hid e2
    have HE := Lib.hid e3
    by_cases e : L.tail = -1
    · have HT := Lib.hid e
      rw [e] at ct
      clear e1 e2 e3 hs h1 hp hn ok e
      go_enter Try.func18, Try.ntmps18
      go_wp2
      go_end0
      refine ⟨rfl, ?_, ((((Frm.refl _ _).own _ _).own _ _).own _ _).own _ _⟩
      have := (((HL.out.setOther hi16 (-1)).setTail i).setState hi16 2).setStep hi16 4
      unfold Lock.take
      rw [if_neg HE1.out, if_neg HE2.out, if_pos HE.out, HT.out, if_pos rfl]
      simp only [Lock.setT_ps, Lock.setT_setP, Lock.setP_same, Lock.setP_setP] at this
      exact this
    · have HT := Lib.hid e
      have e' : (L.tail == -1) = false := by simpa using e
      clear e1 e2 e3 hs h1 hp hn ok e
      go_enter Try.func18, Try.ntmps18
      go_wp2
      go_end0
      refine ⟨rfl, ?_, (((Frm.refl _ _).own _ _).own _ _).own _ _⟩
      have := ((HL.out.setOther hi16 L.tail).setTail i).setStep hi16 4
      unfold Lock.take
      rw [if_neg HE1.out, if_neg HE2.out, if_pos HE.out, if_neg HT.out]
      simp only [Lock.setT_ps, Lock.setT_setP, Lock.setP_same, Lock.setP_setP] at this
      exact this
  by_cases e4 : (L.ps i).step = 4
  · have hl := hp.link hs e4
    have ho := hp.other
    obtain ⟨o, hoe⟩ : ∃ o : Nat, (L.ps i).other = o := ⟨(L.ps i).other.toNat, by omega⟩
    have ho16 : o < 16 := by omega
    obtain ⟨d0, d1, d2, d3, d4⟩ := HL.out.cells ho16
    rw [hoe] at c4
    rw [e4] at c3
    have HO := Lib.hid hoe
    have HE1 := Lib.hid e1
    have HE2 := Lib.hid e2
    have HE3 := Lib.hid e3
    have HE := Lib.hid e4
    have hw := (HL.out.setNext ho16 i).cells hi16
    have c3' : (w.setCell ⟨b, 1 + o * 5, none⟩ (.int .i64 i)).cell? ⟨b, 1 + i * 5 + 3, none⟩ = some (.int .i64 4) := by
      rw [hw.2.2.2.1]
      by_cases eo : i = o
      · subst eo; rw [Lock.setP_same]; simp only [e4]
      · rw [Lock.setP_other _ _ eo, e4]
    have HP := Lib.hid (ok.ps i)
    clear e1 e2 e3 e4 hs h1 hp hn ok hoe hl ho hw
    go_enter Try.func18, Try.ntmps18
    go_wp2
    go_region
    all_goals
      go_wp2
      go_end0
      refine ⟨rfl, ?_, (((Frm.refl _ _).own _ _).own _ _).drew⟩
      have := (HL.out.setNext ho16 i).setStep hi16 5
      unfold Lock.take
      rw [if_neg HE1.out, if_neg HE2.out, if_neg HE3.out, if_pos HE.out, HO.out]
      exact Blk.drew this
  · have e5 : (L.ps i).step = 5 := by omega
    rw [e5] at c3
    have HE1 := Lib.hid e1
    have HE2 := Lib.hid e2
    have HE3 := Lib.hid e3
    have HE4 := Lib.hid e4
    have HE5 := Lib.hid e5
    cases hw : (L.ps i).waits with
    | true =>
      rw [hw] at c1
      have HW := Lib.hid hw
      clear e1 e2 e3 e4 e5 hs h1 hp hn ok hw
      go_enter Try.func18, Try.ntmps18
      go_wp2
      refine bodyPost_ret (results_none rfl _ _ _) rfl ?_
      refine ⟨rfl, ?_, Frm.refl _ _⟩
      unfold Lock.take
      rw [if_neg HE1.out, if_neg HE2.out, if_neg HE3.out, if_neg HE4.out, if_pos HW.out]
      exact HL.out
    | false =>
      rw [hw] at c1
      have HW := Lib.hid hw
      clear e1 e2 e3 e4 e5 hs h1 hp hn ok hw
      go_enter Try.func18, Try.ntmps18
      go_wp2
      go_end0
      refine ⟨rfl, ?_, ((Frm.refl _ _).own _ _).own _ _⟩
      have := (HL.out.setState hi16 2).setStep hi16 6
      unfold Lock.take
      rw [if_neg HE1.out, if_neg HE2.out, if_neg HE3.out, if_neg HE4.out, HW.out, if_neg (by simp), HE5.out]
      simp only [Lock.setP_same, Lock.setP_setP] at this
      exact this
end Go.Proofs.Ythhcmilijiccmaa
