/- turn, as Burst calls it (package bubble). No condition. -/
import Derived.Test.YtmbdhpibkhgkcaaM
namespace Go.Proofs.Ytmbdhpibkhgkcaa
open Go.RowKit

/-- The bubbles before index k are turned, where they are so. -/
def bsK (own : Nat → Bool) (tr : Bk → Bk) (bs : Nat → Bk) (k : Nat) : Nat → Bk := fun i => if i < k ∧ own i = true then tr (bs i) else bs i
def ownL (own : Nat → Bool) (k : Nat) : List Nat := (List.range k).filter own
theorem bsK_zero (own : Nat → Bool) (tr : Bk → Bk) (bs : Nat → Bk) : bsK own tr bs 0 = bs := by funext i; simp [bsK]
theorem bsK_at (own : Nat → Bool) (tr : Bk → Bk) (bs : Nat → Bk) (k : Nat) : bsK own tr bs k k = bs k := by simp [bsK]
theorem bsK_yes {own : Nat → Bool} {tr : Bk → Bk} {bs : Nat → Bk} {k : Nat} (h : own k = true) : updT (bsK own tr bs k) k (tr (bs k)) = bsK own tr bs (k + 1) := by
  funext i
  unfold updT bsK
  by_cases e : i = k
  · subst e; rw [if_pos rfl, if_pos ⟨by omega, h⟩]
  · rw [if_neg e]
    by_cases h1 : i < k ∧ own i = true
    · rw [if_pos h1, if_pos ⟨by omega, h1.2⟩]
    · rw [if_neg h1, if_neg (fun h2 => h1 ⟨by omega, h2.2⟩)]
theorem bsK_no {own : Nat → Bool} {tr : Bk → Bk} {bs : Nat → Bk} {k : Nat} (h : own k = false) : bsK own tr bs k = bsK own tr bs (k + 1) := by
  funext i
  unfold bsK
  by_cases h1 : i < k ∧ own i = true
  · rw [if_pos h1, if_pos ⟨by omega, h1.2⟩]
  · rw [if_neg h1, if_neg (fun h2 => h1 ⟨by
      have : i ≠ k := fun e => by subst e; rw [h] at h2; cases h2.2
      omega, h2.2⟩)]
theorem ownL_yes {own : Nat → Bool} {k : Nat} (h : own k = true) : ownL own (k + 1) = ownL own k ++ [k] := by
  unfold ownL
  rw [List.range_succ, List.filter_append]
  simp [h]
theorem ownL_no {own : Nat → Bool} {k : Nat} (h : own k = false) : ownL own (k + 1) = ownL own k := by
  unfold ownL
  rw [List.range_succ, List.filter_append]
  simp [h]
theorem ownL_len (own : Nat → Bool) (k : Nat) : (ownL own k).length ≤ k := by
  have := List.length_filter_le own (List.range k)
  simpa [ownL] using this
theorem intsL_more (l : List Nat) (k : Nat) : intsL l ++ [.int .i64 (k : Nat)] = intsL (l ++ [k]) := by simp [intsL]

def TurnedTo (w : World) (base fb : Nat) (lv : Value) (n : Nat) (bs' : Nat → Bk) (l : List Nat) (r : Ending) (w' : World) : Prop :=
  ∃ v, r = .returned v ∧ w'.ownsRow w.heap.size 3 1 v l.length (intsL l) ∧ IsFo w' base fb lv n bs' ∧ Frm (FoS fb lv) w w'

/-- At turn's loop. -/
def TurnAt (w : World) (base fb : Nat) (lv : Value) (n : Nat) (own : Nat → Bool) (tr : Bk → Bk) (bs : Nat → Bk) (k : Nat) (v : Value) (wr : World) : Prop :=
  wr.ownsRow w.heap.size 3 1 v (ownL own k).length (intsL (ownL own k)) ∧ IsFo wr base fb lv n (bsK own tr bs k) ∧ Frm (FoS fb lv) w wr

section
variable {w : World} {base fb n : Nat} {lv : Value} {bs : Nat → Bk}

set_option maxRecDepth 100000 in
set_option maxHeartbeats 2000000 in
theorem TurnB_any (h : IsFo w base fb lv n bs) (own : Nat → Bool) (tr : Bk → Bk) (F B Hm : Nat)
    (HIS0 : ∀ (wr : World) (k : Nat), k < n → Frm (FoS fb lv) w wr → IsFo wr base fb lv n (bsK own tr bs k) → Calls Try.prog 25 (#[.int .i64 k] ++ #[.pointer (some ⟨F, 0, none⟩), .pointer (some ⟨B, 0, none⟩)]) wr fun r w' => r = .returned (.bool (own k)) ∧ ∃ j, w' = wr.drewN j)
    (HDO0 : ∀ (wr : World) (g cap k : Nat), k < n → lv = .slice (some ⟨g, 0, none⟩) n cap → Frm (FoS fb lv) w wr → IsFo wr base fb lv n (bsK own tr bs k) → Calls Try.prog 27 (#[.pointer (some ⟨g, k * 19, none⟩)] ++ #[.pointer (some ⟨Hm, 0, none⟩)]) wr fun r w' => r = .returned (.tuple #[]) ∧ IsFo w' base fb lv n (updT (bsK own tr bs k) k (tr (bsK own tr bs k k))) ∧ Frm (FoS fb lv) wr w') :
    Calls Try.prog 26 #[.pointer (some ⟨fb, 0, none⟩), .func (Fn.func 25) #[] #[.pointer (some ⟨F, 0, none⟩), .pointer (some ⟨B, 0, none⟩)], .func (Fn.func 27) #[] #[.pointer (some ⟨Hm, 0, none⟩)]] w (TurnedTo w base fb lv n (bsK own tr bs n) (ownL own n)) := by
  have HIS := Lib.hid HIS0
  have HDO := Lib.hid HDO0
  have H := Lib.hid h
  have hmost := h.most
  have hmf : ∀ (fn : Fn) (first cap : Array Value) (w : World), (Instr.makeFunc fn first cap).run Try.prog w = .ok (.func fn first cap) w := fun _ _ _ _ => rfl
  obtain ⟨av, lcap, hlv, hg⟩ := h.lvForm
  have c0 := h.c0
  have HG := Lib.hid hg
  obtain ⟨i3, I3, Z3, S3, B3⟩ := info_parts Try.info3i
  have I3 := Lib.hid I3
  have Z3 := Lib.hid Z3
  have S3 := Lib.hid S3
  have B3 := Lib.hid B3
  subst hlv
  clear h HIS0 HDO0 hg
  go_enter Try.func26, Try.ntmps26
  go_wp2_with fail
  go_loopw [6, 13] (fun v s wr => ∃ k : Nat, k ≤ n ∧ s = .int .i64 k ∧ TurnAt w base fb (.slice av n lcap) n own tr bs k v wr) (fun _ s _ => n - (intOf s).toNat)
  case atStart => exact ⟨0, Nat.zero_le _, rfl, World.ownsRow_nil _ _ _ _, by rw [bsK_zero]; exact H.out, Frm.refl _ _⟩
  case round =>
    obtain ⟨k, hk, rfl, hO, hF, hFr⟩ := hrel
    have HO := Lib.hid hO
    have HF := Lib.hid hF
    have HFr := Lib.hid hFr
    have hll := ownL_len own k
    clear hO hF hFr
    by_cases hlt : k < n
    · have hltI : (k : Int) < n := by omega
      obtain ⟨g, rfl, hgb⟩ := HG.out (by omega)
      have HI := Lib.hid (HIS.out wr k hlt HFr.out HF.out)
      cases ho : own k with
      | false =>
        rw [ho] at HI
        have HK := Lib.hid (bsK_no (tr := tr) (bs := bs) ho)
        have HL := Lib.hid (ownL_no ho)
        clear ho
        go_wp2_with fail
        refine HI.out.mono ?_
        rintro r w' ⟨rfl, j, rfl⟩
        go_wp2_with fail
        go_roundw
        case rel => exact ⟨k + 1, by omega, by go_num, by rw [HL.out]; exact own_of_heap HO.out (fun _ _ => rfl), by rw [← HK.out]; exact HF.out.drewN j, HFr.out.drewN j⟩
        case measure => simp [intOf]; omega
      | true =>
        rw [ho] at HI
        have HK := Lib.hid (bsK_yes (tr := tr) (bs := bs) ho)
        have HL := Lib.hid (ownL_yes ho)
        have HD := Lib.hid (fun (j : Nat) => HDO.out (wr.drewN j) g lcap k hlt rfl (HFr.out.drewN j) (HF.out.drewN j))
        rw [bsK_at] at HD
        clear ho
        go_wp2_with fail
        refine HI.out.mono ?_
        rintro r w' ⟨rfl, j, rfl⟩
        have k0 := (HF.out.drewN j).c0
        go_wp2_with fail
        refine (HD.out j).mono ?_
        rintro r w4 ⟨rfl, hF4, hFr4⟩
        rw [HK.out] at hF4
        have HF4 := Lib.hid hF4
        have HFr4 := Lib.hid ((HFr.out.drewN j).trans (hFr4.mono fun _ _ h => h))
        have HO4 := Lib.hid (show w4.ownsRow w.heap.size 3 1 u6 (ownL own k).length (intsL (ownL own k)) from own_of_heap HO.out fun j' hj => by
          have hlt2 := (HO.out.lt j' hj)
          exact hFr4.block j' (show j' < wr.heap.size from hlt2.2) (fun hs => by
            rcases hs with e | e
            · have := H.out.top.lt; omega
            · have := (H.out.own.lt j' e.symm).2; omega))
        clear hF4 hFr4 k0
        have hsz : w.heap.size ≤ (w4.alloc (.cells #[.int .i64 k] 3)).heap.size := by have := HFr4.out.size; simp; omega
        go_wp2_with (at_builtin; refine wpList_append_own _ rfl _ _ 31 rfl w.heap.size 3 i3 _ 1 8 Try.underlying31 I3.out Z3.out S3.out B3.out rfl (by decide) _ _ _ rfl (HO4.out.alloc _) ⟨w4.heap.size, 0, none⟩ 1 1 [.int .i64 k] rfl rfl (cells_new1 _ _ _) (by simp [Value.oneCell']) (by simp only [maxLen]; omega) (by omega) hsz ?_; intro v' w5 hown' hgrow _; rw [intsL_more] at hown'; have HO5 := Lib.hid hown'; have HG5 := Lib.hid hgrow; clear hown' hgrow)
        have hF5 := (HF4.out.alloc (.cells #[.int .i64 k] 3)).of_frm (S := fun j => some j = u6.ownBlock) ⟨HG5.out.os, HG5.out.tape, HG5.out.output, HG5.out.size, fun j hj hs => HG5.out.block j hj hs⟩ (fun hs => by have := (HO4.out.lt _ hs.symm).1; have := H.out.top.lt; omega) (fun g' hg' hs => by have := (HO4.out.lt g' hs.symm).1; have := (H.out.own.lt g' hg').2; omega)
        have hFr5 : Frm (FoS fb (.slice (some ⟨g, 0, none⟩) n lcap)) w w5 := ⟨HG5.out.os.trans (HFr4.out.alloc (.cells #[.int .i64 k] 3)).os, HG5.out.tape.trans (HFr4.out.alloc (.cells #[.int .i64 k] 3)).tape, HG5.out.output.trans (HFr4.out.alloc (.cells #[.int .i64 k] 3)).output, Nat.le_trans hsz HG5.out.size, fun j hj hs => (HG5.out.block j (by simp; have := HFr4.out.size; omega) (fun e => by have := (HO4.out.lt j e.symm).1; omega)).trans ((HFr4.out.alloc (.cells #[.int .i64 k] 3)).block j hj hs)⟩
        go_roundw
        case rel => exact ⟨k + 1, by omega, by go_num, by rw [HL.out, List.length_append]; exact HO5.out, hF5, hFr5⟩
        case measure => simp [intOf]; omega
    · obtain rfl : k = n := by omega
      go_wp2_with fail
      go_ret
      exact ⟨_, rfl, HO.out, HF.out, HFr.out⟩

set_option maxRecDepth 100000 in
set_option maxHeartbeats 2000000 in
theorem TurnR_any (h : IsFo w base fb lv n bs) (own : Nat → Bool) (tr : Bk → Bk) (F B : Nat)
    (HIS0 : ∀ (wr : World) (k : Nat), k < n → Frm (FoS fb lv) w wr → IsFo wr base fb lv n (bsK own tr bs k) → Calls Try.prog 39 (#[.int .i64 k] ++ #[.pointer (some ⟨B, 0, none⟩), .pointer (some ⟨F, 0, none⟩)]) wr fun r w' => r = .returned (.bool (own k)) ∧ ∃ j, w' = wr.drewN j)
    (HDO0 : ∀ (wr : World) (g cap k : Nat), k < n → lv = .slice (some ⟨g, 0, none⟩) n cap → Frm (FoS fb lv) w wr → IsFo wr base fb lv n (bsK own tr bs k) → Calls Try.prog 40 (#[.pointer (some ⟨g, k * 19, none⟩)] ++ #[]) wr fun r w' => r = .returned (.tuple #[]) ∧ IsFo w' base fb lv n (updT (bsK own tr bs k) k (tr (bsK own tr bs k k))) ∧ Frm (FoS fb lv) wr w') :
    Calls Try.prog 26 #[.pointer (some ⟨fb, 0, none⟩), .func (Fn.func 39) #[] #[.pointer (some ⟨B, 0, none⟩), .pointer (some ⟨F, 0, none⟩)], .func (Fn.func 40) #[] #[]] w (TurnedTo w base fb lv n (bsK own tr bs n) (ownL own n)) := by
  have HIS := Lib.hid HIS0
  have HDO := Lib.hid HDO0
  have H := Lib.hid h
  have hmost := h.most
  have hmf : ∀ (fn : Fn) (first cap : Array Value) (w : World), (Instr.makeFunc fn first cap).run Try.prog w = .ok (.func fn first cap) w := fun _ _ _ _ => rfl
  obtain ⟨av, lcap, hlv, hg⟩ := h.lvForm
  have c0 := h.c0
  have HG := Lib.hid hg
  obtain ⟨i3, I3, Z3, S3, B3⟩ := info_parts Try.info3i
  have I3 := Lib.hid I3
  have Z3 := Lib.hid Z3
  have S3 := Lib.hid S3
  have B3 := Lib.hid B3
  subst hlv
  clear h HIS0 HDO0 hg
  go_enter Try.func26, Try.ntmps26
  go_wp2_with fail
  go_loopw [6, 13] (fun v s wr => ∃ k : Nat, k ≤ n ∧ s = .int .i64 k ∧ TurnAt w base fb (.slice av n lcap) n own tr bs k v wr) (fun _ s _ => n - (intOf s).toNat)
  case atStart => exact ⟨0, Nat.zero_le _, rfl, World.ownsRow_nil _ _ _ _, by rw [bsK_zero]; exact H.out, Frm.refl _ _⟩
  case round =>
    obtain ⟨k, hk, rfl, hO, hF, hFr⟩ := hrel
    have HO := Lib.hid hO
    have HF := Lib.hid hF
    have HFr := Lib.hid hFr
    have hll := ownL_len own k
    clear hO hF hFr
    by_cases hlt : k < n
    · have hltI : (k : Int) < n := by omega
      obtain ⟨g, rfl, hgb⟩ := HG.out (by omega)
      have HI := Lib.hid (HIS.out wr k hlt HFr.out HF.out)
      cases ho : own k with
      | false =>
        rw [ho] at HI
        have HK := Lib.hid (bsK_no (tr := tr) (bs := bs) ho)
        have HL := Lib.hid (ownL_no ho)
        clear ho
        go_wp2_with fail
        refine HI.out.mono ?_
        rintro r w' ⟨rfl, j, rfl⟩
        go_wp2_with fail
        go_roundw
        case rel => exact ⟨k + 1, by omega, by go_num, by rw [HL.out]; exact own_of_heap HO.out (fun _ _ => rfl), by rw [← HK.out]; exact HF.out.drewN j, HFr.out.drewN j⟩
        case measure => simp [intOf]; omega
      | true =>
        rw [ho] at HI
        have HK := Lib.hid (bsK_yes (tr := tr) (bs := bs) ho)
        have HL := Lib.hid (ownL_yes ho)
        have HD := Lib.hid (fun (j : Nat) => HDO.out (wr.drewN j) g lcap k hlt rfl (HFr.out.drewN j) (HF.out.drewN j))
        rw [bsK_at] at HD
        clear ho
        go_wp2_with fail
        refine HI.out.mono ?_
        rintro r w' ⟨rfl, j, rfl⟩
        have k0 := (HF.out.drewN j).c0
        go_wp2_with fail
        refine (HD.out j).mono ?_
        rintro r w4 ⟨rfl, hF4, hFr4⟩
        rw [HK.out] at hF4
        have HF4 := Lib.hid hF4
        have HFr4 := Lib.hid ((HFr.out.drewN j).trans (hFr4.mono fun _ _ h => h))
        have HO4 := Lib.hid (show w4.ownsRow w.heap.size 3 1 u6 (ownL own k).length (intsL (ownL own k)) from own_of_heap HO.out fun j' hj => by
          have hlt2 := (HO.out.lt j' hj)
          exact hFr4.block j' (show j' < wr.heap.size from hlt2.2) (fun hs => by
            rcases hs with e | e
            · have := H.out.top.lt; omega
            · have := (H.out.own.lt j' e.symm).2; omega))
        clear hF4 hFr4 k0
        have hsz : w.heap.size ≤ (w4.alloc (.cells #[.int .i64 k] 3)).heap.size := by have := HFr4.out.size; simp; omega
        go_wp2_with (at_builtin; refine wpList_append_own _ rfl _ _ 31 rfl w.heap.size 3 i3 _ 1 8 Try.underlying31 I3.out Z3.out S3.out B3.out rfl (by decide) _ _ _ rfl (HO4.out.alloc _) ⟨w4.heap.size, 0, none⟩ 1 1 [.int .i64 k] rfl rfl (cells_new1 _ _ _) (by simp [Value.oneCell']) (by simp only [maxLen]; omega) (by omega) hsz ?_; intro v' w5 hown' hgrow _; rw [intsL_more] at hown'; have HO5 := Lib.hid hown'; have HG5 := Lib.hid hgrow; clear hown' hgrow)
        have hF5 := (HF4.out.alloc (.cells #[.int .i64 k] 3)).of_frm (S := fun j => some j = u6.ownBlock) ⟨HG5.out.os, HG5.out.tape, HG5.out.output, HG5.out.size, fun j hj hs => HG5.out.block j hj hs⟩ (fun hs => by have := (HO4.out.lt _ hs.symm).1; have := H.out.top.lt; omega) (fun g' hg' hs => by have := (HO4.out.lt g' hs.symm).1; have := (H.out.own.lt g' hg').2; omega)
        have hFr5 : Frm (FoS fb (.slice (some ⟨g, 0, none⟩) n lcap)) w w5 := ⟨HG5.out.os.trans (HFr4.out.alloc (.cells #[.int .i64 k] 3)).os, HG5.out.tape.trans (HFr4.out.alloc (.cells #[.int .i64 k] 3)).tape, HG5.out.output.trans (HFr4.out.alloc (.cells #[.int .i64 k] 3)).output, Nat.le_trans hsz HG5.out.size, fun j hj hs => (HG5.out.block j (by simp; have := HFr4.out.size; omega) (fun e => by have := (HO4.out.lt j e.symm).1; omega)).trans ((HFr4.out.alloc (.cells #[.int .i64 k] 3)).block j hj hs)⟩
        go_roundw
        case rel => exact ⟨k + 1, by omega, by go_num, by rw [HL.out, List.length_append]; exact HO5.out, hF5, hFr5⟩
        case measure => simp [intOf]; omega
    · obtain rfl : k = n := by omega
      go_wp2_with fail
      go_ret
      exact ⟨_, rfl, HO.out, HF.out, HFr.out⟩

end
end Go.Proofs.Ytmbdhpibkhgkcaa
