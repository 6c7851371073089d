/- A call of the law to the forest and to the document's bubbles. No condition. -/
import Derived.Test.YtmbdhpibkhgkcaaZ
namespace Go.Proofs.Ytmbdhpibkhgkcaa
open Go.RowKit

/-- What one operation makes of the bubbles. -/
def doD (n : Nat) (bs : Nat → Bk) (o : Opn) : Nat × (Nat → Bk) :=
  if o.kind % 6 < 2 then ((makeD n bs o.b o.mask).2.2.1, (makeD n bs o.b o.mask).2.2.2) else if o.kind % 6 = 2 then (n, (sealD n bs o.b).2) else if o.kind % 6 = 3 then (n, (placeD n bs o.b o.home).2)
  else if o.kind % 6 = 4 then (n, (burstD n bs o.b).2.2) else (n, (regenD n bs o.b o.home).2.2)

def DoneTo (w0 : World) (base fb : Nat) (Kp : List (Nat × Obj)) (q : Nat × (Nat → Bk)) (r : Ending) (w' : World) : Prop :=
  ∃ v' lv', r = .returned (.tuple #[v', .bool true]) ∧ Pb w0 w' base fb Kp lv' v' q.1 q.2 q.1 q.2

section
variable {w0 w w1 w2 : World} {base fb n : Nat} {Kp : List (Nat × Obj)} {lv rv : Value} {bs : Nat → Bk}

theorem Pb.both {n' : Nat} {bs' : Nat → Bk} {lv' rv' : Value} (h : Pb w0 w base fb Kp lv rv n bs n bs) (hB : Below w.heap.size w w1) (hS : SlB w1 rv' n' bs') (hg : 0 < n' → ∀ g, rv'.ownBlock = some g → (0 < n ∧ rv.ownBlock = some g) ∨ w.heap.size ≤ g)
    (hT : IsFo w2 base fb lv' n' bs') (hF : Frm (FoS fb lv) w1 w2) (hb : lv'.ownBlock = lv.ownBlock ∨ ∃ g, w1.heap.size ≤ g ∧ lv'.ownBlock = some g) : Pb w0 w2 base fb Kp lv' rv' n' bs' n' bs' := by
  have h1 := h.below hB
  have hsep : 0 < n' → ∀ g, rv'.ownBlock = some g → g ≠ fb ∧ lv.ownBlock ≠ some g ∧ g < w1.heap.size := fun h0 g hgg => by
    rcases hg h0 g hgg with ⟨h2, e⟩ | e
    · exact h1.sep h2 g e
    · refine ⟨fun e2 => by have := h.tab.top.lt; omega, fun e2 => by have := (h.tab.own.lt g e2).2; omega, ?_⟩
      obtain ⟨a, cap, rfl, hx⟩ := hS
      obtain ⟨g', rfl, hc⟩ := hx h0
      have e1 := Option.some.inj hgg
      have hlt := World.block_lt_of_cell? _ _ (hc 0 0 h0 (by omega))
      simp only at hlt e1
      omega
  have h2 := h1.real hT hF hb
  refine ⟨h2.tab, hS.keep hF (fun h0 g hgg hs => ?_), ⟨h2.tab.ups, h2.tab.most⟩, fun h0 g hgg => ?_, h2.keep, h2.bel, h2.low⟩
  · rcases hs with e | e
    · exact (hsep h0 g hgg).1 e
    · exact (hsep h0 g hgg).2.1 e.symm
  · obtain ⟨s1, s2, s3⟩ := hsep h0 g hgg
    refine ⟨s1, fun e => ?_, Nat.lt_of_lt_of_le s3 hF.size⟩
    rcases hb with e2 | ⟨g2, h3, e2⟩
    · exact s2 (by rw [← e2]; exact e)
    · rw [e2] at e
      have := Option.some.inj e
      omega

set_option maxRecDepth 100000 in
set_option maxHeartbeats 2000000 in
theorem do_make0 (h : Pb w0 w base fb Kp lv rv n bs n bs) (K b home : Int) (mask : Ws) (h0 : 0 ≤ K) (hk : K % 6 = 0) :
    Calls Try.prog 16 #[.pointer (some ⟨fb, 0, none⟩), rv, .agg (opArr ⟨K, b, home, mask⟩)] w (DoneTo w0 base fb Kp (doD n bs ⟨K, b, home, mask⟩)) := by
  have hqd : doD n bs ⟨K, b, home, mask⟩ = ((makeD n bs b mask).2.2.1, (makeD n bs b mask).2.2.2) := by unfold doD; simp only [hk]; rfl
  rw [hqd]
  clear hqd
  obtain ⟨Q, hQ⟩ : ∃ Q, ((makeD n bs b mask).2.2.1, (makeD n bs b mask).2.2.2) = Q := ⟨_, rfl⟩
  rw [hQ]
  have HQ := Lib.hid hQ
  clear hQ
  have HK0 := Lib.hid (show ∀ p ∈ Kp, p ∈ (w.heap.size, Obj.cells (opArr ⟨K, b, home, mask⟩) 46 (0, 0)) :: Kp from fun p hp => List.mem_cons_of_mem _ hp)
  have HP := Lib.hid (h.new (opArr ⟨K, b, home, mask⟩) 46)
  have HKI := Lib.hid (show (w.heap.size, Obj.cells (opArr ⟨K, b, home, mask⟩) 46 (0, 0)) ∈ (w.heap.size, Obj.cells (opArr ⟨K, b, home, mask⟩) 46 (0, 0)) :: Kp from List.mem_cons_self)
  obtain ⟨OA, hOA⟩ : ∃ OA, OA = opArr ⟨K, b, home, mask⟩ := ⟨_, rfl⟩
  rw [← hOA] at HP HKI HK0
  rw [← hOA]
  have HOA := Lib.hid hOA
  clear h hOA
  go_enter Try.func16, Try.ntmps16
  go_upto_region 1 with fail
  obtain ⟨A, hA⟩ : ∃ A, w.heap.size = A := ⟨_, rfl⟩
  obtain ⟨w1, hw1⟩ : ∃ w1, w.alloc (.cells OA 46) = w1 := ⟨_, rfl⟩
  rw [hA, hw1] at HP
  rw [hA] at HKI HK0
  rw [hA, hw1]
  clear hA hw1
  obtain ⟨Kq, hKq⟩ : ∃ Kq, Kq = (A, Obj.cells OA 46 (0, 0)) :: Kp := ⟨_, rfl⟩
  rw [← hKq] at HP HKI HK0
  clear hKq
  have KS := Lib.hid (fun (w' : World) (hh : w'.heap[A]? = some (Obj.cells OA 46 (0, 0))) => show w'.cell? ⟨A, 0, none⟩ = some (.int .u64 K) ∧ w'.cell? ⟨A, 1, none⟩ = some (.int .i64 b) ∧ w'.cell? ⟨A, 2, none⟩ = some (.int .i64 home) ∧ w'.rangeAt A 3 (wsArr mask).toList from by
    have ho : OpAt w' A ⟨K, b, home, mask⟩ := by unfold OpAt; rw [← HOA.out]; exact hh
    exact ⟨ho.c0, ho.c1, ho.c2, ho.mask⟩)
  obtain ⟨c0, c1, c2, hm⟩ := KS.out w1 (HP.out.kept HKI.out)
  have HM := Lib.hid hm
  have m1 : (Try.prog.info? 29).map (·.size) = some (wsArr mask).toList.length := by rw [Array.length_toList]; exact size29 _
  have HRM := Lib.hid (RMake_any HP.out.ref b mask)
  have HFM := Lib.hid (fun (w' : World) (hh : IsFo w' base fb lv n bs) => FMake_any hh b mask)
  have hnn : (makeD n bs b mask).2.2.1 = n ∨ (makeD n bs b mask).2.2.1 = n + 1 := by
    unfold makeD
    repeat' split
    all_goals simp
  unfold wsV at HRM HFM
  obtain ⟨M, hMM⟩ : ∃ M, wsArr mask = M := ⟨_, rfl⟩
  rw [hMM] at HRM HM m1 KS
  simp only [hMM] at HFM
  generalize makeD n bs b mask = q at *
  obtain ⟨q1, q2, q3, q4⟩ := q
  simp only at hnn HFM HQ
  have HNN := Lib.hid hnn
  clear hMM hm hnn
  go_wp2_with (refine wpList_load_mid rfl 29 _ rfl A 3 rfl M.toList _ HM.out Try.underlying29 rfl m1 ?_; rw [Array.toArray_toList])
  refine HRM.out.mono ?_
  rintro r w2 ⟨v', rfl, hS, hg, hB⟩
  simp only at hS
  have HS := Lib.hid hS
  have HB := Lib.hid hB
  have HG := Lib.hid hg
  have HP2 := Lib.hid (HP.out.below hB)
  clear c0 c1 c2 hS hg hB
  obtain ⟨c0, c1, c2, hm⟩ := KS.out w2 (HP2.out.kept HKI.out)
  have HM2 := Lib.hid hm
  clear hm
  go_wp2_with (refine wpList_load_mid rfl 29 _ rfl A 3 rfl M.toList _ HM2.out Try.underlying29 rfl m1 ?_; rw [Array.toArray_toList])
  refine (HFM.out _ HP2.out.tab).mono ?_
  rintro r w3 ⟨rfl, lv', hT, hF, hb⟩
  simp only at hT
  have HFIN := Lib.hid ((HP.out.both HB.out HS.out (fun h0 g hgg => by
    rcases HG.out with e | e
    · subst e
      left
      obtain ⟨a1, cap1, e1, _⟩ := HS.out
      obtain ⟨a2, cap2, e2, _⟩ := HP.out.ref
      rw [e1] at e2
      injection e2 with _ e3 _
      exact ⟨by omega, hgg⟩
    · exact .inr (e g hgg)) hT hF hb).less HK0.out)
  clear hT hF hb
  go_wp2_with fail
  go_ret2
  exact ⟨_, lv', by first | rfl | (simp; done), by rw [← HQ.out]; exact HFIN.out⟩

set_option maxRecDepth 100000 in
set_option maxHeartbeats 2000000 in
theorem do_make1 (h : Pb w0 w base fb Kp lv rv n bs n bs) (K b home : Int) (mask : Ws) (h0 : 0 ≤ K) (hk : K % 6 = 1) :
    Calls Try.prog 16 #[.pointer (some ⟨fb, 0, none⟩), rv, .agg (opArr ⟨K, b, home, mask⟩)] w (DoneTo w0 base fb Kp (doD n bs ⟨K, b, home, mask⟩)) := by
  have hqd : doD n bs ⟨K, b, home, mask⟩ = ((makeD n bs b mask).2.2.1, (makeD n bs b mask).2.2.2) := by unfold doD; simp only [hk]; rfl
  rw [hqd]
  clear hqd
  obtain ⟨Q, hQ⟩ : ∃ Q, ((makeD n bs b mask).2.2.1, (makeD n bs b mask).2.2.2) = Q := ⟨_, rfl⟩
  rw [hQ]
  have HQ := Lib.hid hQ
  clear hQ
  have HK0 := Lib.hid (show ∀ p ∈ Kp, p ∈ (w.heap.size, Obj.cells (opArr ⟨K, b, home, mask⟩) 46 (0, 0)) :: Kp from fun p hp => List.mem_cons_of_mem _ hp)
  have HP := Lib.hid (h.new (opArr ⟨K, b, home, mask⟩) 46)
  have HKI := Lib.hid (show (w.heap.size, Obj.cells (opArr ⟨K, b, home, mask⟩) 46 (0, 0)) ∈ (w.heap.size, Obj.cells (opArr ⟨K, b, home, mask⟩) 46 (0, 0)) :: Kp from List.mem_cons_self)
  obtain ⟨OA, hOA⟩ : ∃ OA, OA = opArr ⟨K, b, home, mask⟩ := ⟨_, rfl⟩
  rw [← hOA] at HP HKI HK0
  rw [← hOA]
  have HOA := Lib.hid hOA
  clear h hOA
  go_enter Try.func16, Try.ntmps16
  go_upto_region 1 with fail
  obtain ⟨A, hA⟩ : ∃ A, w.heap.size = A := ⟨_, rfl⟩
  obtain ⟨w1, hw1⟩ : ∃ w1, w.alloc (.cells OA 46) = w1 := ⟨_, rfl⟩
  rw [hA, hw1] at HP
  rw [hA] at HKI HK0
  rw [hA, hw1]
  clear hA hw1
  obtain ⟨Kq, hKq⟩ : ∃ Kq, Kq = (A, Obj.cells OA 46 (0, 0)) :: Kp := ⟨_, rfl⟩
  rw [← hKq] at HP HKI HK0
  clear hKq
  have KS := Lib.hid (fun (w' : World) (hh : w'.heap[A]? = some (Obj.cells OA 46 (0, 0))) => show w'.cell? ⟨A, 0, none⟩ = some (.int .u64 K) ∧ w'.cell? ⟨A, 1, none⟩ = some (.int .i64 b) ∧ w'.cell? ⟨A, 2, none⟩ = some (.int .i64 home) ∧ w'.rangeAt A 3 (wsArr mask).toList from by
    have ho : OpAt w' A ⟨K, b, home, mask⟩ := by unfold OpAt; rw [← HOA.out]; exact hh
    exact ⟨ho.c0, ho.c1, ho.c2, ho.mask⟩)
  obtain ⟨c0, c1, c2, hm⟩ := KS.out w1 (HP.out.kept HKI.out)
  have HM := Lib.hid hm
  have m1 : (Try.prog.info? 29).map (·.size) = some (wsArr mask).toList.length := by rw [Array.length_toList]; exact size29 _
  have HRM := Lib.hid (RMake_any HP.out.ref b mask)
  have HFM := Lib.hid (fun (w' : World) (hh : IsFo w' base fb lv n bs) => FMake_any hh b mask)
  have hnn : (makeD n bs b mask).2.2.1 = n ∨ (makeD n bs b mask).2.2.1 = n + 1 := by
    unfold makeD
    repeat' split
    all_goals simp
  unfold wsV at HRM HFM
  obtain ⟨M, hMM⟩ : ∃ M, wsArr mask = M := ⟨_, rfl⟩
  rw [hMM] at HRM HM m1 KS
  simp only [hMM] at HFM
  generalize makeD n bs b mask = q at *
  obtain ⟨q1, q2, q3, q4⟩ := q
  simp only at hnn HFM HQ
  have HNN := Lib.hid hnn
  clear hMM hm hnn
  go_wp2_with (refine wpList_load_mid rfl 29 _ rfl A 3 rfl M.toList _ HM.out Try.underlying29 rfl m1 ?_; rw [Array.toArray_toList])
  refine HRM.out.mono ?_
  rintro r w2 ⟨v', rfl, hS, hg, hB⟩
  simp only at hS
  have HS := Lib.hid hS
  have HB := Lib.hid hB
  have HG := Lib.hid hg
  have HP2 := Lib.hid (HP.out.below hB)
  clear c0 c1 c2 hS hg hB
  obtain ⟨c0, c1, c2, hm⟩ := KS.out w2 (HP2.out.kept HKI.out)
  have HM2 := Lib.hid hm
  clear hm
  go_wp2_with (refine wpList_load_mid rfl 29 _ rfl A 3 rfl M.toList _ HM2.out Try.underlying29 rfl m1 ?_; rw [Array.toArray_toList])
  refine (HFM.out _ HP2.out.tab).mono ?_
  rintro r w3 ⟨rfl, lv', hT, hF, hb⟩
  simp only at hT
  have HFIN := Lib.hid ((HP.out.both HB.out HS.out (fun h0 g hgg => by
    rcases HG.out with e | e
    · subst e
      left
      obtain ⟨a1, cap1, e1, _⟩ := HS.out
      obtain ⟨a2, cap2, e2, _⟩ := HP.out.ref
      rw [e1] at e2
      injection e2 with _ e3 _
      exact ⟨by omega, hgg⟩
    · exact .inr (e g hgg)) hT hF hb).less HK0.out)
  clear hT hF hb
  go_wp2_with fail
  go_ret2
  exact ⟨_, lv', by first | rfl | (simp; done), by rw [← HQ.out]; exact HFIN.out⟩

set_option maxRecDepth 100000 in
set_option maxHeartbeats 2000000 in
theorem do_seal (h : Pb w0 w base fb Kp lv rv n bs n bs) (K b home : Int) (mask : Ws) (h0 : 0 ≤ K) (hk : K % 6 = 2) :
    Calls Try.prog 16 #[.pointer (some ⟨fb, 0, none⟩), rv, .agg (opArr ⟨K, b, home, mask⟩)] w (DoneTo w0 base fb Kp (doD n bs ⟨K, b, home, mask⟩)) := by
  have hqd : doD n bs ⟨K, b, home, mask⟩ = (n, (sealD n bs b).2) := by unfold doD; simp only [hk]; rfl
  rw [hqd]
  clear hqd
  obtain ⟨Q, hQ⟩ : ∃ Q, (n, (sealD n bs b).2) = Q := ⟨_, rfl⟩
  rw [hQ]
  have HQ := Lib.hid hQ
  clear hQ
  have HK0 := Lib.hid (show ∀ p ∈ Kp, p ∈ (w.heap.size, Obj.cells (opArr ⟨K, b, home, mask⟩) 46 (0, 0)) :: Kp from fun p hp => List.mem_cons_of_mem _ hp)
  have HP := Lib.hid (h.new (opArr ⟨K, b, home, mask⟩) 46)
  have HKI := Lib.hid (show (w.heap.size, Obj.cells (opArr ⟨K, b, home, mask⟩) 46 (0, 0)) ∈ (w.heap.size, Obj.cells (opArr ⟨K, b, home, mask⟩) 46 (0, 0)) :: Kp from List.mem_cons_self)
  obtain ⟨OA, hOA⟩ : ∃ OA, OA = opArr ⟨K, b, home, mask⟩ := ⟨_, rfl⟩
  rw [← hOA] at HP HKI HK0
  rw [← hOA]
  have HOA := Lib.hid hOA
  clear h hOA
  go_enter Try.func16, Try.ntmps16
  go_upto_region 1 with fail
  obtain ⟨A, hA⟩ : ∃ A, w.heap.size = A := ⟨_, rfl⟩
  obtain ⟨w1, hw1⟩ : ∃ w1, w.alloc (.cells OA 46) = w1 := ⟨_, rfl⟩
  rw [hA, hw1] at HP
  rw [hA] at HKI HK0
  rw [hA, hw1]
  clear hA hw1
  obtain ⟨Kq, hKq⟩ : ∃ Kq, Kq = (A, Obj.cells OA 46 (0, 0)) :: Kp := ⟨_, rfl⟩
  rw [← hKq] at HP HKI HK0
  clear hKq
  have KS := Lib.hid (fun (w' : World) (hh : w'.heap[A]? = some (Obj.cells OA 46 (0, 0))) => show w'.cell? ⟨A, 0, none⟩ = some (.int .u64 K) ∧ w'.cell? ⟨A, 1, none⟩ = some (.int .i64 b) ∧ w'.cell? ⟨A, 2, none⟩ = some (.int .i64 home) ∧ w'.rangeAt A 3 (wsArr mask).toList from by
    have ho : OpAt w' A ⟨K, b, home, mask⟩ := by unfold OpAt; rw [← HOA.out]; exact hh
    exact ⟨ho.c0, ho.c1, ho.c2, ho.mask⟩)
  obtain ⟨c0, c1, c2, hm⟩ := KS.out w1 (HP.out.kept HKI.out)
  clear hm
  have HRT := Lib.hid (RT_sealA HP.out.ref HP.out.ups.1 HP.out.ups.2 b home)
  have HFM := Lib.hid (fun (w' : World) (hh : IsFo w' base fb lv n bs) => FSeal_any hh b)
  generalize sealD n bs b = q at *
  obtain ⟨q1, q2⟩ := q
  simp only at HRT HFM HQ
  generalize (if q1 = 0 then [b.toNat] else []) = l at *
  go_wp2_with fail
  refine HRT.out.mono ?_
  rintro r w2 ⟨v', u, rfl, hS, hg, -, hB⟩
  simp only at hS
  have HS := Lib.hid hS
  have HB := Lib.hid hB
  have HG := Lib.hid hg
  have HP2 := Lib.hid (HP.out.below hB)
  clear c0 c1 c2 hS hg hB
  obtain ⟨c0, c1, c2, -⟩ := KS.out w2 (HP2.out.kept HKI.out)
  go_wp2_with fail
  refine (HFM.out _ HP2.out.tab).mono ?_
  rintro r w3 ⟨rfl, hT, hF⟩
  have HFIN := Lib.hid ((HP.out.both HB.out HS.out (fun h0 g hgg => (HG.out g hgg).imp (fun e => ⟨h0, e⟩) id) hT hF (.inl rfl)).less HK0.out)
  clear hT hF
  go_wp2_with fail
  go_ret2
  exact ⟨_, lv, by first | rfl | (simp; done), by rw [← HQ.out]; exact HFIN.out⟩

set_option maxRecDepth 100000 in
set_option maxHeartbeats 2000000 in
theorem do_place (h : Pb w0 w base fb Kp lv rv n bs n bs) (K b home : Int) (mask : Ws) (h0 : 0 ≤ K) (hk : K % 6 = 3) :
    Calls Try.prog 16 #[.pointer (some ⟨fb, 0, none⟩), rv, .agg (opArr ⟨K, b, home, mask⟩)] w (DoneTo w0 base fb Kp (doD n bs ⟨K, b, home, mask⟩)) := by
  have hqd : doD n bs ⟨K, b, home, mask⟩ = (n, (placeD n bs b home).2) := by unfold doD; simp only [hk]; rfl
  rw [hqd]
  clear hqd
  obtain ⟨Q, hQ⟩ : ∃ Q, (n, (placeD n bs b home).2) = Q := ⟨_, rfl⟩
  rw [hQ]
  have HQ := Lib.hid hQ
  clear hQ
  have HK0 := Lib.hid (show ∀ p ∈ Kp, p ∈ (w.heap.size, Obj.cells (opArr ⟨K, b, home, mask⟩) 46 (0, 0)) :: Kp from fun p hp => List.mem_cons_of_mem _ hp)
  have HP := Lib.hid (h.new (opArr ⟨K, b, home, mask⟩) 46)
  have HKI := Lib.hid (show (w.heap.size, Obj.cells (opArr ⟨K, b, home, mask⟩) 46 (0, 0)) ∈ (w.heap.size, Obj.cells (opArr ⟨K, b, home, mask⟩) 46 (0, 0)) :: Kp from List.mem_cons_self)
  obtain ⟨OA, hOA⟩ : ∃ OA, OA = opArr ⟨K, b, home, mask⟩ := ⟨_, rfl⟩
  rw [← hOA] at HP HKI HK0
  rw [← hOA]
  have HOA := Lib.hid hOA
  clear h hOA
  go_enter Try.func16, Try.ntmps16
  go_upto_region 1 with fail
  obtain ⟨A, hA⟩ : ∃ A, w.heap.size = A := ⟨_, rfl⟩
  obtain ⟨w1, hw1⟩ : ∃ w1, w.alloc (.cells OA 46) = w1 := ⟨_, rfl⟩
  rw [hA, hw1] at HP
  rw [hA] at HKI HK0
  rw [hA, hw1]
  clear hA hw1
  obtain ⟨Kq, hKq⟩ : ∃ Kq, Kq = (A, Obj.cells OA 46 (0, 0)) :: Kp := ⟨_, rfl⟩
  rw [← hKq] at HP HKI HK0
  clear hKq
  have KS := Lib.hid (fun (w' : World) (hh : w'.heap[A]? = some (Obj.cells OA 46 (0, 0))) => show w'.cell? ⟨A, 0, none⟩ = some (.int .u64 K) ∧ w'.cell? ⟨A, 1, none⟩ = some (.int .i64 b) ∧ w'.cell? ⟨A, 2, none⟩ = some (.int .i64 home) ∧ w'.rangeAt A 3 (wsArr mask).toList from by
    have ho : OpAt w' A ⟨K, b, home, mask⟩ := by unfold OpAt; rw [← HOA.out]; exact hh
    exact ⟨ho.c0, ho.c1, ho.c2, ho.mask⟩)
  obtain ⟨c0, c1, c2, hm⟩ := KS.out w1 (HP.out.kept HKI.out)
  clear hm
  have HRT := Lib.hid (RT_place HP.out.ref HP.out.ups.1 HP.out.ups.2 b home)
  have HFM := Lib.hid (fun (w' : World) (hh : IsFo w' base fb lv n bs) => FPlace_any hh b home)
  generalize placeD n bs b home = q at *
  obtain ⟨q1, q2⟩ := q
  simp only at HRT HFM HQ
  generalize (if q1 = 0 then [b.toNat] else []) = l at *
  go_wp2_with fail
  refine HRT.out.mono ?_
  rintro r w2 ⟨v', u, rfl, hS, hg, -, hB⟩
  simp only at hS
  have HS := Lib.hid hS
  have HB := Lib.hid hB
  have HG := Lib.hid hg
  have HP2 := Lib.hid (HP.out.below hB)
  clear c0 c1 c2 hS hg hB
  obtain ⟨c0, c1, c2, -⟩ := KS.out w2 (HP2.out.kept HKI.out)
  go_wp2_with fail
  refine (HFM.out _ HP2.out.tab).mono ?_
  rintro r w3 ⟨rfl, hT, hF⟩
  have HFIN := Lib.hid ((HP.out.both HB.out HS.out (fun h0 g hgg => (HG.out g hgg).imp (fun e => ⟨h0, e⟩) id) hT hF (.inl rfl)).less HK0.out)
  clear hT hF
  go_wp2_with fail
  go_ret2
  exact ⟨_, lv, by first | rfl | (simp; done), by rw [← HQ.out]; exact HFIN.out⟩

set_option maxRecDepth 100000 in
set_option maxHeartbeats 2000000 in
theorem do_burst (h : Pb w0 w base fb Kp lv rv n bs n bs) (K b home : Int) (mask : Ws) (h0 : 0 ≤ K) (hk : K % 6 = 4) :
    Calls Try.prog 16 #[.pointer (some ⟨fb, 0, none⟩), rv, .agg (opArr ⟨K, b, home, mask⟩)] w (DoneTo w0 base fb Kp (doD n bs ⟨K, b, home, mask⟩)) := by
  have hqd : doD n bs ⟨K, b, home, mask⟩ = (n, (burstD n bs b).2.2) := by unfold doD; simp only [hk]; rfl
  rw [hqd]
  clear hqd
  obtain ⟨Q, hQ⟩ : ∃ Q, (n, (burstD n bs b).2.2) = Q := ⟨_, rfl⟩
  rw [hQ]
  have HQ := Lib.hid hQ
  clear hQ
  have HK0 := Lib.hid (show ∀ p ∈ Kp, p ∈ (w.heap.size, Obj.cells (opArr ⟨K, b, home, mask⟩) 46 (0, 0)) :: Kp from fun p hp => List.mem_cons_of_mem _ hp)
  have HP := Lib.hid (h.new (opArr ⟨K, b, home, mask⟩) 46)
  have HKI := Lib.hid (show (w.heap.size, Obj.cells (opArr ⟨K, b, home, mask⟩) 46 (0, 0)) ∈ (w.heap.size, Obj.cells (opArr ⟨K, b, home, mask⟩) 46 (0, 0)) :: Kp from List.mem_cons_self)
  obtain ⟨OA, hOA⟩ : ∃ OA, OA = opArr ⟨K, b, home, mask⟩ := ⟨_, rfl⟩
  rw [← hOA] at HP HKI HK0
  rw [← hOA]
  have HOA := Lib.hid hOA
  clear h hOA
  go_enter Try.func16, Try.ntmps16
  go_upto_region 1 with fail
  obtain ⟨A, hA⟩ : ∃ A, w.heap.size = A := ⟨_, rfl⟩
  obtain ⟨w1, hw1⟩ : ∃ w1, w.alloc (.cells OA 46) = w1 := ⟨_, rfl⟩
  rw [hA, hw1] at HP
  rw [hA] at HKI HK0
  rw [hA, hw1]
  clear hA hw1
  obtain ⟨Kq, hKq⟩ : ∃ Kq, Kq = (A, Obj.cells OA 46 (0, 0)) :: Kp := ⟨_, rfl⟩
  rw [← hKq] at HP HKI HK0
  clear hKq
  have KS := Lib.hid (fun (w' : World) (hh : w'.heap[A]? = some (Obj.cells OA 46 (0, 0))) => show w'.cell? ⟨A, 0, none⟩ = some (.int .u64 K) ∧ w'.cell? ⟨A, 1, none⟩ = some (.int .i64 b) ∧ w'.cell? ⟨A, 2, none⟩ = some (.int .i64 home) ∧ w'.rangeAt A 3 (wsArr mask).toList from by
    have ho : OpAt w' A ⟨K, b, home, mask⟩ := by unfold OpAt; rw [← HOA.out]; exact hh
    exact ⟨ho.c0, ho.c1, ho.c2, ho.mask⟩)
  obtain ⟨c0, c1, c2, hm⟩ := KS.out w1 (HP.out.kept HKI.out)
  clear hm
  have HRT := Lib.hid (RT_burstA HP.out.ref HP.out.ups.1 HP.out.ups.2 b home)
  have HFM := Lib.hid (fun (w' : World) (hh : IsFo w' base fb lv n bs) => FBurst_any hh b)
  have hlen : (burstD n bs b).2.1.length ≤ 100 := by
    have hn := HP.out.ups.2
    unfold burstD
    repeat' split
    all_goals (simp only [List.length_cons, List.length_nil]; first | omega | (refine Nat.le_trans (Nat.succ_le_succ (ownL_len _ n)) ?_; omega))
  have HLEN := Lib.hid hlen
  clear hlen
  generalize burstD n bs b = q at *
  obtain ⟨q1, q2, q3⟩ := q
  simp only at HRT HFM HLEN HQ
  go_wp2_with fail
  refine HRT.out.mono ?_
  rintro r w2 ⟨v', u, rfl, hS, hg, hu, hB⟩
  simp only at hS hu
  have HS := Lib.hid hS
  have HB := Lib.hid hB
  have HG := Lib.hid hg
  have HU := Lib.hid hu
  have HP2 := Lib.hid (HP.out.below hB)
  clear c0 c1 c2 hS hg hB hu
  obtain ⟨c0, c1, c2, -⟩ := KS.out w2 (HP2.out.kept HKI.out)
  go_wp2_with fail
  refine (HFM.out _ HP2.out.tab).mono ?_
  rintro r w3 ⟨v, rfl, hv, hT, hF⟩
  simp only at hv hT
  have HV3 := Lib.hid (SlL.own hv)
  have HU3 := Lib.hid (SlL.own (own_of_heap (w' := w3) HU.out fun j hj => hF.block j (HU.out.lt j hj).2 (fun hs => by
    have h1 := (HU.out.lt j hj).1
    rcases hs with e | e
    · have := HP.out.tab.top.lt; omega
    · have := (HP.out.tab.own.lt j e.symm).2; omega)))
  have HFIN := Lib.hid (HP.out.both HB.out HS.out (fun h0 g hgg => (HG.out g hgg).imp (fun e => ⟨h0, e⟩) id) hT hF (.inl rfl))
  clear hT hF hv
  go_wp2_with fail
  refine (Same_eq HV3.out HU3.out (by have := HLEN.out; omega)).mono ?_
  rintro r w4 ⟨rfl, j, rfl⟩
  have HFIN2 := Lib.hid ((HFIN.out.below (Go.Proofs.Ytmbdhpibkhgkcaa.Below.drewN (Below.refl _ _) j)).less HK0.out)
  go_wp2_with fail
  go_ret2
  exact ⟨_, lv, by first | rfl | (simp; done), by rw [← HQ.out]; exact HFIN2.out⟩

set_option maxRecDepth 100000 in
set_option maxHeartbeats 2000000 in
theorem do_regen (h : Pb w0 w base fb Kp lv rv n bs n bs) (K b home : Int) (mask : Ws) (h0 : 0 ≤ K) (hk : K % 6 = 5) :
    Calls Try.prog 16 #[.pointer (some ⟨fb, 0, none⟩), rv, .agg (opArr ⟨K, b, home, mask⟩)] w (DoneTo w0 base fb Kp (doD n bs ⟨K, b, home, mask⟩)) := by
  have hqd : doD n bs ⟨K, b, home, mask⟩ = (n, (regenD n bs b home).2.2) := by unfold doD; simp only [hk]; rfl
  rw [hqd]
  clear hqd
  obtain ⟨Q, hQ⟩ : ∃ Q, (n, (regenD n bs b home).2.2) = Q := ⟨_, rfl⟩
  rw [hQ]
  have HQ := Lib.hid hQ
  clear hQ
  have HK0 := Lib.hid (show ∀ p ∈ Kp, p ∈ (w.heap.size, Obj.cells (opArr ⟨K, b, home, mask⟩) 46 (0, 0)) :: Kp from fun p hp => List.mem_cons_of_mem _ hp)
  have HP := Lib.hid (h.new (opArr ⟨K, b, home, mask⟩) 46)
  have HKI := Lib.hid (show (w.heap.size, Obj.cells (opArr ⟨K, b, home, mask⟩) 46 (0, 0)) ∈ (w.heap.size, Obj.cells (opArr ⟨K, b, home, mask⟩) 46 (0, 0)) :: Kp from List.mem_cons_self)
  obtain ⟨OA, hOA⟩ : ∃ OA, OA = opArr ⟨K, b, home, mask⟩ := ⟨_, rfl⟩
  rw [← hOA] at HP HKI HK0
  rw [← hOA]
  have HOA := Lib.hid hOA
  clear h hOA
  go_enter Try.func16, Try.ntmps16
  go_upto_region 1 with fail
  obtain ⟨A, hA⟩ : ∃ A, w.heap.size = A := ⟨_, rfl⟩
  obtain ⟨w1, hw1⟩ : ∃ w1, w.alloc (.cells OA 46) = w1 := ⟨_, rfl⟩
  rw [hA, hw1] at HP
  rw [hA] at HKI HK0
  rw [hA, hw1]
  clear hA hw1
  obtain ⟨Kq, hKq⟩ : ∃ Kq, Kq = (A, Obj.cells OA 46 (0, 0)) :: Kp := ⟨_, rfl⟩
  rw [← hKq] at HP HKI HK0
  clear hKq
  have KS := Lib.hid (fun (w' : World) (hh : w'.heap[A]? = some (Obj.cells OA 46 (0, 0))) => show w'.cell? ⟨A, 0, none⟩ = some (.int .u64 K) ∧ w'.cell? ⟨A, 1, none⟩ = some (.int .i64 b) ∧ w'.cell? ⟨A, 2, none⟩ = some (.int .i64 home) ∧ w'.rangeAt A 3 (wsArr mask).toList from by
    have ho : OpAt w' A ⟨K, b, home, mask⟩ := by unfold OpAt; rw [← HOA.out]; exact hh
    exact ⟨ho.c0, ho.c1, ho.c2, ho.mask⟩)
  obtain ⟨c0, c1, c2, hm⟩ := KS.out w1 (HP.out.kept HKI.out)
  clear hm
  have HRT := Lib.hid (RT_regenA HP.out.ref HP.out.ups.1 HP.out.ups.2 b home)
  have HFM := Lib.hid (fun (w' : World) (hh : IsFo w' base fb lv n bs) => FRegen_any hh b home)
  have hlen : (regenD n bs b home).2.1.length ≤ 100 := by
    have hn := HP.out.ups.2
    unfold regenD
    repeat' split
    all_goals (simp only [List.length_cons, List.length_nil]; first | omega | (refine Nat.le_trans (Nat.succ_le_succ (ownL_len _ n)) ?_; omega))
  have HLEN := Lib.hid hlen
  clear hlen
  generalize regenD n bs b home = q at *
  obtain ⟨q1, q2, q3⟩ := q
  simp only at HRT HFM HLEN HQ
  go_wp2_with fail
  refine HRT.out.mono ?_
  rintro r w2 ⟨v', u, rfl, hS, hg, hu, hB⟩
  simp only at hS hu
  have HS := Lib.hid hS
  have HB := Lib.hid hB
  have HG := Lib.hid hg
  have HU := Lib.hid hu
  have HP2 := Lib.hid (HP.out.below hB)
  clear c0 c1 c2 hS hg hB hu
  obtain ⟨c0, c1, c2, -⟩ := KS.out w2 (HP2.out.kept HKI.out)
  go_wp2_with fail
  refine (HFM.out _ HP2.out.tab).mono ?_
  rintro r w3 ⟨v, rfl, hv, hT, hF⟩
  simp only at hv hT
  have HV3 := Lib.hid (SlL.own hv)
  have HU3 := Lib.hid (SlL.own (own_of_heap (w' := w3) HU.out fun j hj => hF.block j (HU.out.lt j hj).2 (fun hs => by
    have h1 := (HU.out.lt j hj).1
    rcases hs with e | e
    · have := HP.out.tab.top.lt; omega
    · have := (HP.out.tab.own.lt j e.symm).2; omega)))
  have HFIN := Lib.hid (HP.out.both HB.out HS.out (fun h0 g hgg => (HG.out g hgg).imp (fun e => ⟨h0, e⟩) id) hT hF (.inl rfl))
  clear hT hF hv
  go_wp2_with fail
  refine (Same_eq HV3.out HU3.out (by have := HLEN.out; omega)).mono ?_
  rintro r w4 ⟨rfl, j, rfl⟩
  have HFIN2 := Lib.hid ((HFIN.out.below (Go.Proofs.Ytmbdhpibkhgkcaa.Below.drewN (Below.refl _ _) j)).less HK0.out)
  go_wp2_with fail
  go_ret2
  exact ⟨_, lv, by first | rfl | (simp; done), by rw [← HQ.out]; exact HFIN2.out⟩

theorem do_any (h : Pb w0 w base fb Kp lv rv n bs n bs) (o : Opn) (h0 : 0 ≤ o.kind) :
    Calls Try.prog 16 #[.pointer (some ⟨fb, 0, none⟩), rv, .agg (opArr o)] w (DoneTo w0 base fb Kp (doD n bs o)) := by
  obtain ⟨K, b, home, mask⟩ := o
  rcases (show K % 6 = 0 ∨ K % 6 = 1 ∨ K % 6 = 2 ∨ K % 6 = 3 ∨ K % 6 = 4 ∨ K % 6 = 5 by omega) with hk | hk | hk | hk | hk | hk
  · exact do_make0 h K b home mask h0 hk
  · exact do_make1 h K b home mask h0 hk
  · exact do_seal h K b home mask h0 hk
  · exact do_place h K b home mask h0 hk
  · exact do_burst h K b home mask h0 hk
  · exact do_regen h K b home mask h0 hk
end
end Go.Proofs.Ytmbdhpibkhgkcaa
