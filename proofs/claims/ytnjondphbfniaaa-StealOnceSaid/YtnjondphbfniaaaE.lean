/- Contracts of the row's own functions (package steal): a step of a push. No condition. -/
import Derived.Test.YtnjondphbfniaaaD
import Derived.Test.YtnjondphbfniaaaCut
import Derived.Deep.RegionWith
namespace Go.Proofs.Ytnjondphbfniaaa
open Go.RowKit

set_option maxHeartbeats 4000000 in
theorem push_any (b pb cap i : Nat) (d : Dq) (K : Nat) (w : World) (h : IsDq w b pb cap d) (ok : d.Ok K) (hK : K ≤ 100000) (hi : i < d.n) (hc : (d.ps i).call = 1) :
    Calls Try.prog 22 #[.pointer (some ⟨b, 0, none⟩), .pointer (some ⟨pb, i * 6, none⟩)] w
      fun r w' => r = .returned (.int .i64 (d.push i).1) ∧ IsDq w' b pb cap (d.push i).2 ∧ Frm (Both b pb) w w' := by
  have hp := ok.ps i
  have h1 := hp.live (by omega)
  have h2 := hp.short (.inl hc)
  have h3 := hp.b
  have h4 := hp.t
  have i0 := hp.who.1 (.inl hc)
  have hbot : 0 ≤ d.bottom := ok.idle (by rw [← i0]; omega)
  have hpush := hp.push hc
  have htop := ok.top
  have hroom := ok.room
  have hbo := ok.bottom
  have c0 := h.c0
  have c1 := h.c1
  have c66 := h.c66
  have fb := h.fb
  have fp := h.fp
  obtain ⟨p0, p1, p2, p3, p4, p5⟩ := h.party hi
  have hne : ¬ b = pb := h.apart
  have hne' : ¬ pb = b := fun e => h.apart e.symm
  have H := Lib.hid h
  unfold Dq.push
  by_cases s1 : (d.ps i).step = 1
  · rw [if_pos s1]
    rw [s1] at p1
    have HX := Lib.hid (h.setPb hi d.bottom)
    have S1 := Lib.hid s1
    clear h ok hp h1 h2 h3 h4 hpush s1 hc i0
    go_enter Try.func22, Try.ntmps22
    go_wp2_with fail
    go_ret
    exact ⟨rfl, HX.out, (Frm.refl _ _).pd _ _⟩
  rw [if_neg s1]
  by_cases s2 : (d.ps i).step = 2
  · rw [if_pos s2]
    rw [s2] at p1
    have HX := Lib.hid (fun k => (h.setPt hi d.top).drewN k)
    have hb2 := hpush (by omega)
    have S1 := Lib.hid s1
    have S2 := Lib.hid s2
    generalize hbb : (d.ps i).b = B at *
    have HB := Lib.hid hbb
    by_cases hr : d.room ≤ B - d.top
    · rw [if_pos hr]
      have HR := Lib.hid (show ((4 : Int)) = 4 from rfl)
      clear h ok hp h1 h2 h4 hpush s1 s2 hc hbb i0
      go_enter Try.func22, Try.ntmps22
      go_wp2_with fail
      go_quiet (fail)
      go_wp2_with fail
      go_ret
      exact ⟨rfl, HX.out nq, ((Frm.refl _ _).pd _ _).drewN nq⟩
    · rw [if_neg hr]
      clear h ok hp h1 h2 h4 hpush s1 s2 hc hbb i0
      go_enter Try.func22, Try.ntmps22
      go_wp2_with fail
      go_quiet (fail)
      go_wp2_with fail
      go_ret
      exact ⟨rfl, HX.out nq, ((Frm.refl _ _).pd _ _).drewN nq⟩
  rw [if_neg s2]
  by_cases s3 : (d.ps i).step = 3
  · rw [if_pos s3]
    rw [s3] at p1
    have hb2 := hpush (by omega)
    have hbn : 0 ≤ (d.ps i).b := by omega
    have hat := d.at_lt hbn hroom.1
    have hlt : d.at' (d.ps i).b < 64 := by omega
    have cs := h.cs hlt
    have HX := Lib.hid (fun k => (h.drewN k).setSlot hlt (d.ps i).x)
    have HSl := Lib.hid (fun w' (h' : IsDq w' b pb cap d) => slot_any b pb cap d (d.ps i).b w' h' hbn hroom)
    have HB2 := Lib.hid hb2
    clear hb2
    have S1 := Lib.hid s1
    have S2 := Lib.hid s2
    have S3 := Lib.hid s3
    generalize d.at' (d.ps i).b = S at *
    generalize (d.ps i).b = B at *
    generalize (d.ps i).x = X at *
    clear h ok hp h1 h2 h4 hpush s1 s2 s3 hc hat i0
    go_enter Try.func22, Try.ntmps22
    go_wp2_with fail
    refine wp_region_cut_held (fun w' => w'.cell? ⟨pb, i * 6 + 2, none⟩ = some (.int .i64 B) ∧ w'.cell? ⟨pb, i * 6 + 4, none⟩ = some (.int .i64 X)) 10 (by kernel_rfl) (by kernel_rfl) ⟨p2, p4⟩ (fun hHeld => ?_)
    simp only [List.take_succ_cons, List.take_zero]
    refine wpAnyH_take (i := 0) (v := ?va0) rfl (by kernel_rfl) (by kernel_rfl) (by kernel_rfl) (fun _ _ _ h => h) (Or.inl ⟨by rfl, ?hya0⟩) (by assumption) ?resta0
    case hya0 => (intro w hSw; (try dsimp only at hSw); go_simp) <;> with_reducible rfl
    simp only [Act.put, List.getElem_toArray, List.getElem_cons_succ, List.getElem_cons_zero, List.setIfInBounds_toArray, List.set_cons_succ, List.set_cons_zero]
    refine wpAnyH_take (i := 1) (v := ?va1) rfl (by kernel_rfl) (by kernel_rfl) (by kernel_rfl) (fun _ _ _ h => h) (Or.inl ⟨by rfl, ?hya1⟩) (by assumption) ?resta1
    case hya1 => (intro w hSw; (try dsimp only at hSw); go_simp) <;> with_reducible rfl
    simp only [Act.put, List.getElem_toArray, List.getElem_cons_succ, List.getElem_cons_zero, List.setIfInBounds_toArray, List.set_cons_succ, List.set_cons_zero]
    refine wpAnyH_take (i := 2) (v := ?va2) rfl (by kernel_rfl) (by kernel_rfl) (by kernel_rfl) (fun _ _ _ h => h) (Or.inl ⟨by rfl, ?hya2⟩) (by assumption) ?resta2
    case hya2 => (intro w hSw; (try dsimp only at hSw); go_simp) <;> with_reducible rfl
    simp only [Act.put, List.getElem_toArray, List.getElem_cons_succ, List.getElem_cons_zero, List.setIfInBounds_toArray, List.set_cons_succ, List.set_cons_zero]
    refine wpAnyH_take (i := 3) (v := ?va3) rfl (by kernel_rfl) (by kernel_rfl) (by kernel_rfl) (fun _ _ _ h => h) (Or.inl ⟨by rfl, ?hya3⟩) (by assumption) ?resta3
    case hya3 => (intro w hSw; (try dsimp only at hSw); go_simp) <;> with_reducible rfl
    simp only [Act.put, List.getElem_toArray, List.getElem_cons_succ, List.getElem_cons_zero, List.setIfInBounds_toArray, List.set_cons_succ, List.set_cons_zero]
    refine wpAnyH_take (i := 4) (v := ?va4) rfl (by kernel_rfl) (by kernel_rfl) (by kernel_rfl) (fun _ _ _ h => h) (Or.inl ⟨by rfl, ?hya4⟩) (by assumption) ?resta4
    case hya4 => (intro w hSw; (try dsimp only at hSw); go_simp) <;> with_reducible rfl
    simp only [Act.put, List.getElem_toArray, List.getElem_cons_succ, List.getElem_cons_zero, List.setIfInBounds_toArray, List.set_cons_succ, List.set_cons_zero]
    refine wpAnyH_take (i := 6) (v := ?va6) rfl (by kernel_rfl) (by kernel_rfl) (by kernel_rfl) (fun _ _ _ h => h) (Or.inl ⟨by rfl, ?hya6⟩) (by assumption) ?resta6
    case hya6 => (intro w hSw; (try dsimp only at hSw); go_simp) <;> with_reducible rfl
    simp only [Act.put, List.getElem_toArray, List.getElem_cons_succ, List.getElem_cons_zero, List.setIfInBounds_toArray, List.set_cons_succ, List.set_cons_zero]
    refine wpAnyH_take (i := 7) (v := ?va7) rfl (by kernel_rfl) (by kernel_rfl) (by kernel_rfl) (fun _ _ _ h => h) (Or.inl ⟨by rfl, ?hya7⟩) (by assumption) ?resta7
    case hya7 => (intro w hSw; (try dsimp only at hSw); go_simp) <;> with_reducible rfl
    simp only [Act.put, List.getElem_toArray, List.getElem_cons_succ, List.getElem_cons_zero, List.setIfInBounds_toArray, List.set_cons_succ, List.set_cons_zero]
    refine wpAnyH_take (i := 8) (v := ?va8) rfl (by kernel_rfl) (by kernel_rfl) (by kernel_rfl) (fun _ _ _ h => h) (Or.inl ⟨by rfl, ?hya8⟩) (by assumption) ?resta8
    case hya8 => (intro w hSw; (try dsimp only at hSw); go_simp) <;> with_reducible rfl
    simp only [Act.put, List.getElem_toArray, List.getElem_cons_succ, List.getElem_cons_zero, List.setIfInBounds_toArray, List.set_cons_succ, List.set_cons_zero]
    refine wpAnyH_take (i := 9) (v := ?va9) rfl (by kernel_rfl) (by kernel_rfl) (by kernel_rfl) (fun _ _ _ h => h) (Or.inl ⟨by rfl, ?hya9⟩) (by assumption) ?resta9
    case hya9 => (intro w hSw; (try dsimp only at hSw); go_simp) <;> with_reducible rfl
    simp only [Act.put, List.getElem_toArray, List.getElem_cons_succ, List.getElem_cons_zero, List.setIfInBounds_toArray, List.set_cons_succ, List.set_cons_zero]
    refine wpAnyH_ready (rs := [5]) (by kernel_rfl) (by simp) ?_
    refine AllReadyH.cons rfl (fun K hK => ?_) AllReadyH.nil
    go_simp
    refine (HSl.out _ H.out.drew).mono ?_
    rintro r w' ⟨rfl, k, rfl⟩
    refine hK.out _ _ ⟨p2, p4⟩ (fun hHeld => ?_)
    clear hK K
    try simp only [Act.put, List.getElem_toArray, List.getElem_cons_succ, List.getElem_cons_zero, List.setIfInBounds_toArray, List.set_cons_succ, List.set_cons_zero]
    refine wpAnyH_done (by kernel_rfl) ?_ _
    simp only [headPost, List.drop_succ_cons, List.drop_zero]
    go_wp2_with fail
    go_ret
    exact ⟨rfl, HX.out _, ((Frm.refl _ _).drewN _).bd _ _⟩
  · rw [if_neg s3]
    have s4 : (d.ps i).step = 4 := by omega
    rw [s4] at p1
    have HX := Lib.hid (h.setBottom ((d.ps i).b + 1))
    have S1 := Lib.hid s4
    generalize (d.ps i).b = B at *
    clear h ok hp h1 h2 h4 hpush s1 s2 s3 hc s4 i0
    go_enter Try.func22, Try.ntmps22
    go_wp2_with fail
    go_ret
    exact ⟨rfl, HX.out, (Frm.refl _ _).bd _ _⟩
end Go.Proofs.Ytnjondphbfniaaa
