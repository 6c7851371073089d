/- Contracts of the document's rows (package pinfoldref07): Remove. No condition. -/
import Derived.Test.YtgjgcobkppmafaaI
import Derived.IntWalk
namespace Go.Proofs.Ytgjgcobkppmafaa
open Go.RowKit Go.Deep

theorem slice_congr {a : Option Addr} {n n' c c' : Nat} (h : n = n') (h2 : c = c') : Value.slice a n c = Value.slice a n' c' := by rw [h, h2]

set_option maxRecDepth 100000 in
set_option maxHeartbeats 1000000 in
theorem RRemove_yes {w : World} {rx bl cap n1 N M : Nat} {V : Nat → Value} {R : Nat → List Nat} (h : IsRx w rx bl cap n1 V N M R) {i n k : Nat} (hi : i < M) (hn : n < N) (hN : N ≤ 100000)
    (hin : inRef R n 0 M = ((i : Int), (k : Int))) {l1 l2 : List Nat} (hR : R i = l1 ++ n :: l2) (hk : l1.length = k) :
    Calls Try.prog 26 #[.pointer (some ⟨rx, 0, none⟩), .int .i64 n] w
      fun r w' => r = .returned (.tuple #[.int .i64 i, .int .i64 0]) ∧ (∃ V', IsRx w' rx bl cap n1 V' N M (updL R i (l1 ++ l2))) ∧ Frm (fun k => k = bl) w w' := by
  have hc0 := h.c0
  have hc1 := h.c1
  have hcap := h.cap
  have hca := h.ca hi
  have HI := Lib.hid (RIn_any h n)
  rw [hin] at HI
  have H := Lib.hid h
  have hrow := h.rows i hi
  have hlow := h.low
  have hlt := h.top.lt
  have hsm := h.small i hi
  clear h hin
  generalize V i = v at *
  rw [hR] at hrow hsm
  have hlen : (l1 ++ n :: l2).length = k + 1 + l2.length := by simp; omega
  rw [hlen] at hrow hsm
  obtain ⟨g, vcap, rfl, hvc⟩ : ∃ g vcap, v = .slice (some ⟨g, 0, none⟩) (k + 1 + l2.length) vcap ∧ k + 1 + l2.length ≤ vcap ∧ vcap ≤ maxLen := by
    rcases hrow.2 with ⟨_, h0⟩ | ⟨g, vcap, cur, e, _, _, h1, h2, _⟩
    · omega
    · exact ⟨g, vcap, e, h1, h2⟩
  unfold maxLen at hvc
  have hcells : ∀ j u, (ints (l1 ++ n :: l2))[j]? = some u → w.cell? ⟨g, j, none⟩ = some u := fun j u hu => by
    have := hrow.cells (g := g) rfl j u hu
    have e : (⟨g, 0, none⟩ : Addr).add j = ⟨g, j, none⟩ := by unfold Addr.add; split <;> simp_all
    rwa [e] at this
  have hgl : g < w.heap.size := (hrow.lt g rfl).2
  have HR := Lib.hid hR
  have HKL := Lib.hid hk
  have HC := Lib.hid hcells
  clear hrow hR hk hcells hlen
  have KS := Lib.hid (fun (w' : World) (hb : Below w.heap.size w w') => show Below w.heap.size w w' ∧ w'.cell? ⟨rx, 1, none⟩ = some (.slice (some ⟨bl, 0, none⟩) M cap) ∧ w'.cell? ⟨bl, i, none⟩ = some (.slice (some ⟨g, 0, none⟩) (k + 1 + l2.length) vcap) from
    ⟨hb, (hb.cell (p := ⟨rx, 1, none⟩) hlt).trans hc1, (hb.cell (p := ⟨bl, i, none⟩) (by have := World.block_lt_of_cell? _ _ hca; exact this)).trans hca⟩)
  have HS1 := Lib.hid (fun (w' : World) (hb : Below w.heap.size w w') => show Src w' (.slice (some ⟨g, 0, none⟩) k vcap) k (ints l1) by
    refine ⟨_, _, rfl, by rw [ints_len, HKL.out], .inr ⟨_, rfl, fun j u hu => ?_⟩⟩
    have e : (⟨g, 0, none⟩ : Addr).add j = ⟨g, j, none⟩ := by unfold Addr.add; split <;> simp_all
    rw [e]
    refine (hb.cell (p := ⟨g, j, none⟩) hgl).trans (HC.out j u ?_)
    have hjl : j < (ints l1).length := (List.getElem?_eq_some_iff.1 hu).1
    rw [ints_len] at hjl
    unfold ints at hu ⊢
    rw [List.map_append, List.getElem?_append_left (by simpa using hjl)]
    exact hu)
  obtain ⟨i3, hi3, hz3, hs3, hb3⟩ := info_parts Try.info3q
  have I3 := Lib.hid hi3
  have Z3 := Lib.hid hz3
  have S3 := Lib.hid hs3
  have B3 := Lib.hid hb3
  clear hi3 hz3 hs3 hb3
  obtain ⟨p2, hp2⟩ : ∃ p2 : Addr, p2 = if vcap = k + 1 then ⟨g, 0, none⟩ else ⟨g, k + 1, none⟩ := ⟨_, rfl⟩
  have HS2 := Lib.hid (fun (w' : World) (hb : Below w.heap.size w w') => show Src w' (.slice (some p2) l2.length (vcap - (k + 1))) l2.length (ints l2) by
    refine ⟨_, _, rfl, ints_len _, .inr ⟨_, rfl, fun j u hu => ?_⟩⟩
    have hjl : j < (ints l2).length := (List.getElem?_eq_some_iff.1 hu).1
    rw [ints_len] at hjl
    have hne : ¬ vcap = k + 1 := by omega
    rw [if_neg hne] at hp2
    subst hp2
    have e : (⟨g, k + 1, none⟩ : Addr).add j = ⟨g, k + 1 + j, none⟩ := by unfold Addr.add; split <;> simp_all
    rw [e]
    refine (hb.cell (p := ⟨g, k + 1 + j, none⟩) hgl).trans (HC.out (k + 1 + j) u ?_)
    unfold ints at hu ⊢
    rw [List.map_append, List.getElem?_append_right (by rw [List.length_map, HKL.out]; omega), List.length_map, HKL.out, show k + 1 + j - k = j + 1 by omega, List.map_cons, List.getElem?_cons_succ]
    exact hu)
  by_cases hcase : vcap = k + 1
  · first | rw [if_pos hcase] at hp2 | rw [if_neg hcase] at hp2
    subst hp2
    subst hcase
    have hf1 : k ≤ (k + 1) := by omega
    have hf2 : (k : Int) ≤ ((k + 1) : Int) := by omega
    have hf3 : (k : Int) ≤ (k : Int) + 1 := by omega
    have hf4 : k + 1 ≤ k + 1 + l2.length := by omega
    have hf5 : (k : Int) + 1 ≤ (k : Int) + 1 + (l2.length : Int) := by omega
    have hf6 : k + 1 + l2.length ≤ (k + 1) := hvc.1
    have hf7 : (k : Int) + 1 + (l2.length : Int) ≤ ((k + 1) : Int) := by omega
    go_enter Try.func26, Try.ntmps26
    go_wp2_with fail
    refine HI.out.mono ?_
    rintro r w' ⟨rfl, rfl⟩
    go_wp2_with fail
    have hw1 : IntKind.i64.wrap ((k : Int) + 1) = (k : Int) + 1 := IntWalk.i64_in _ (by omega)
    have hw2 : (0 : Int) ≤ (k : Int) + 1 := by omega
    have hw3 : ((k : Int) + 1).toNat = k + 1 := by omega
    refine wp_region_cut_held (fun w' => Below w.heap.size w w' ∧ w'.cell? ⟨rx, 1, none⟩ = some (.slice (some ⟨bl, 0, none⟩) M cap) ∧ w'.cell? ⟨bl, i, none⟩ = some (.slice (some ⟨g, 0, none⟩) (k + 1 + l2.length) (k + 1))) 27 (by kernel_rfl) (by kernel_rfl) (KS.out _ (Below.refl _ _).drew) (fun hHeld => ?_)
    simp only [List.take_succ_cons, List.take_zero]
    refine wpAnyH_take (i := 0) (v := ?va0) rfl (by kernel_rfl) (by kernel_rfl) (by kernel_rfl) (fun _ _ _ h => h) (Or.inl ⟨by rfl, ?hya0⟩) (by assumption) ?resta0
    case hya0 => (intro w hSw; (try dsimp only at hSw); go_simp) <;> with_reducible rfl
    simp only [Act.put, List.getElem_toArray, List.getElem_cons_succ, List.getElem_cons_zero, List.setIfInBounds_toArray, List.set_cons_succ, List.set_cons_zero]
    refine wpAnyH_take (i := 1) (v := ?va1) rfl (by kernel_rfl) (by kernel_rfl) (by kernel_rfl) (fun _ _ _ h => h) (Or.inl ⟨by rfl, ?hya1⟩) (by assumption) ?resta1
    case hya1 => (intro w hSw; (try dsimp only at hSw); go_simp) <;> with_reducible rfl
    simp only [Act.put, List.getElem_toArray, List.getElem_cons_succ, List.getElem_cons_zero, List.setIfInBounds_toArray, List.set_cons_succ, List.set_cons_zero]
    refine wpAnyH_take (i := 2) (v := ?va2) rfl (by kernel_rfl) (by kernel_rfl) (by kernel_rfl) (fun _ _ _ h => h) (Or.inl ⟨by rfl, ?hya2⟩) (by assumption) ?resta2
    case hya2 => (intro w hSw; (try dsimp only at hSw); go_simp) <;> with_reducible rfl
    simp only [Act.put, List.getElem_toArray, List.getElem_cons_succ, List.getElem_cons_zero, List.setIfInBounds_toArray, List.set_cons_succ, List.set_cons_zero]
    refine wpAnyH_take (i := 3) (v := ?va3) rfl (by kernel_rfl) (by kernel_rfl) (by kernel_rfl) (fun _ _ _ h => h) (Or.inl ⟨by rfl, ?hya3⟩) (by assumption) ?resta3
    case hya3 => (intro w hSw; (try dsimp only at hSw); go_simp) <;> with_reducible rfl
    simp only [Act.put, List.getElem_toArray, List.getElem_cons_succ, List.getElem_cons_zero, List.setIfInBounds_toArray, List.set_cons_succ, List.set_cons_zero]
    refine wpAnyH_take (i := 4) (v := ?va4) rfl (by kernel_rfl) (by kernel_rfl) (by kernel_rfl) (fun _ _ _ h => h) (Or.inl ⟨by rfl, ?hya4⟩) (by assumption) ?resta4
    case hya4 => (intro w hSw; (try dsimp only at hSw); go_simp) <;> with_reducible rfl
    simp only [Act.put, List.getElem_toArray, List.getElem_cons_succ, List.getElem_cons_zero, List.setIfInBounds_toArray, List.set_cons_succ, List.set_cons_zero]
    refine wpAnyH_take (i := 6) (v := ?va6) rfl (by kernel_rfl) (by kernel_rfl) (by kernel_rfl) (fun _ _ _ h => h) (Or.inl ⟨by rfl, ?hya6⟩) (by assumption) ?resta6
    case hya6 => (intro w hSw; (try dsimp only at hSw); go_simp) <;> with_reducible rfl
    simp only [Act.put, List.getElem_toArray, List.getElem_cons_succ, List.getElem_cons_zero, List.setIfInBounds_toArray, List.set_cons_succ, List.set_cons_zero]
    refine wpAnyH_take (i := 7) (v := ?va7) rfl (by kernel_rfl) (by kernel_rfl) (by kernel_rfl) (fun _ _ _ h => h) (Or.inl ⟨by rfl, ?hya7⟩) (by assumption) ?resta7
    case hya7 => (intro w hSw; (try dsimp only at hSw); go_simp) <;> with_reducible rfl
    simp only [Act.put, List.getElem_toArray, List.getElem_cons_succ, List.getElem_cons_zero, List.setIfInBounds_toArray, List.set_cons_succ, List.set_cons_zero]
    refine wpAnyH_take (i := 8) (v := ?va8) rfl (by kernel_rfl) (by kernel_rfl) (by kernel_rfl) (fun _ _ _ h => h) (Or.inl ⟨by rfl, ?hya8⟩) (by assumption) ?resta8
    case hya8 => (intro w hSw; (try dsimp only at hSw); go_simp) <;> with_reducible rfl
    simp only [Act.put, List.getElem_toArray, List.getElem_cons_succ, List.getElem_cons_zero, List.setIfInBounds_toArray, List.set_cons_succ, List.set_cons_zero]
    refine wpAnyH_take (i := 9) (v := ?va9) rfl (by kernel_rfl) (by kernel_rfl) (by kernel_rfl) (fun _ _ _ h => h) (Or.inl ⟨by rfl, ?hya9⟩) (by assumption) ?resta9
    case hya9 => (intro w hSw; (try dsimp only at hSw); go_simp) <;> with_reducible rfl
    simp only [Act.put, List.getElem_toArray, List.getElem_cons_succ, List.getElem_cons_zero, List.setIfInBounds_toArray, List.set_cons_succ, List.set_cons_zero]
    refine wpAnyH_take (i := 10) (v := ?va10) rfl (by kernel_rfl) (by kernel_rfl) (by kernel_rfl) (fun _ _ _ h => h) (Or.inl ⟨by rfl, ?hya10⟩) (by assumption) ?resta10
    case hya10 => (intro w hSw; (try dsimp only at hSw); go_simp) <;> with_reducible rfl
    simp only [Act.put, List.getElem_toArray, List.getElem_cons_succ, List.getElem_cons_zero, List.setIfInBounds_toArray, List.set_cons_succ, List.set_cons_zero]
    refine wpAnyH_take (i := 11) (v := ?va11) rfl (by kernel_rfl) (by kernel_rfl) (by kernel_rfl) (fun _ _ _ h => h) (Or.inl ⟨by rfl, ?hya11⟩) (by assumption) ?resta11
    case hya11 => (intro w hSw; (try dsimp only at hSw); go_simp) <;> with_reducible rfl
    simp only [Act.put, List.getElem_toArray, List.getElem_cons_succ, List.getElem_cons_zero, List.setIfInBounds_toArray, List.set_cons_succ, List.set_cons_zero]
    refine wpAnyH_take (i := 12) (v := ?va12) rfl (by kernel_rfl) (by kernel_rfl) (by kernel_rfl) (fun _ _ _ h => h) (Or.inl ⟨by rfl, ?hya12⟩) (by assumption) ?resta12
    case hya12 => (intro w hSw; (try dsimp only at hSw); go_simp) <;> with_reducible rfl
    simp only [Act.put, List.getElem_toArray, List.getElem_cons_succ, List.getElem_cons_zero, List.setIfInBounds_toArray, List.set_cons_succ, List.set_cons_zero]
    refine wpAnyH_take (i := 13) (v := ?va13) rfl (by kernel_rfl) (by kernel_rfl) (by kernel_rfl) (fun _ _ _ h => h) (Or.inl ⟨by rfl, ?hya13⟩) (by assumption) ?resta13
    case hya13 => (intro w hSw; (try dsimp only at hSw); go_simp) <;> with_reducible rfl
    simp only [Act.put, List.getElem_toArray, List.getElem_cons_succ, List.getElem_cons_zero, List.setIfInBounds_toArray, List.set_cons_succ, List.set_cons_zero]
    refine wpAnyH_take (i := 14) (v := ?va14) rfl (by kernel_rfl) (by kernel_rfl) (by kernel_rfl) (fun _ _ _ h => h) (Or.inl ⟨by rfl, ?hya14⟩) (by assumption) ?resta14
    case hya14 => (intro w hSw; (try dsimp only at hSw); go_simp) <;> with_reducible rfl
    simp only [Act.put, List.getElem_toArray, List.getElem_cons_succ, List.getElem_cons_zero, List.setIfInBounds_toArray, List.set_cons_succ, List.set_cons_zero]
    refine wpAnyH_take (i := 16) (v := ?va16) rfl (by kernel_rfl) (by kernel_rfl) (by kernel_rfl) (fun _ _ _ h => h) (Or.inl ⟨by rfl, ?hya16⟩) (by assumption) ?resta16
    case hya16 => (intro w hSw; (try dsimp only at hSw); go_simp) <;> with_reducible rfl
    simp only [Act.put, List.getElem_toArray, List.getElem_cons_succ, List.getElem_cons_zero, List.setIfInBounds_toArray, List.set_cons_succ, List.set_cons_zero]
    refine wpAnyH_take (i := 17) (v := ?va17) rfl (by kernel_rfl) (by kernel_rfl) (by kernel_rfl) (fun _ _ _ h => h) (Or.inl ⟨by rfl, ?hya17⟩) (by assumption) ?resta17
    case hya17 => (intro w hSw; (try dsimp only at hSw); go_simp) <;> with_reducible rfl
    simp only [Act.put, List.getElem_toArray, List.getElem_cons_succ, List.getElem_cons_zero, List.setIfInBounds_toArray, List.set_cons_succ, List.set_cons_zero]
    refine wpAnyH_take (i := 18) (v := ?va18) rfl (by kernel_rfl) (by kernel_rfl) (by kernel_rfl) (fun _ _ _ h => h) (Or.inl ⟨by rfl, ?hya18⟩) (by assumption) ?resta18
    case hya18 => (intro w hSw; (try dsimp only at hSw); go_simp) <;> with_reducible rfl
    simp only [Act.put, List.getElem_toArray, List.getElem_cons_succ, List.getElem_cons_zero, List.setIfInBounds_toArray, List.set_cons_succ, List.set_cons_zero]
    refine wpAnyH_take (i := 19) (v := ?va19) rfl (by kernel_rfl) (by kernel_rfl) (by kernel_rfl) (fun _ _ _ h => h) (Or.inl ⟨by rfl, ?hya19⟩) (by assumption) ?resta19
    case hya19 => (intro w hSw; (try dsimp only at hSw); go_simp) <;> with_reducible rfl
    simp only [Act.put, List.getElem_toArray, List.getElem_cons_succ, List.getElem_cons_zero, List.setIfInBounds_toArray, List.set_cons_succ, List.set_cons_zero]
    refine wpAnyH_take (i := 20) (v := ?va20) rfl (by kernel_rfl) (by kernel_rfl) (by kernel_rfl) (fun _ _ _ h => h) (Or.inl ⟨by rfl, ?hya20⟩) (by assumption) ?resta20
    case hya20 => (intro w hSw; (try dsimp only at hSw); go_simp) <;> with_reducible rfl
    simp only [Act.put, List.getElem_toArray, List.getElem_cons_succ, List.getElem_cons_zero, List.setIfInBounds_toArray, List.set_cons_succ, List.set_cons_zero]
    refine wpAnyH_take (i := 21) (v := ?va21) rfl (by kernel_rfl) (by kernel_rfl) (by kernel_rfl) (fun _ _ _ h => h) (Or.inl ⟨by rfl, ?hya21⟩) (by assumption) ?resta21
    case hya21 => (intro w hSw; (try dsimp only at hSw); go_simp) <;> with_reducible rfl
    simp only [Act.put, List.getElem_toArray, List.getElem_cons_succ, List.getElem_cons_zero, List.setIfInBounds_toArray, List.set_cons_succ, List.set_cons_zero]
    refine wpAnyH_take (i := 22) (v := ?va22) rfl (by kernel_rfl) (by kernel_rfl) (by kernel_rfl) (fun _ _ _ h => h) (Or.inl ⟨by rfl, ?hya22⟩) (by assumption) ?resta22
    case hya22 => (intro w hSw; (try dsimp only at hSw); go_simp) <;> with_reducible rfl
    simp only [Act.put, List.getElem_toArray, List.getElem_cons_succ, List.getElem_cons_zero, List.setIfInBounds_toArray, List.set_cons_succ, List.set_cons_zero]
    refine wpAnyH_take (i := 23) (v := ?va23) rfl (by kernel_rfl) (by kernel_rfl) (by kernel_rfl) (fun _ _ _ h => h) (Or.inl ⟨by rfl, ?hya23⟩) (by assumption) ?resta23
    case hya23 => (intro w hSw; (try dsimp only at hSw); go_simp) <;> with_reducible rfl
    simp only [Act.put, List.getElem_toArray, List.getElem_cons_succ, List.getElem_cons_zero, List.setIfInBounds_toArray, List.set_cons_succ, List.set_cons_zero]
    refine wpAnyH_take (i := 24) (v := ?va24) rfl (by kernel_rfl) (by kernel_rfl) (by kernel_rfl) (fun _ _ _ h => h) (Or.inl ⟨by rfl, ?hya24⟩) (by assumption) ?resta24
    case hya24 => (intro w hSw; (try dsimp only at hSw); go_simp) <;> with_reducible rfl
    simp only [Act.put, List.getElem_toArray, List.getElem_cons_succ, List.getElem_cons_zero, List.setIfInBounds_toArray, List.set_cons_succ, List.set_cons_zero]
    refine wpAnyH_take (i := 25) (v := ?va25) rfl (by kernel_rfl) (by kernel_rfl) (by kernel_rfl) (fun _ _ _ h => h) (Or.inl ⟨by rfl, ?hya25⟩) (by assumption) ?resta25
    case hya25 => (intro w hSw; (try dsimp only at hSw); go_simp) <;> with_reducible rfl
    simp only [Act.put, List.getElem_toArray, List.getElem_cons_succ, List.getElem_cons_zero, List.setIfInBounds_toArray, List.set_cons_succ, List.set_cons_zero]
    have HB0 := Lib.hid ((Below.refl w.heap.size w).drew)
    refine wpAnyH_ready (rs := [5]) (by kernel_rfl) (by simp) ?_
    refine AllReadyH.cons rfl (fun K hK => ?_) AllReadyH.nil
    go_simp
    obtain ⟨W1, hW1⟩ : ∃ W, (w.alloc (.cells #[] 3)).drew = W := ⟨_, rfl⟩
    have HBW1 := Lib.hid (show Below w.heap.size w W1 by rw [← hW1]; exact HB0.out.alloc HB0.out.size _)
    have HO1 := Lib.hid (show W1.ownsRow w.heap.size 3 1 (.slice (some ⟨w.heap.size, 0, none⟩) 0 0) 0 [] by rw [← hW1]; exact World.ownsRow_made w.drew #[] 0 HB0.out.size (by decide) rfl)
    rw [hW1]
    clear hW1
    refine hK.out _ _ (KS.out _ HBW1.out) (fun hHeld => ?_)
    clear hK K
    try simp only [Act.put, List.getElem_toArray, List.getElem_cons_succ, List.getElem_cons_zero, List.setIfInBounds_toArray, List.set_cons_succ, List.set_cons_zero]
    refine wpAnyH_ready (rs := [15]) (by kernel_rfl) (by simp) ?_
    refine AllReadyH.cons rfl (fun K hK => ?_) AllReadyH.nil
    refine step_append_src (by rfl) _ _ 61 (by rfl) w.heap.size 3 i3 _ 8 Try.underlying61 I3.out Z3.out S3.out B3.out rfl (by rfl) HO1.out (by rfl) (HS1.out _ HBW1.out) (ints_one l1) (by simp only [maxLen]; omega) (by omega) HBW1.out.size ?_
    intro v2 W2 hown2 hgrow2 hblk2
    have HBW2 := Lib.hid (HBW1.out.grown hgrow2 HBW1.out.size (fun k hk => (HO1.out.lt k hk).1))
    have HO2 := Lib.hid hown2
    clear hown2 hgrow2 hblk2
    refine hK.out _ _ (KS.out _ HBW2.out) (fun hHeld => ?_)
    clear hK K
    try simp only [Act.put, List.getElem_toArray, List.getElem_cons_succ, List.getElem_cons_zero, List.setIfInBounds_toArray, List.set_cons_succ, List.set_cons_zero]
    refine wpAnyH_ready (rs := [26]) (by kernel_rfl) (by simp) ?_
    refine AllReadyH.cons rfl (fun K hK => ?_) AllReadyH.nil
    refine step_append_src (by rfl) _ _ 61 (by rfl) w.heap.size 3 i3 _ 8 Try.underlying61 I3.out Z3.out S3.out B3.out rfl (by rfl) HO2.out (Eq.trans (by rfl) (slice_congr (by omega) (by omega))) (HS2.out _ HBW2.out) (ints_one l2) (by simp only [maxLen]; omega) (by omega) HBW2.out.size ?_
    intro v3 W3 hown3 hgrow3 hblk3
    have HBW3 := Lib.hid (HBW2.out.grown hgrow3 HBW2.out.size (fun k hk => (HO2.out.lt k hk).1))
    have HO3 := Lib.hid hown3
    clear hown3 hgrow3 hblk3
    refine hK.out _ _ (KS.out _ HBW3.out) (fun hHeld => ?_)
    clear hK K
    try simp only [Act.put, List.getElem_toArray, List.getElem_cons_succ, List.getElem_cons_zero, List.setIfInBounds_toArray, List.set_cons_succ, List.set_cons_zero]
    have hf0 := HO3.out
    rw [Nat.zero_add, List.nil_append] at hf0
    have HF := Lib.hid hf0
    have HX := Lib.hid HBW3.out
    refine wpAnyH_done (by kernel_rfl) ?_ _
    simp only [headPost, List.drop_succ_cons, List.drop_zero]
    have cR := (KS.out _ HX.out).2.1
    have cB := (KS.out _ HX.out).2.2
    have fB : W3.frozen? ⟨bl, i, none⟩ = false := (World.frozen?_of_block (a := ⟨bl, i, none⟩) (HX.out.block bl H.out.arr.lt)).trans (H.out.arr.frozen i)
    obtain ⟨A3, cap3, hv3, -⟩ := own_form hf0
    clear hf0
    subst hv3
    go_wp2_with fail
    go_ret2
    refine ⟨rfl, ⟨_, H.out.set HX.out hi (l := l1 ++ l2) ?_ (by simp; have := HKL.out; omega)⟩, ?_⟩
    · have e1 : (l1 ++ l2).length = k + l2.length := by rw [List.length_append, HKL.out]
      have e2 : ints (l1 ++ l2) = ints l1 ++ ints l2 := by simp [ints]
      rw [e1, e2]
      exact own_low HF.out hlow.2.2.2
    · exact ((Frm.of_below (S := fun k => k = bl) HX.out).setCell (p := ⟨bl, i, none⟩) (fun _ => rfl) _)
  · first | rw [if_pos hcase] at hp2 | rw [if_neg hcase] at hp2
    subst hp2
    have hf1 : k ≤ vcap := by omega
    have hf2 : (k : Int) ≤ (vcap : Int) := by omega
    have hf3 : (k : Int) ≤ (k : Int) + 1 := by omega
    have hf4 : k + 1 ≤ k + 1 + l2.length := by omega
    have hf5 : (k : Int) + 1 ≤ (k : Int) + 1 + (l2.length : Int) := by omega
    have hf6 : k + 1 + l2.length ≤ vcap := hvc.1
    have hf7 : (k : Int) + 1 + (l2.length : Int) ≤ (vcap : Int) := by omega
    go_enter Try.func26, Try.ntmps26
    go_wp2_with fail
    refine HI.out.mono ?_
    rintro r w' ⟨rfl, rfl⟩
    go_wp2_with fail
    have hw1 : IntKind.i64.wrap ((k : Int) + 1) = (k : Int) + 1 := IntWalk.i64_in _ (by omega)
    have hw2 : (0 : Int) ≤ (k : Int) + 1 := by omega
    have hw3 : ((k : Int) + 1).toNat = k + 1 := by omega
    refine wp_region_cut_held (fun w' => Below w.heap.size w w' ∧ w'.cell? ⟨rx, 1, none⟩ = some (.slice (some ⟨bl, 0, none⟩) M cap) ∧ w'.cell? ⟨bl, i, none⟩ = some (.slice (some ⟨g, 0, none⟩) (k + 1 + l2.length) vcap)) 27 (by kernel_rfl) (by kernel_rfl) (KS.out _ (Below.refl _ _).drew) (fun hHeld => ?_)
    simp only [List.take_succ_cons, List.take_zero]
    refine wpAnyH_take (i := 0) (v := ?vb0) rfl (by kernel_rfl) (by kernel_rfl) (by kernel_rfl) (fun _ _ _ h => h) (Or.inl ⟨by rfl, ?hyb0⟩) (by assumption) ?restb0
    case hyb0 => (intro w hSw; (try dsimp only at hSw); go_simp) <;> with_reducible rfl
    simp only [Act.put, List.getElem_toArray, List.getElem_cons_succ, List.getElem_cons_zero, List.setIfInBounds_toArray, List.set_cons_succ, List.set_cons_zero]
    refine wpAnyH_take (i := 1) (v := ?vb1) rfl (by kernel_rfl) (by kernel_rfl) (by kernel_rfl) (fun _ _ _ h => h) (Or.inl ⟨by rfl, ?hyb1⟩) (by assumption) ?restb1
    case hyb1 => (intro w hSw; (try dsimp only at hSw); go_simp) <;> with_reducible rfl
    simp only [Act.put, List.getElem_toArray, List.getElem_cons_succ, List.getElem_cons_zero, List.setIfInBounds_toArray, List.set_cons_succ, List.set_cons_zero]
    refine wpAnyH_take (i := 2) (v := ?vb2) rfl (by kernel_rfl) (by kernel_rfl) (by kernel_rfl) (fun _ _ _ h => h) (Or.inl ⟨by rfl, ?hyb2⟩) (by assumption) ?restb2
    case hyb2 => (intro w hSw; (try dsimp only at hSw); go_simp) <;> with_reducible rfl
    simp only [Act.put, List.getElem_toArray, List.getElem_cons_succ, List.getElem_cons_zero, List.setIfInBounds_toArray, List.set_cons_succ, List.set_cons_zero]
    refine wpAnyH_take (i := 3) (v := ?vb3) rfl (by kernel_rfl) (by kernel_rfl) (by kernel_rfl) (fun _ _ _ h => h) (Or.inl ⟨by rfl, ?hyb3⟩) (by assumption) ?restb3
    case hyb3 => (intro w hSw; (try dsimp only at hSw); go_simp) <;> with_reducible rfl
    simp only [Act.put, List.getElem_toArray, List.getElem_cons_succ, List.getElem_cons_zero, List.setIfInBounds_toArray, List.set_cons_succ, List.set_cons_zero]
    refine wpAnyH_take (i := 4) (v := ?vb4) rfl (by kernel_rfl) (by kernel_rfl) (by kernel_rfl) (fun _ _ _ h => h) (Or.inl ⟨by rfl, ?hyb4⟩) (by assumption) ?restb4
    case hyb4 => (intro w hSw; (try dsimp only at hSw); go_simp) <;> with_reducible rfl
    simp only [Act.put, List.getElem_toArray, List.getElem_cons_succ, List.getElem_cons_zero, List.setIfInBounds_toArray, List.set_cons_succ, List.set_cons_zero]
    refine wpAnyH_take (i := 6) (v := ?vb6) rfl (by kernel_rfl) (by kernel_rfl) (by kernel_rfl) (fun _ _ _ h => h) (Or.inl ⟨by rfl, ?hyb6⟩) (by assumption) ?restb6
    case hyb6 => (intro w hSw; (try dsimp only at hSw); go_simp) <;> with_reducible rfl
    simp only [Act.put, List.getElem_toArray, List.getElem_cons_succ, List.getElem_cons_zero, List.setIfInBounds_toArray, List.set_cons_succ, List.set_cons_zero]
    refine wpAnyH_take (i := 7) (v := ?vb7) rfl (by kernel_rfl) (by kernel_rfl) (by kernel_rfl) (fun _ _ _ h => h) (Or.inl ⟨by rfl, ?hyb7⟩) (by assumption) ?restb7
    case hyb7 => (intro w hSw; (try dsimp only at hSw); go_simp) <;> with_reducible rfl
    simp only [Act.put, List.getElem_toArray, List.getElem_cons_succ, List.getElem_cons_zero, List.setIfInBounds_toArray, List.set_cons_succ, List.set_cons_zero]
    refine wpAnyH_take (i := 8) (v := ?vb8) rfl (by kernel_rfl) (by kernel_rfl) (by kernel_rfl) (fun _ _ _ h => h) (Or.inl ⟨by rfl, ?hyb8⟩) (by assumption) ?restb8
    case hyb8 => (intro w hSw; (try dsimp only at hSw); go_simp) <;> with_reducible rfl
    simp only [Act.put, List.getElem_toArray, List.getElem_cons_succ, List.getElem_cons_zero, List.setIfInBounds_toArray, List.set_cons_succ, List.set_cons_zero]
    refine wpAnyH_take (i := 9) (v := ?vb9) rfl (by kernel_rfl) (by kernel_rfl) (by kernel_rfl) (fun _ _ _ h => h) (Or.inl ⟨by rfl, ?hyb9⟩) (by assumption) ?restb9
    case hyb9 => (intro w hSw; (try dsimp only at hSw); go_simp) <;> with_reducible rfl
    simp only [Act.put, List.getElem_toArray, List.getElem_cons_succ, List.getElem_cons_zero, List.setIfInBounds_toArray, List.set_cons_succ, List.set_cons_zero]
    refine wpAnyH_take (i := 10) (v := ?vb10) rfl (by kernel_rfl) (by kernel_rfl) (by kernel_rfl) (fun _ _ _ h => h) (Or.inl ⟨by rfl, ?hyb10⟩) (by assumption) ?restb10
    case hyb10 => (intro w hSw; (try dsimp only at hSw); go_simp) <;> with_reducible rfl
    simp only [Act.put, List.getElem_toArray, List.getElem_cons_succ, List.getElem_cons_zero, List.setIfInBounds_toArray, List.set_cons_succ, List.set_cons_zero]
    refine wpAnyH_take (i := 11) (v := ?vb11) rfl (by kernel_rfl) (by kernel_rfl) (by kernel_rfl) (fun _ _ _ h => h) (Or.inl ⟨by rfl, ?hyb11⟩) (by assumption) ?restb11
    case hyb11 => (intro w hSw; (try dsimp only at hSw); go_simp) <;> with_reducible rfl
    simp only [Act.put, List.getElem_toArray, List.getElem_cons_succ, List.getElem_cons_zero, List.setIfInBounds_toArray, List.set_cons_succ, List.set_cons_zero]
    refine wpAnyH_take (i := 12) (v := ?vb12) rfl (by kernel_rfl) (by kernel_rfl) (by kernel_rfl) (fun _ _ _ h => h) (Or.inl ⟨by rfl, ?hyb12⟩) (by assumption) ?restb12
    case hyb12 => (intro w hSw; (try dsimp only at hSw); go_simp) <;> with_reducible rfl
    simp only [Act.put, List.getElem_toArray, List.getElem_cons_succ, List.getElem_cons_zero, List.setIfInBounds_toArray, List.set_cons_succ, List.set_cons_zero]
    refine wpAnyH_take (i := 13) (v := ?vb13) rfl (by kernel_rfl) (by kernel_rfl) (by kernel_rfl) (fun _ _ _ h => h) (Or.inl ⟨by rfl, ?hyb13⟩) (by assumption) ?restb13
    case hyb13 => (intro w hSw; (try dsimp only at hSw); go_simp) <;> with_reducible rfl
    simp only [Act.put, List.getElem_toArray, List.getElem_cons_succ, List.getElem_cons_zero, List.setIfInBounds_toArray, List.set_cons_succ, List.set_cons_zero]
    refine wpAnyH_take (i := 14) (v := ?vb14) rfl (by kernel_rfl) (by kernel_rfl) (by kernel_rfl) (fun _ _ _ h => h) (Or.inl ⟨by rfl, ?hyb14⟩) (by assumption) ?restb14
    case hyb14 => (intro w hSw; (try dsimp only at hSw); go_simp) <;> with_reducible rfl
    simp only [Act.put, List.getElem_toArray, List.getElem_cons_succ, List.getElem_cons_zero, List.setIfInBounds_toArray, List.set_cons_succ, List.set_cons_zero]
    refine wpAnyH_take (i := 16) (v := ?vb16) rfl (by kernel_rfl) (by kernel_rfl) (by kernel_rfl) (fun _ _ _ h => h) (Or.inl ⟨by rfl, ?hyb16⟩) (by assumption) ?restb16
    case hyb16 => (intro w hSw; (try dsimp only at hSw); go_simp) <;> with_reducible rfl
    simp only [Act.put, List.getElem_toArray, List.getElem_cons_succ, List.getElem_cons_zero, List.setIfInBounds_toArray, List.set_cons_succ, List.set_cons_zero]
    refine wpAnyH_take (i := 17) (v := ?vb17) rfl (by kernel_rfl) (by kernel_rfl) (by kernel_rfl) (fun _ _ _ h => h) (Or.inl ⟨by rfl, ?hyb17⟩) (by assumption) ?restb17
    case hyb17 => (intro w hSw; (try dsimp only at hSw); go_simp) <;> with_reducible rfl
    simp only [Act.put, List.getElem_toArray, List.getElem_cons_succ, List.getElem_cons_zero, List.setIfInBounds_toArray, List.set_cons_succ, List.set_cons_zero]
    refine wpAnyH_take (i := 18) (v := ?vb18) rfl (by kernel_rfl) (by kernel_rfl) (by kernel_rfl) (fun _ _ _ h => h) (Or.inl ⟨by rfl, ?hyb18⟩) (by assumption) ?restb18
    case hyb18 => (intro w hSw; (try dsimp only at hSw); go_simp) <;> with_reducible rfl
    simp only [Act.put, List.getElem_toArray, List.getElem_cons_succ, List.getElem_cons_zero, List.setIfInBounds_toArray, List.set_cons_succ, List.set_cons_zero]
    refine wpAnyH_take (i := 19) (v := ?vb19) rfl (by kernel_rfl) (by kernel_rfl) (by kernel_rfl) (fun _ _ _ h => h) (Or.inl ⟨by rfl, ?hyb19⟩) (by assumption) ?restb19
    case hyb19 => (intro w hSw; (try dsimp only at hSw); go_simp) <;> with_reducible rfl
    simp only [Act.put, List.getElem_toArray, List.getElem_cons_succ, List.getElem_cons_zero, List.setIfInBounds_toArray, List.set_cons_succ, List.set_cons_zero]
    refine wpAnyH_take (i := 20) (v := ?vb20) rfl (by kernel_rfl) (by kernel_rfl) (by kernel_rfl) (fun _ _ _ h => h) (Or.inl ⟨by rfl, ?hyb20⟩) (by assumption) ?restb20
    case hyb20 => (intro w hSw; (try dsimp only at hSw); go_simp) <;> with_reducible rfl
    simp only [Act.put, List.getElem_toArray, List.getElem_cons_succ, List.getElem_cons_zero, List.setIfInBounds_toArray, List.set_cons_succ, List.set_cons_zero]
    refine wpAnyH_take (i := 21) (v := ?vb21) rfl (by kernel_rfl) (by kernel_rfl) (by kernel_rfl) (fun _ _ _ h => h) (Or.inl ⟨by rfl, ?hyb21⟩) (by assumption) ?restb21
    case hyb21 => (intro w hSw; (try dsimp only at hSw); go_simp) <;> with_reducible rfl
    simp only [Act.put, List.getElem_toArray, List.getElem_cons_succ, List.getElem_cons_zero, List.setIfInBounds_toArray, List.set_cons_succ, List.set_cons_zero]
    refine wpAnyH_take (i := 22) (v := ?vb22) rfl (by kernel_rfl) (by kernel_rfl) (by kernel_rfl) (fun _ _ _ h => h) (Or.inl ⟨by rfl, ?hyb22⟩) (by assumption) ?restb22
    case hyb22 => (intro w hSw; (try dsimp only at hSw); go_simp) <;> with_reducible rfl
    simp only [Act.put, List.getElem_toArray, List.getElem_cons_succ, List.getElem_cons_zero, List.setIfInBounds_toArray, List.set_cons_succ, List.set_cons_zero]
    refine wpAnyH_take (i := 23) (v := ?vb23) rfl (by kernel_rfl) (by kernel_rfl) (by kernel_rfl) (fun _ _ _ h => h) (Or.inl ⟨by rfl, ?hyb23⟩) (by assumption) ?restb23
    case hyb23 => (intro w hSw; (try dsimp only at hSw); go_simp) <;> with_reducible rfl
    simp only [Act.put, List.getElem_toArray, List.getElem_cons_succ, List.getElem_cons_zero, List.setIfInBounds_toArray, List.set_cons_succ, List.set_cons_zero]
    refine wpAnyH_take (i := 24) (v := ?vb24) rfl (by kernel_rfl) (by kernel_rfl) (by kernel_rfl) (fun _ _ _ h => h) (Or.inl ⟨by rfl, ?hyb24⟩) (by assumption) ?restb24
    case hyb24 => (intro w hSw; (try dsimp only at hSw); go_simp) <;> with_reducible rfl
    simp only [Act.put, List.getElem_toArray, List.getElem_cons_succ, List.getElem_cons_zero, List.setIfInBounds_toArray, List.set_cons_succ, List.set_cons_zero]
    refine wpAnyH_take (i := 25) (v := ?vb25) rfl (by kernel_rfl) (by kernel_rfl) (by kernel_rfl) (fun _ _ _ h => h) (Or.inl ⟨by rfl, ?hyb25⟩) (by assumption) ?restb25
    case hyb25 => (intro w hSw; (try dsimp only at hSw); go_simp) <;> with_reducible rfl
    simp only [Act.put, List.getElem_toArray, List.getElem_cons_succ, List.getElem_cons_zero, List.setIfInBounds_toArray, List.set_cons_succ, List.set_cons_zero]
    have HB0 := Lib.hid ((Below.refl w.heap.size w).drew)
    refine wpAnyH_ready (rs := [5]) (by kernel_rfl) (by simp) ?_
    refine AllReadyH.cons rfl (fun K hK => ?_) AllReadyH.nil
    go_simp
    obtain ⟨W1, hW1⟩ : ∃ W, (w.alloc (.cells #[] 3)).drew = W := ⟨_, rfl⟩
    have HBW1 := Lib.hid (show Below w.heap.size w W1 by rw [← hW1]; exact HB0.out.alloc HB0.out.size _)
    have HO1 := Lib.hid (show W1.ownsRow w.heap.size 3 1 (.slice (some ⟨w.heap.size, 0, none⟩) 0 0) 0 [] by rw [← hW1]; exact World.ownsRow_made w.drew #[] 0 HB0.out.size (by decide) rfl)
    rw [hW1]
    clear hW1
    refine hK.out _ _ (KS.out _ HBW1.out) (fun hHeld => ?_)
    clear hK K
    try simp only [Act.put, List.getElem_toArray, List.getElem_cons_succ, List.getElem_cons_zero, List.setIfInBounds_toArray, List.set_cons_succ, List.set_cons_zero]
    refine wpAnyH_ready (rs := [15]) (by kernel_rfl) (by simp) ?_
    refine AllReadyH.cons rfl (fun K hK => ?_) AllReadyH.nil
    refine step_append_src (by rfl) _ _ 61 (by rfl) w.heap.size 3 i3 _ 8 Try.underlying61 I3.out Z3.out S3.out B3.out rfl (by rfl) HO1.out (by rfl) (HS1.out _ HBW1.out) (ints_one l1) (by simp only [maxLen]; omega) (by omega) HBW1.out.size ?_
    intro v2 W2 hown2 hgrow2 hblk2
    have HBW2 := Lib.hid (HBW1.out.grown hgrow2 HBW1.out.size (fun k hk => (HO1.out.lt k hk).1))
    have HO2 := Lib.hid hown2
    clear hown2 hgrow2 hblk2
    refine hK.out _ _ (KS.out _ HBW2.out) (fun hHeld => ?_)
    clear hK K
    try simp only [Act.put, List.getElem_toArray, List.getElem_cons_succ, List.getElem_cons_zero, List.setIfInBounds_toArray, List.set_cons_succ, List.set_cons_zero]
    refine wpAnyH_ready (rs := [26]) (by kernel_rfl) (by simp) ?_
    refine AllReadyH.cons rfl (fun K hK => ?_) AllReadyH.nil
    refine step_append_src (by rfl) _ _ 61 (by rfl) w.heap.size 3 i3 _ 8 Try.underlying61 I3.out Z3.out S3.out B3.out rfl (by rfl) HO2.out (Eq.trans (by rfl) (slice_congr (by omega) (by omega))) (HS2.out _ HBW2.out) (ints_one l2) (by simp only [maxLen]; omega) (by omega) HBW2.out.size ?_
    intro v3 W3 hown3 hgrow3 hblk3
    have HBW3 := Lib.hid (HBW2.out.grown hgrow3 HBW2.out.size (fun k hk => (HO2.out.lt k hk).1))
    have HO3 := Lib.hid hown3
    clear hown3 hgrow3 hblk3
    refine hK.out _ _ (KS.out _ HBW3.out) (fun hHeld => ?_)
    clear hK K
    try simp only [Act.put, List.getElem_toArray, List.getElem_cons_succ, List.getElem_cons_zero, List.setIfInBounds_toArray, List.set_cons_succ, List.set_cons_zero]
    have hf0 := HO3.out
    rw [Nat.zero_add, List.nil_append] at hf0
    have HF := Lib.hid hf0
    have HX := Lib.hid HBW3.out
    refine wpAnyH_done (by kernel_rfl) ?_ _
    simp only [headPost, List.drop_succ_cons, List.drop_zero]
    have cR := (KS.out _ HX.out).2.1
    have cB := (KS.out _ HX.out).2.2
    have fB : W3.frozen? ⟨bl, i, none⟩ = false := (World.frozen?_of_block (a := ⟨bl, i, none⟩) (HX.out.block bl H.out.arr.lt)).trans (H.out.arr.frozen i)
    obtain ⟨A3, cap3, hv3, -⟩ := own_form hf0
    clear hf0
    subst hv3
    go_wp2_with fail
    go_ret2
    refine ⟨rfl, ⟨_, H.out.set HX.out hi (l := l1 ++ l2) ?_ (by simp; have := HKL.out; omega)⟩, ?_⟩
    · have e1 : (l1 ++ l2).length = k + l2.length := by rw [List.length_append, HKL.out]
      have e2 : ints (l1 ++ l2) = ints l1 ++ ints l2 := by simp [ints]
      rw [e1, e2]
      exact own_low HF.out hlow.2.2.2
    · exact ((Frm.of_below (S := fun k => k = bl) HX.out).setCell (p := ⟨bl, i, none⟩) (fun _ => rfl) _)

section
variable {w : World} {rx bl cap n1 N M : Nat} {V : Nat → Value} {R : Nat → List Nat}

theorem RRemove_arg (h : IsRx w rx bl cap n1 V N M R) {n : Int} (hin : ¬ (0 ≤ n ∧ n < N)) :
    Calls Try.prog 26 #[.pointer (some ⟨rx, 0, none⟩), .int .i64 n] w fun r w' => r = .returned (.tuple #[.int .i64 0, .int .i64 1]) ∧ w = w' := by
  have hc0 := h.c0
  clear h
  by_cases h0 : n < 0
  · clear hin
    go_enter Try.func26, Try.ntmps26
    go_wp2
    go_ret2
    exact ⟨rfl, rfl⟩
  · have h3 : (N : Int) ≤ n := by omega
    clear hin
    go_enter Try.func26, Try.ntmps26
    go_wp2
    go_ret2
    exact ⟨rfl, rfl⟩

theorem RRemove_none (h : IsRx w rx bl cap n1 V N M R) {n : Nat} (hn : n < N) (hno : inRef R n 0 M = (-1, -1)) :
    Calls Try.prog 26 #[.pointer (some ⟨rx, 0, none⟩), .int .i64 n] w fun r w' => r = .returned (.tuple #[.int .i64 0, .int .i64 3]) ∧ w = w' := by
  have hc0 := h.c0
  have HI := Lib.hid (RIn_any h n)
  rw [hno] at HI
  clear h hno
  go_enter Try.func26, Try.ntmps26
  go_wp2_with fail
  refine HI.out.mono ?_
  rintro r w' ⟨rfl, rfl⟩
  go_wp2_with fail
  go_ret2
  exact ⟨rfl, rfl⟩
end
end Go.Proofs.Ytgjgcobkppmafaa
