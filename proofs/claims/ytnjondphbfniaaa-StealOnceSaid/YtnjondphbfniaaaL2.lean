/- Contracts of the document's row (package pinfoldref28): a step of a pop. No condition. -/
import Derived.Test.YtnjondphbfniaaaL
namespace Go.Proofs.Ytnjondphbfniaaa
open Go.RowKit

set_option maxRecDepth 100000 in
set_option maxHeartbeats 8000000 in
theorem RStep_pop {w : World} {rb sb qb rn cs cq i : Nat} {r : Dq} {K : Int} (h : IsRf w rb sb qb rn cs cq r) (ok : ROk r i K) (hK : K ≤ 100000) (hk : (r.ps i).call = 2) :
    Calls Try.prog 20 #[.pointer (some ⟨rb, 0, none⟩), .int .i64 i] w
      fun e w' => e = .returned (.tuple #[.int .i64 (rgo r i).1, .int .i64 (if (rgo r i).1 = 1 then (rgo r i).2.2.1.x else 0), .int .i64 0]) ∧ IsRf w' rb sb qb rn cs cq (rend (rgo r i) i) ∧ Frm (Rfb rb sb qb) w w' := by
  have hi := ok.n.1
  have hn9 := ok.n.2
  have htop := ok.top
  have hbot := ok.bottom
  have hroom := ok.room
  have hcall := ok.call
  have hstep := ok.step
  have hshort := ok.short
  have hbb := ok.b
  have htt := ok.t
  have hb0 := ok.b0
  have hrn := h.room
  obtain ⟨p0, p1, p2, p3, p4, p5⟩ := h.party hi
  have c4 := h.c4
  have hA3 : w.heap.size ≠ rb ∧ w.heap.size ≠ sb ∧ w.heap.size ≠ qb := by
    have := h.top.lt
    have := h.slots.lt
    have := h.parts.lt
    omega
  obtain ⟨⟨c, s, B, T, X, Wn⟩, hp⟩ : ∃ p, r.ps i = p := ⟨_, rfl⟩
  rw [hp] at p0 p1 p2 p3 p4 p5 hcall hstep hshort hbb htt hb0 hk
  simp only at hk
  simp only at p0 p1 p2 p3 p4 p5 hcall hstep hshort hbb htt hb0
  have HP := Lib.hid hp
  have H := Lib.hid h
  have hgn := rgo_n r i
  have hgh := rgo_how r i
  obtain ⟨g, hg⟩ : ∃ g, rgo r i = g := ⟨_, rfl⟩
  rw [hg] at hgn hgh ⊢
  have HG := Lib.hid hg
  have HGn := Lib.hid hgn
  obtain ⟨A, hA⟩ : ∃ A, w.heap.size = A := ⟨_, rfl⟩
  rw [hA] at hA3
  have HAE := Lib.hid hA
  have HA3 := Lib.hid hA3
  have HRN := Lib.hid hrn
  have HKc := Lib.hid hk
  clear h ok hp hg hgn hA hrn hk
  go_enter Try.func20, Try.ntmps20
  go_upto_block 0 with fail
  obtain ⟨W1, hW1⟩ : ∃ W1, w.alloc (.cells #[.int .i64 c, .int .i64 s, .int .i64 B, .int .i64 T, .int .i64 X, .bool Wn] 38) = W1 := ⟨_, rfl⟩
  have hCp : Cp W1 A ⟨c, s, B, T, X, Wn⟩ := by
    rw [← hW1, ← HAE.out]
    exact (Blk.new w #[.int .i64 c, .int .i64 s, .int .i64 B, .int .i64 T, .int .i64 X, .bool Wn] 38).congr fun o ho => by
      match o, ho with
      | 0, _ => rfl
      | 1, _ => rfl
      | 2, _ => rfl
      | 3, _ => rfl
      | 4, _ => rfl
      | 5, _ => rfl
  have HF1 := Lib.hid (show Frm (Rfb rb sb qb) w W1 by rw [← hW1]; exact (Frm.refl _ _).alloc _)
  have HR1 := Lib.hid (show IsRf W1 rb sb qb rn cs cq r by rw [← hW1]; exact H.out.of_frm (S := fun _ => False) ((Frm.refl _ _).alloc _) (fun h => h) (fun h => h) (fun h => h))
  try rw [hW1]
  try rw [HAE.out]
  clear hW1 p0 p1 p2 p3 p4 p5 c4
  obtain ⟨a0, a1, a2, a3, a4, a5⟩ := hCp.cells
  have fA := hCp.frozen
  have HCp := Lib.hid hCp
  have HAl := Lib.hid (show w.heap.size ≤ A from Nat.le_of_eq HAE.out)
  clear hCp
  go_cut [8, 9] (fun s8 s9 wr => Sw w wr A rb sb qb rn cs cq g s8 s9)
  case first =>
    have c0 := HR1.out.c0
    have c1 := HR1.out.c1
    have c2 := HR1.out.c2
    have c3 := HR1.out.c3
    have fr := HR1.out.top.frozen
    have fs := HR1.out.slots.frozen
    have nA1 : ¬ A = rb := HA3.out.1
    have nA2 : ¬ rb = A := fun e => HA3.out.1 e.symm
    have nA3 : ¬ A = sb := HA3.out.2.1
    have nA4 : ¬ sb = A := fun e => HA3.out.2.1 e.symm
    have nA5 : ¬ A = qb := HA3.out.2.2
    have nA6 : ¬ qb = A := fun e => HA3.out.2.2 e.symm
    have hk := HKc.out
    subst hk
    have hs4 := hstep
    by_cases s1 : s = 1
    · subst s1
      have HE := Lib.hid (show g = (0, 2, ⟨2, 1, r.bottom - 1, T, X, Wn⟩, r.setB (r.bottom - 1)) by rw [← HG.out]; unfold rgo; rw [HP.out]; simp)
      clear hbb htt hb0 hshort hcall hstep
      go_wp2_with fail
      go_meet
      case rel => rw [HE.out]; exact ⟨rfl, rfl, ((HCp.out.other HA3.out.1 _ _).setB _), (HR1.out.setBottom _).at HA3.out _ _, (HF1.out.rf _ _).af HAl.out _ _⟩
    by_cases s2 : s = 2
    · subst s2
      have HE := Lib.hid (show g = (0, if B < r.top then 5 else 3, ⟨2, 2, B, r.top, X, Wn⟩, r) by rw [← HG.out]; unfold rgo; rw [HP.out]; simp)
      have hB := hbb (by omega)
      clear hbb htt hb0 hshort hcall hstep
      by_cases hf : B < r.top
      all_goals
        first | rw [if_pos hf] at HE | rw [if_neg hf] at HE
        go_wp2_with fail
        all_goals
          go_meet
          case rel => rw [HE.out]; exact ⟨rfl, rfl, HCp.out.setT _, HR1.out.at HA3.out _ _, HF1.out.af HAl.out _ _⟩
    by_cases s3 : s = 3
    · subst s3
      have HE := Lib.hid (show g = (if T < B then 1 else 0, 4, ⟨2, 3, B, T, r.slots (r.at' B), Wn⟩, r) by rw [← HG.out]; unfold rgo; rw [HP.out]; simp)
      have hB0 := hb0 (by omega) rfl
      have hat := r.at_lt (n := B) (by omega) hroom.1
      have e1 : (B).tmod r.room = (r.at' B : Nat) := by rw [Int.tmod_eq_emod_of_nonneg (by omega)]; exact hat.1.symm
      have hr0 : ¬ r.room = 0 := by omega
      have hlt : r.at' B < rn := by have := HRN.out; omega
      have hlt2 : ((r.at' B : Nat) : Int) < (rn : Int) := by omega
      have hge2 : (0 : Int) ≤ ((r.at' B : Nat) : Int) := by omega
      have csl := HR1.out.slot hlt
      have e2 : (B) % r.room = (r.at' B : Nat) := hat.1.symm
      clear hat
      have HLT := Lib.hid hlt
      generalize r.at' B = S at *
      have HXV := Lib.hid (HCp.out.drew.setX (r.slots S))
      clear hbb htt hb0 hshort hcall hstep
      go_wp2_with fail
      refine wp_region_cut_held (fun w' => w'.cell? ⟨rb, 3, none⟩ = some (Value.slice (some ⟨sb, 0, none⟩) rn cs) ∧ w'.cell? ⟨A, 2, none⟩ = some (.int .i64 B) ∧ w'.cell? ⟨rb, 2, none⟩ = some (.int .i64 r.room) ∧ w'.cell? ⟨sb, S, none⟩ = some (.int .i64 (r.slots S))) 14 (by kernel_rfl) (by kernel_rfl) ⟨c3, a2, c2, csl⟩ (fun hHeld => ?_)
      simp only [List.take_succ_cons, List.take_zero]
      refine wpAnyH_take (i := 0) (v := ?vt230) rfl (by kernel_rfl) (by kernel_rfl) (by kernel_rfl) (fun _ _ _ h => h) (Or.inl ⟨by rfl, ?hyt230⟩) (by assumption) ?restt230
      case hyt230 => (intro w hSw; (try dsimp only at hSw); go_simp) <;> with_reducible rfl
      simp only [Act.put, List.getElem_toArray, List.getElem_cons_succ, List.getElem_cons_zero, List.setIfInBounds_toArray, List.set_cons_succ, List.set_cons_zero]
      refine wpAnyH_take (i := 1) (v := ?vt231) rfl (by kernel_rfl) (by kernel_rfl) (by kernel_rfl) (fun _ _ _ h => h) (Or.inl ⟨by rfl, ?hyt231⟩) (by assumption) ?restt231
      case hyt231 => (intro w hSw; (try dsimp only at hSw); go_simp) <;> with_reducible rfl
      simp only [Act.put, List.getElem_toArray, List.getElem_cons_succ, List.getElem_cons_zero, List.setIfInBounds_toArray, List.set_cons_succ, List.set_cons_zero]
      refine wpAnyH_take (i := 2) (v := ?vt232) rfl (by kernel_rfl) (by kernel_rfl) (by kernel_rfl) (fun _ _ _ h => h) (Or.inl ⟨by rfl, ?hyt232⟩) (by assumption) ?restt232
      case hyt232 => (intro w hSw; (try dsimp only at hSw); go_simp) <;> with_reducible rfl
      simp only [Act.put, List.getElem_toArray, List.getElem_cons_succ, List.getElem_cons_zero, List.setIfInBounds_toArray, List.set_cons_succ, List.set_cons_zero]
      refine wpAnyH_take (i := 3) (v := ?vt233) rfl (by kernel_rfl) (by kernel_rfl) (by kernel_rfl) (fun _ _ _ h => h) (Or.inl ⟨by rfl, ?hyt233⟩) (by assumption) ?restt233
      case hyt233 => (intro w hSw; (try dsimp only at hSw); go_simp) <;> with_reducible rfl
      simp only [Act.put, List.getElem_toArray, List.getElem_cons_succ, List.getElem_cons_zero, List.setIfInBounds_toArray, List.set_cons_succ, List.set_cons_zero]
      refine wpAnyH_take (i := 4) (v := ?vt234) rfl (by kernel_rfl) (by kernel_rfl) (by kernel_rfl) (fun _ _ _ h => h) (Or.inl ⟨by rfl, ?hyt234⟩) (by assumption) ?restt234
      case hyt234 => (intro w hSw; (try dsimp only at hSw); go_simp) <;> with_reducible rfl
      simp only [Act.put, List.getElem_toArray, List.getElem_cons_succ, List.getElem_cons_zero, List.setIfInBounds_toArray, List.set_cons_succ, List.set_cons_zero]
      refine wpAnyH_take (i := 5) (v := ?vt235) rfl (by kernel_rfl) (by kernel_rfl) (by kernel_rfl) (fun _ _ _ h => h) (Or.inl ⟨by rfl, ?hyt235⟩) (by assumption) ?restt235
      case hyt235 => (intro w hSw; (try dsimp only at hSw); go_simp) <;> with_reducible rfl
      simp only [Act.put, List.getElem_toArray, List.getElem_cons_succ, List.getElem_cons_zero, List.setIfInBounds_toArray, List.set_cons_succ, List.set_cons_zero]
      refine wpAnyH_take (i := 6) (v := ?vt236) rfl (by kernel_rfl) (by kernel_rfl) (by kernel_rfl) (fun _ _ _ h => h) (Or.inl ⟨by rfl, ?hyt236⟩) (by assumption) ?restt236
      case hyt236 => (intro w hSw; (try dsimp only at hSw); go_simp) <;> with_reducible rfl
      simp only [Act.put, List.getElem_toArray, List.getElem_cons_succ, List.getElem_cons_zero, List.setIfInBounds_toArray, List.set_cons_succ, List.set_cons_zero]
      refine wpAnyH_take (i := 7) (v := ?vt237) rfl (by kernel_rfl) (by kernel_rfl) (by kernel_rfl) (fun _ _ _ h => h) (Or.inl ⟨by rfl, ?hyt237⟩) (by assumption) ?restt237
      case hyt237 => (intro w hSw; (try dsimp only at hSw); go_simp) <;> with_reducible rfl
      simp only [Act.put, List.getElem_toArray, List.getElem_cons_succ, List.getElem_cons_zero, List.setIfInBounds_toArray, List.set_cons_succ, List.set_cons_zero]
      refine wpAnyH_take (i := 8) (v := ?vt238) rfl (by kernel_rfl) (by kernel_rfl) (by kernel_rfl) (fun _ _ _ h => h) (Or.inl ⟨by rfl, ?hyt238⟩) (by assumption) ?restt238
      case hyt238 => (intro w hSw; (try dsimp only at hSw); go_simp) <;> with_reducible rfl
      simp only [Act.put, List.getElem_toArray, List.getElem_cons_succ, List.getElem_cons_zero, List.setIfInBounds_toArray, List.set_cons_succ, List.set_cons_zero]
      refine wpAnyH_take (i := 9) (v := ?vt239) rfl (by kernel_rfl) (by kernel_rfl) (by kernel_rfl) (fun _ _ _ h => h) (Or.inl ⟨by rfl, ?hyt239⟩) (by assumption) ?restt239
      case hyt239 => (intro w hSw; (try dsimp only at hSw); go_simp) <;> with_reducible rfl
      simp only [Act.put, List.getElem_toArray, List.getElem_cons_succ, List.getElem_cons_zero, List.setIfInBounds_toArray, List.set_cons_succ, List.set_cons_zero]
      refine wpAnyH_take (i := 10) (v := ?vt2310) rfl (by kernel_rfl) (by kernel_rfl) (by kernel_rfl) (fun _ _ _ h => h) (Or.inl ⟨by rfl, ?hyt2310⟩) (by assumption) ?restt2310
      case hyt2310 => (intro w hSw; (try dsimp only at hSw); go_simp) <;> with_reducible rfl
      simp only [Act.put, List.getElem_toArray, List.getElem_cons_succ, List.getElem_cons_zero, List.setIfInBounds_toArray, List.set_cons_succ, List.set_cons_zero]
      refine wpAnyH_take (i := 11) (v := ?vt2311) rfl (by kernel_rfl) (by kernel_rfl) (by kernel_rfl) (fun _ _ _ h => h) (Or.inl ⟨by rfl, ?hyt2311⟩) (by assumption) ?restt2311
      case hyt2311 => (intro w hSw; (try dsimp only at hSw); go_simp) <;> with_reducible rfl
      simp only [Act.put, List.getElem_toArray, List.getElem_cons_succ, List.getElem_cons_zero, List.setIfInBounds_toArray, List.set_cons_succ, List.set_cons_zero]
      refine wpAnyH_take (i := 12) (v := ?vt2312) rfl (by kernel_rfl) (by kernel_rfl) (by kernel_rfl) (fun _ _ _ h => h) (Or.inl ⟨by rfl, ?hyt2312⟩) (by assumption) ?restt2312
      case hyt2312 => (intro w hSw; (try dsimp only at hSw); go_simp) <;> with_reducible rfl
      simp only [Act.put, List.getElem_toArray, List.getElem_cons_succ, List.getElem_cons_zero, List.setIfInBounds_toArray, List.set_cons_succ, List.set_cons_zero]
      refine wpAnyH_take (i := 13) (v := ?vt2313) rfl (by kernel_rfl) (by kernel_rfl) (by kernel_rfl) (fun _ _ _ h => h) (Or.inl ⟨by rfl, ?hyt2313⟩) (by assumption) ?restt2313
      case hyt2313 => (intro w hSw; (try dsimp only at hSw); go_simp) <;> with_reducible rfl
      simp only [Act.put, List.getElem_toArray, List.getElem_cons_succ, List.getElem_cons_zero, List.setIfInBounds_toArray, List.set_cons_succ, List.set_cons_zero]
      refine wpAnyH_done (by kernel_rfl) ?_ _
      simp only [headPost, List.drop_succ_cons, List.drop_zero]
      go_wp2_with fail
      all_goals
        first | (exfalso; omega) | skip
        go_meet
        case rel => rw [HE.out]; exact ⟨by split <;> first | rfl | (exfalso; omega), rfl, HXV.out, (HR1.out.drew).at HA3.out _ _, (HF1.out.drew).af HAl.out _ _⟩
    by_cases s4 : s = 4
    · subst s4
      have HE := Lib.hid (show g = (0, 5, ⟨2, 4, B, T, X, r.top == T⟩, if r.top = T then r.setT (T + 1) else r) by rw [← HG.out]; unfold rgo; rw [HP.out]; simp)
      have hT := htt (by omega)
      clear hbb htt hb0 hshort hcall hstep
      by_cases hf : r.top = T
      · have e1 : (r.top == T) = true := by simpa using hf
        have HFF := Lib.hid hf
        have HE2 := Lib.hid (show g = (0, 5, ⟨2, 4, B, T, X, true⟩, r.setT (T + 1)) by rw [HE.out, e1, if_pos hf])
        clear hf
        go_wp2_with fail
        refine wp_region_cut_held (fun w' => w'.cell? ⟨rb, 0, none⟩ = some (.int .i64 r.top) ∧ w'.cell? ⟨A, 3, none⟩ = some (.int .i64 T)) 8 (by kernel_rfl) (by kernel_rfl) ⟨c0, a3⟩ (fun hHeld => ?_)
        simp only [List.take_succ_cons, List.take_zero]
        refine wpAnyH_take (i := 0) (v := ?vu10) rfl (by kernel_rfl) (by kernel_rfl) (by kernel_rfl) (fun _ _ _ h => h) (Or.inl ⟨by rfl, ?hyu10⟩) (by assumption) ?restu10
        case hyu10 => (intro w hSw; (try dsimp only at hSw); go_simp) <;> with_reducible rfl
        simp only [Act.put, List.getElem_toArray, List.getElem_cons_succ, List.getElem_cons_zero, List.setIfInBounds_toArray, List.set_cons_succ, List.set_cons_zero]
        refine wpAnyH_take (i := 1) (v := ?vu11) rfl (by kernel_rfl) (by kernel_rfl) (by kernel_rfl) (fun _ _ _ h => h) (Or.inl ⟨by rfl, ?hyu11⟩) (by assumption) ?restu11
        case hyu11 => (intro w hSw; (try dsimp only at hSw); go_simp) <;> with_reducible rfl
        simp only [Act.put, List.getElem_toArray, List.getElem_cons_succ, List.getElem_cons_zero, List.setIfInBounds_toArray, List.set_cons_succ, List.set_cons_zero]
        refine wpAnyH_take (i := 2) (v := ?vu12) rfl (by kernel_rfl) (by kernel_rfl) (by kernel_rfl) (fun _ _ _ h => h) (Or.inl ⟨by rfl, ?hyu12⟩) (by assumption) ?restu12
        case hyu12 => (intro w hSw; (try dsimp only at hSw); go_simp) <;> with_reducible rfl
        simp only [Act.put, List.getElem_toArray, List.getElem_cons_succ, List.getElem_cons_zero, List.setIfInBounds_toArray, List.set_cons_succ, List.set_cons_zero]
        refine wpAnyH_take (i := 3) (v := ?vu13) rfl (by kernel_rfl) (by kernel_rfl) (by kernel_rfl) (fun _ _ _ h => h) (Or.inl ⟨by rfl, ?hyu13⟩) (by assumption) ?restu13
        case hyu13 => (intro w hSw; (try dsimp only at hSw); go_simp) <;> with_reducible rfl
        simp only [Act.put, List.getElem_toArray, List.getElem_cons_succ, List.getElem_cons_zero, List.setIfInBounds_toArray, List.set_cons_succ, List.set_cons_zero]
        refine wpAnyH_take (i := 4) (v := ?vu14) rfl (by kernel_rfl) (by kernel_rfl) (by kernel_rfl) (fun _ _ _ h => h) (Or.inl ⟨by rfl, ?hyu14⟩) (by assumption) ?restu14
        case hyu14 => (intro w hSw; (try dsimp only at hSw); go_simp) <;> with_reducible rfl
        simp only [Act.put, List.getElem_toArray, List.getElem_cons_succ, List.getElem_cons_zero, List.setIfInBounds_toArray, List.set_cons_succ, List.set_cons_zero]
        refine wpAnyH_take (i := 5) (v := ?vu15) rfl (by kernel_rfl) (by kernel_rfl) (by kernel_rfl) (fun _ _ _ h => h) (Or.inl ⟨by rfl, ?hyu15⟩) (by assumption) ?restu15
        case hyu15 => (intro w hSw; (try dsimp only at hSw); go_simp) <;> with_reducible rfl
        simp only [Act.put, List.getElem_toArray, List.getElem_cons_succ, List.getElem_cons_zero, List.setIfInBounds_toArray, List.set_cons_succ, List.set_cons_zero]
        refine wpAnyH_take (i := 6) (v := ?vu16) rfl (by kernel_rfl) (by kernel_rfl) (by kernel_rfl) (fun _ _ _ h => h) (Or.inl ⟨by rfl, ?hyu16⟩) (by assumption) ?restu16
        case hyu16 => (intro w hSw; (try dsimp only at hSw); go_simp) <;> with_reducible rfl
        simp only [Act.put, List.getElem_toArray, List.getElem_cons_succ, List.getElem_cons_zero, List.setIfInBounds_toArray, List.set_cons_succ, List.set_cons_zero]
        refine wpAnyH_take (i := 7) (v := ?vu17) rfl (by kernel_rfl) (by kernel_rfl) (by kernel_rfl) (fun _ _ _ h => h) (Or.inl ⟨by rfl, ?hyu17⟩) (by assumption) ?restu17
        case hyu17 => (intro w hSw; (try dsimp only at hSw); go_simp) <;> with_reducible rfl
        simp only [Act.put, List.getElem_toArray, List.getElem_cons_succ, List.getElem_cons_zero, List.setIfInBounds_toArray, List.set_cons_succ, List.set_cons_zero]
        refine wpAnyH_done (by kernel_rfl) ?_ _
        simp only [headPost, List.drop_succ_cons, List.drop_zero]
        go_wp2_with fail
        go_meet
        case rel => rw [HE2.out]; exact ⟨rfl, rfl, ((HCp.out.drew).setW _).other HA3.out.1 _ _, ((HR1.out.drew).at HA3.out _ _).setTop _, ((HF1.out.drew).af HAl.out _ _).rf _ _⟩
      · have e1 : (r.top == T) = false := by simpa using hf
        have HFF := Lib.hid hf
        have HE2 := Lib.hid (show g = (0, 5, ⟨2, 4, B, T, X, false⟩, r) by rw [HE.out, e1, if_neg hf])
        clear hf
        go_wp2_with fail
        refine wp_region_cut_held (fun w' => w'.cell? ⟨rb, 0, none⟩ = some (.int .i64 r.top) ∧ w'.cell? ⟨A, 3, none⟩ = some (.int .i64 T)) 8 (by kernel_rfl) (by kernel_rfl) ⟨c0, a3⟩ (fun hHeld => ?_)
        simp only [List.take_succ_cons, List.take_zero]
        refine wpAnyH_take (i := 0) (v := ?vu20) rfl (by kernel_rfl) (by kernel_rfl) (by kernel_rfl) (fun _ _ _ h => h) (Or.inl ⟨by rfl, ?hyu20⟩) (by assumption) ?restu20
        case hyu20 => (intro w hSw; (try dsimp only at hSw); go_simp) <;> with_reducible rfl
        simp only [Act.put, List.getElem_toArray, List.getElem_cons_succ, List.getElem_cons_zero, List.setIfInBounds_toArray, List.set_cons_succ, List.set_cons_zero]
        refine wpAnyH_take (i := 1) (v := ?vu21) rfl (by kernel_rfl) (by kernel_rfl) (by kernel_rfl) (fun _ _ _ h => h) (Or.inl ⟨by rfl, ?hyu21⟩) (by assumption) ?restu21
        case hyu21 => (intro w hSw; (try dsimp only at hSw); go_simp) <;> with_reducible rfl
        simp only [Act.put, List.getElem_toArray, List.getElem_cons_succ, List.getElem_cons_zero, List.setIfInBounds_toArray, List.set_cons_succ, List.set_cons_zero]
        refine wpAnyH_take (i := 2) (v := ?vu22) rfl (by kernel_rfl) (by kernel_rfl) (by kernel_rfl) (fun _ _ _ h => h) (Or.inl ⟨by rfl, ?hyu22⟩) (by assumption) ?restu22
        case hyu22 => (intro w hSw; (try dsimp only at hSw); go_simp) <;> with_reducible rfl
        simp only [Act.put, List.getElem_toArray, List.getElem_cons_succ, List.getElem_cons_zero, List.setIfInBounds_toArray, List.set_cons_succ, List.set_cons_zero]
        refine wpAnyH_take (i := 3) (v := ?vu23) rfl (by kernel_rfl) (by kernel_rfl) (by kernel_rfl) (fun _ _ _ h => h) (Or.inl ⟨by rfl, ?hyu23⟩) (by assumption) ?restu23
        case hyu23 => (intro w hSw; (try dsimp only at hSw); go_simp) <;> with_reducible rfl
        simp only [Act.put, List.getElem_toArray, List.getElem_cons_succ, List.getElem_cons_zero, List.setIfInBounds_toArray, List.set_cons_succ, List.set_cons_zero]
        refine wpAnyH_take (i := 4) (v := ?vu24) rfl (by kernel_rfl) (by kernel_rfl) (by kernel_rfl) (fun _ _ _ h => h) (Or.inl ⟨by rfl, ?hyu24⟩) (by assumption) ?restu24
        case hyu24 => (intro w hSw; (try dsimp only at hSw); go_simp) <;> with_reducible rfl
        simp only [Act.put, List.getElem_toArray, List.getElem_cons_succ, List.getElem_cons_zero, List.setIfInBounds_toArray, List.set_cons_succ, List.set_cons_zero]
        refine wpAnyH_take (i := 5) (v := ?vu25) rfl (by kernel_rfl) (by kernel_rfl) (by kernel_rfl) (fun _ _ _ h => h) (Or.inl ⟨by rfl, ?hyu25⟩) (by assumption) ?restu25
        case hyu25 => (intro w hSw; (try dsimp only at hSw); go_simp) <;> with_reducible rfl
        simp only [Act.put, List.getElem_toArray, List.getElem_cons_succ, List.getElem_cons_zero, List.setIfInBounds_toArray, List.set_cons_succ, List.set_cons_zero]
        refine wpAnyH_take (i := 6) (v := ?vu26) rfl (by kernel_rfl) (by kernel_rfl) (by kernel_rfl) (fun _ _ _ h => h) (Or.inl ⟨by rfl, ?hyu26⟩) (by assumption) ?restu26
        case hyu26 => (intro w hSw; (try dsimp only at hSw); go_simp) <;> with_reducible rfl
        simp only [Act.put, List.getElem_toArray, List.getElem_cons_succ, List.getElem_cons_zero, List.setIfInBounds_toArray, List.set_cons_succ, List.set_cons_zero]
        refine wpAnyH_take (i := 7) (v := ?vu27) rfl (by kernel_rfl) (by kernel_rfl) (by kernel_rfl) (fun _ _ _ h => h) (Or.inl ⟨by rfl, ?hyu27⟩) (by assumption) ?restu27
        case hyu27 => (intro w hSw; (try dsimp only at hSw); go_simp) <;> with_reducible rfl
        simp only [Act.put, List.getElem_toArray, List.getElem_cons_succ, List.getElem_cons_zero, List.setIfInBounds_toArray, List.set_cons_succ, List.set_cons_zero]
        refine wpAnyH_done (by kernel_rfl) ?_ _
        simp only [headPost, List.drop_succ_cons, List.drop_zero]
        go_wp2_with fail
        go_meet
        case rel => rw [HE2.out]; exact ⟨rfl, rfl, (HCp.out.drew).setW _, (HR1.out.drew).at HA3.out _ _, (HF1.out.drew).af HAl.out _ _⟩
    have s5 : s = 5 := by omega
    subst s5
    have HE := Lib.hid (show g = (if Wn = true then 1 else 3, 6, ⟨2, 5, B, T, X, Wn⟩, r.setB (B + 1)) by rw [← HG.out]; unfold rgo; rw [HP.out]; simp)
    have hB := hbb (by omega)
    clear hbb htt hb0 hshort hcall hstep
    cases Wn
    all_goals
      go_wp2_with fail
      go_meet
      case rel => rw [HE.out]; exact ⟨rfl, rfl, HCp.out.other HA3.out.1 _ _, HR1.out.setBottom _, HF1.out.rf _ _⟩
  case rest =>
    obtain ⟨rfl, rfl, hC, hR, hF⟩ := hcut
    obtain ⟨g1, g2, q, r2⟩ := g
    simp only at hC hR hF HGn ⊢
    have hi2 : i < r2.n := by have := HGn.out; omega
    have hn2 : r2.n ≤ 9 := by have := HGn.out; omega
    obtain ⟨qc, qs, qB, qT, qX, qW⟩ := q
    obtain ⟨a0, a1, a2, a3, a4, a5⟩ := hC.cells
    have fA := hC.frozen
    have HC := Lib.hid hC
    have HR := Lib.hid hR
    have HF := Lib.hid hF
    simp only at a0 a1 a2 a3 a4 a5
    have nA1 : ¬ A = rb := HA3.out.1
    have nA2 : ¬ rb = A := fun e => HA3.out.1 e.symm
    have nA5 : ¬ A = qb := HA3.out.2.2
    have nA6 : ¬ qb = A := fun e => HA3.out.2.2 e.symm
    clear hC hR hF
    by_cases e0 : g1 = 0
    · subst e0
      go_upto_region 56 with fail
      obtain ⟨W3, hW3⟩ : ∃ W3, wc.setCell ⟨A, 1, none⟩ (.int .i64 g2) = W3 := ⟨_, rfl⟩
      have HC3 := Lib.hid (show Cp W3 A ⟨qc, g2, qB, qT, qX, qW⟩ by rw [← hW3]; exact HC.out.setS g2)
      have HR3 := Lib.hid (show IsRf W3 rb sb qb rn cs cq r2 by rw [← hW3]; exact HR.out.at HA3.out _ _)
      have HF3 := Lib.hid (show Frm (Rfb rb sb qb) w W3 by rw [← hW3]; exact HF.out.af HAl.out _ _)
      rw [hW3]
      clear hW3 a0 a1 a2 a3 a4 a5
      have c4 := HR3.out.c4
      obtain ⟨p0, p1, p2, p3, p4, p5⟩ := HR3.out.party hi2
      have fq := HR3.out.parts.frozen
      obtain ⟨b0, b1, b2, b3, b4, b5⟩ := HC3.out.cells
      refine wp_region_cut_held (fun w' => w'.cell? ⟨rb, 4, none⟩ = some (Value.slice (some ⟨qb, 0, none⟩) r2.n cq) ∧ w'.cell? ⟨A, 0, none⟩ = some (.int .i64 qc) ∧ w'.cell? ⟨A, 1, none⟩ = some (.int .i64 g2) ∧ w'.cell? ⟨A, 2, none⟩ = some (.int .i64 qB) ∧ w'.cell? ⟨A, 3, none⟩ = some (.int .i64 qT) ∧ w'.cell? ⟨A, 4, none⟩ = some (.int .i64 qX) ∧ w'.cell? ⟨A, 5, none⟩ = some (.bool qW)) 6 (by kernel_rfl) (by kernel_rfl) ⟨c4, b0, b1, b2, b3, b4, b5⟩ (fun hHeld => ?_)
      simp only [List.take_succ_cons, List.take_zero]
      refine wpAnyH_take (i := 0) (v := ?vea0) rfl (by kernel_rfl) (by kernel_rfl) (by kernel_rfl) (fun _ _ _ h => h) (Or.inl ⟨by rfl, ?hyea0⟩) (by assumption) ?restea0
      case hyea0 => (intro w hSw; (try dsimp only at hSw); go_simp) <;> with_reducible rfl
      simp only [Act.put, List.getElem_toArray, List.getElem_cons_succ, List.getElem_cons_zero, List.setIfInBounds_toArray, List.set_cons_succ, List.set_cons_zero]
      refine wpAnyH_take (i := 1) (v := ?vea1) rfl (by kernel_rfl) (by kernel_rfl) (by kernel_rfl) (fun _ _ _ h => h) (Or.inl ⟨by rfl, ?hyea1⟩) (by assumption) ?restea1
      case hyea1 => (intro w hSw; (try dsimp only at hSw); go_simp) <;> with_reducible rfl
      simp only [Act.put, List.getElem_toArray, List.getElem_cons_succ, List.getElem_cons_zero, List.setIfInBounds_toArray, List.set_cons_succ, List.set_cons_zero]
      refine wpAnyH_take (i := 2) (v := ?vea2) rfl (by kernel_rfl) (by kernel_rfl) (by kernel_rfl) (fun _ _ _ h => h) (Or.inl ⟨by rfl, ?hyea2⟩) (by assumption) ?restea2
      case hyea2 => (intro w hSw; (try dsimp only at hSw); go_simp) <;> with_reducible rfl
      simp only [Act.put, List.getElem_toArray, List.getElem_cons_succ, List.getElem_cons_zero, List.setIfInBounds_toArray, List.set_cons_succ, List.set_cons_zero]
      refine wpAnyH_take (i := 3) (v := ?vea3) rfl (by kernel_rfl) (by kernel_rfl) (by kernel_rfl) (fun _ _ _ h => h) (Or.inl ⟨by rfl, ?hyea3⟩) (by assumption) ?restea3
      case hyea3 => (intro w hSw; (try dsimp only at hSw); go_simp) <;> with_reducible rfl
      simp only [Act.put, List.getElem_toArray, List.getElem_cons_succ, List.getElem_cons_zero, List.setIfInBounds_toArray, List.set_cons_succ, List.set_cons_zero]
      refine wpAnyH_take (i := 4) (v := ?vea4) rfl (by kernel_rfl) (by kernel_rfl) (by kernel_rfl) (fun _ _ _ h => h) (Or.inl ⟨by rfl, ?hyea4⟩) (by assumption) ?restea4
      case hyea4 => (intro w hSw; (try dsimp only at hSw); go_simp) <;> with_reducible rfl
      simp only [Act.put, List.getElem_toArray, List.getElem_cons_succ, List.getElem_cons_zero, List.setIfInBounds_toArray, List.set_cons_succ, List.set_cons_zero]
      refine wpAnyH_take (i := 5) (v := ?vea5) rfl (by kernel_rfl) (by kernel_rfl) (by kernel_rfl) (fun _ _ _ h => h) (Or.inl ⟨by rfl, ?hyea5⟩) (by assumption) ?restea5
      case hyea5 => (intro w hSw; (try dsimp only at hSw); go_simp) <;> with_reducible rfl
      simp only [Act.put, List.getElem_toArray, List.getElem_cons_succ, List.getElem_cons_zero, List.setIfInBounds_toArray, List.set_cons_succ, List.set_cons_zero]
      refine wpAnyH_done (by kernel_rfl) ?_ _
      simp only [headPost, List.drop_succ_cons, List.drop_zero]
      go_wp2_with fail
      have HX := Lib.hid ((HR3.out.put6 hi2 ⟨qc, g2, qB, qT, qX, qW⟩).drew)
      have HXF := Lib.hid ((((((((HF3.out).qf (i * 6) (.int .i64 qc)).qf (i * 6 + 1) (.int .i64 g2)).qf (i * 6 + 2) (.int .i64 qB)).qf (i * 6 + 3) (.int .i64 qT)).qf (i * 6 + 4) (.int .i64 qX)).qf (i * 6 + 5) (.bool qW)).drew)
      refine bodyPost_ret (v := .tuple #[.int .i64 0, .int .i64 0, .int .i64 0]) (by simp [results, Try.results20, go_sem]) rfl ⟨rfl, ?_, HXF.out⟩
      exact HX.out
    · have e1 : (g1 == 0) = false := by simpa using e0
      have e2 : (g1 != 0) = true := by simpa using e0
      by_cases e3 : g1 = 1
      · subst e3
        clear e0
        go_upto_region 56 with fail
        obtain ⟨W3, hW3⟩ : ∃ W3, ((((((wc.setCell ⟨A, 1, none⟩ (.int .i64 g2)).setCell ⟨A, 0, none⟩ (.int .i64 0)).setCell ⟨A, 1, none⟩ (.int .i64 0)).setCell ⟨A, 2, none⟩ (.int .i64 0)).setCell ⟨A, 3, none⟩ (.int .i64 0)).setCell ⟨A, 4, none⟩ (.int .i64 0)).setCell ⟨A, 5, none⟩ (.bool false) = W3 := ⟨_, rfl⟩
        have HC3 := Lib.hid (show Cp W3 A Pt.none by rw [← hW3]; exact (HC.out.setS g2).none)
        have HR3 := Lib.hid (show IsRf W3 rb sb qb rn cs cq r2 by rw [← hW3]; exact (((((((HR.out.at HA3.out _ _).at HA3.out _ _).at HA3.out _ _).at HA3.out _ _).at HA3.out _ _).at HA3.out _ _).at HA3.out _ _))
        have HF3 := Lib.hid (show Frm (Rfb rb sb qb) w W3 by rw [← hW3]; exact (((((((HF.out.af HAl.out _ _).af HAl.out _ _).af HAl.out _ _).af HAl.out _ _).af HAl.out _ _).af HAl.out _ _).af HAl.out _ _))
        rw [hW3]
        clear hW3 a0 a1 a2 a3 a4 a5
        have c4 := HR3.out.c4
        obtain ⟨p0, p1, p2, p3, p4, p5⟩ := HR3.out.party hi2
        have fq := HR3.out.parts.frozen
        obtain ⟨b0, b1, b2, b3, b4, b5⟩ := HC3.out.cells
        refine wp_region_cut_held (fun w' => w'.cell? ⟨rb, 4, none⟩ = some (Value.slice (some ⟨qb, 0, none⟩) r2.n cq) ∧ w'.cell? ⟨A, 0, none⟩ = some (.int .i64 0) ∧ w'.cell? ⟨A, 1, none⟩ = some (.int .i64 0) ∧ w'.cell? ⟨A, 2, none⟩ = some (.int .i64 0) ∧ w'.cell? ⟨A, 3, none⟩ = some (.int .i64 0) ∧ w'.cell? ⟨A, 4, none⟩ = some (.int .i64 0) ∧ w'.cell? ⟨A, 5, none⟩ = some (.bool false)) 6 (by kernel_rfl) (by kernel_rfl) ⟨c4, b0, b1, b2, b3, b4, b5⟩ (fun hHeld => ?_)
        simp only [List.take_succ_cons, List.take_zero]
        refine wpAnyH_take (i := 0) (v := ?veb0) rfl (by kernel_rfl) (by kernel_rfl) (by kernel_rfl) (fun _ _ _ h => h) (Or.inl ⟨by rfl, ?hyeb0⟩) (by assumption) ?resteb0
        case hyeb0 => (intro w hSw; (try dsimp only at hSw); go_simp) <;> with_reducible rfl
        simp only [Act.put, List.getElem_toArray, List.getElem_cons_succ, List.getElem_cons_zero, List.setIfInBounds_toArray, List.set_cons_succ, List.set_cons_zero]
        refine wpAnyH_take (i := 1) (v := ?veb1) rfl (by kernel_rfl) (by kernel_rfl) (by kernel_rfl) (fun _ _ _ h => h) (Or.inl ⟨by rfl, ?hyeb1⟩) (by assumption) ?resteb1
        case hyeb1 => (intro w hSw; (try dsimp only at hSw); go_simp) <;> with_reducible rfl
        simp only [Act.put, List.getElem_toArray, List.getElem_cons_succ, List.getElem_cons_zero, List.setIfInBounds_toArray, List.set_cons_succ, List.set_cons_zero]
        refine wpAnyH_take (i := 2) (v := ?veb2) rfl (by kernel_rfl) (by kernel_rfl) (by kernel_rfl) (fun _ _ _ h => h) (Or.inl ⟨by rfl, ?hyeb2⟩) (by assumption) ?resteb2
        case hyeb2 => (intro w hSw; (try dsimp only at hSw); go_simp) <;> with_reducible rfl
        simp only [Act.put, List.getElem_toArray, List.getElem_cons_succ, List.getElem_cons_zero, List.setIfInBounds_toArray, List.set_cons_succ, List.set_cons_zero]
        refine wpAnyH_take (i := 3) (v := ?veb3) rfl (by kernel_rfl) (by kernel_rfl) (by kernel_rfl) (fun _ _ _ h => h) (Or.inl ⟨by rfl, ?hyeb3⟩) (by assumption) ?resteb3
        case hyeb3 => (intro w hSw; (try dsimp only at hSw); go_simp) <;> with_reducible rfl
        simp only [Act.put, List.getElem_toArray, List.getElem_cons_succ, List.getElem_cons_zero, List.setIfInBounds_toArray, List.set_cons_succ, List.set_cons_zero]
        refine wpAnyH_take (i := 4) (v := ?veb4) rfl (by kernel_rfl) (by kernel_rfl) (by kernel_rfl) (fun _ _ _ h => h) (Or.inl ⟨by rfl, ?hyeb4⟩) (by assumption) ?resteb4
        case hyeb4 => (intro w hSw; (try dsimp only at hSw); go_simp) <;> with_reducible rfl
        simp only [Act.put, List.getElem_toArray, List.getElem_cons_succ, List.getElem_cons_zero, List.setIfInBounds_toArray, List.set_cons_succ, List.set_cons_zero]
        refine wpAnyH_take (i := 5) (v := ?veb5) rfl (by kernel_rfl) (by kernel_rfl) (by kernel_rfl) (fun _ _ _ h => h) (Or.inl ⟨by rfl, ?hyeb5⟩) (by assumption) ?resteb5
        case hyeb5 => (intro w hSw; (try dsimp only at hSw); go_simp) <;> with_reducible rfl
        simp only [Act.put, List.getElem_toArray, List.getElem_cons_succ, List.getElem_cons_zero, List.setIfInBounds_toArray, List.set_cons_succ, List.set_cons_zero]
        refine wpAnyH_done (by kernel_rfl) ?_ _
        simp only [headPost, List.drop_succ_cons, List.drop_zero]
        go_wp2_with fail
        have HX := Lib.hid ((HR3.out.put6 hi2 ⟨0, 0, 0, 0, 0, false⟩).drew)
        have HXF := Lib.hid ((((((((HF3.out).qf (i * 6) (.int .i64 0)).qf (i * 6 + 1) (.int .i64 0)).qf (i * 6 + 2) (.int .i64 0)).qf (i * 6 + 3) (.int .i64 0)).qf (i * 6 + 4) (.int .i64 0)).qf (i * 6 + 5) (.bool false)).drew)
        refine bodyPost_ret (v := .tuple #[.int .i64 1, .int .i64 qX, .int .i64 0]) (by simp [results, Try.results20, go_sem]) rfl ⟨rfl, ?_, HXF.out⟩
        exact HX.out
      · have e4 : (g1 == 1) = false := by simpa using e3
        have HE := Lib.hid (And.intro e0 e3)
        clear e0 e3
        go_upto_region 56 with fail
        obtain ⟨W3, hW3⟩ : ∃ W3, ((((((wc.setCell ⟨A, 1, none⟩ (.int .i64 g2)).setCell ⟨A, 0, none⟩ (.int .i64 0)).setCell ⟨A, 1, none⟩ (.int .i64 0)).setCell ⟨A, 2, none⟩ (.int .i64 0)).setCell ⟨A, 3, none⟩ (.int .i64 0)).setCell ⟨A, 4, none⟩ (.int .i64 0)).setCell ⟨A, 5, none⟩ (.bool false) = W3 := ⟨_, rfl⟩
        have HC3 := Lib.hid (show Cp W3 A Pt.none by rw [← hW3]; exact (HC.out.setS g2).none)
        have HR3 := Lib.hid (show IsRf W3 rb sb qb rn cs cq r2 by rw [← hW3]; exact (((((((HR.out.at HA3.out _ _).at HA3.out _ _).at HA3.out _ _).at HA3.out _ _).at HA3.out _ _).at HA3.out _ _).at HA3.out _ _))
        have HF3 := Lib.hid (show Frm (Rfb rb sb qb) w W3 by rw [← hW3]; exact (((((((HF.out.af HAl.out _ _).af HAl.out _ _).af HAl.out _ _).af HAl.out _ _).af HAl.out _ _).af HAl.out _ _).af HAl.out _ _))
        rw [hW3]
        clear hW3 a0 a1 a2 a3 a4 a5
        have c4 := HR3.out.c4
        obtain ⟨p0, p1, p2, p3, p4, p5⟩ := HR3.out.party hi2
        have fq := HR3.out.parts.frozen
        obtain ⟨b0, b1, b2, b3, b4, b5⟩ := HC3.out.cells
        refine wp_region_cut_held (fun w' => w'.cell? ⟨rb, 4, none⟩ = some (Value.slice (some ⟨qb, 0, none⟩) r2.n cq) ∧ w'.cell? ⟨A, 0, none⟩ = some (.int .i64 0) ∧ w'.cell? ⟨A, 1, none⟩ = some (.int .i64 0) ∧ w'.cell? ⟨A, 2, none⟩ = some (.int .i64 0) ∧ w'.cell? ⟨A, 3, none⟩ = some (.int .i64 0) ∧ w'.cell? ⟨A, 4, none⟩ = some (.int .i64 0) ∧ w'.cell? ⟨A, 5, none⟩ = some (.bool false)) 6 (by kernel_rfl) (by kernel_rfl) ⟨c4, b0, b1, b2, b3, b4, b5⟩ (fun hHeld => ?_)
        simp only [List.take_succ_cons, List.take_zero]
        refine wpAnyH_take (i := 0) (v := ?vec0) rfl (by kernel_rfl) (by kernel_rfl) (by kernel_rfl) (fun _ _ _ h => h) (Or.inl ⟨by rfl, ?hyec0⟩) (by assumption) ?restec0
        case hyec0 => (intro w hSw; (try dsimp only at hSw); go_simp) <;> with_reducible rfl
        simp only [Act.put, List.getElem_toArray, List.getElem_cons_succ, List.getElem_cons_zero, List.setIfInBounds_toArray, List.set_cons_succ, List.set_cons_zero]
        refine wpAnyH_take (i := 1) (v := ?vec1) rfl (by kernel_rfl) (by kernel_rfl) (by kernel_rfl) (fun _ _ _ h => h) (Or.inl ⟨by rfl, ?hyec1⟩) (by assumption) ?restec1
        case hyec1 => (intro w hSw; (try dsimp only at hSw); go_simp) <;> with_reducible rfl
        simp only [Act.put, List.getElem_toArray, List.getElem_cons_succ, List.getElem_cons_zero, List.setIfInBounds_toArray, List.set_cons_succ, List.set_cons_zero]
        refine wpAnyH_take (i := 2) (v := ?vec2) rfl (by kernel_rfl) (by kernel_rfl) (by kernel_rfl) (fun _ _ _ h => h) (Or.inl ⟨by rfl, ?hyec2⟩) (by assumption) ?restec2
        case hyec2 => (intro w hSw; (try dsimp only at hSw); go_simp) <;> with_reducible rfl
        simp only [Act.put, List.getElem_toArray, List.getElem_cons_succ, List.getElem_cons_zero, List.setIfInBounds_toArray, List.set_cons_succ, List.set_cons_zero]
        refine wpAnyH_take (i := 3) (v := ?vec3) rfl (by kernel_rfl) (by kernel_rfl) (by kernel_rfl) (fun _ _ _ h => h) (Or.inl ⟨by rfl, ?hyec3⟩) (by assumption) ?restec3
        case hyec3 => (intro w hSw; (try dsimp only at hSw); go_simp) <;> with_reducible rfl
        simp only [Act.put, List.getElem_toArray, List.getElem_cons_succ, List.getElem_cons_zero, List.setIfInBounds_toArray, List.set_cons_succ, List.set_cons_zero]
        refine wpAnyH_take (i := 4) (v := ?vec4) rfl (by kernel_rfl) (by kernel_rfl) (by kernel_rfl) (fun _ _ _ h => h) (Or.inl ⟨by rfl, ?hyec4⟩) (by assumption) ?restec4
        case hyec4 => (intro w hSw; (try dsimp only at hSw); go_simp) <;> with_reducible rfl
        simp only [Act.put, List.getElem_toArray, List.getElem_cons_succ, List.getElem_cons_zero, List.setIfInBounds_toArray, List.set_cons_succ, List.set_cons_zero]
        refine wpAnyH_take (i := 5) (v := ?vec5) rfl (by kernel_rfl) (by kernel_rfl) (by kernel_rfl) (fun _ _ _ h => h) (Or.inl ⟨by rfl, ?hyec5⟩) (by assumption) ?restec5
        case hyec5 => (intro w hSw; (try dsimp only at hSw); go_simp) <;> with_reducible rfl
        simp only [Act.put, List.getElem_toArray, List.getElem_cons_succ, List.getElem_cons_zero, List.setIfInBounds_toArray, List.set_cons_succ, List.set_cons_zero]
        refine wpAnyH_done (by kernel_rfl) ?_ _
        simp only [headPost, List.drop_succ_cons, List.drop_zero]
        go_wp2_with fail
        all_goals first | (exfalso; have := HE.out; omega) | skip
        have HX := Lib.hid ((HR3.out.put6 hi2 ⟨0, 0, 0, 0, 0, false⟩).drew)
        have HXF := Lib.hid ((((((((HF3.out).qf (i * 6) (.int .i64 0)).qf (i * 6 + 1) (.int .i64 0)).qf (i * 6 + 2) (.int .i64 0)).qf (i * 6 + 3) (.int .i64 0)).qf (i * 6 + 4) (.int .i64 0)).qf (i * 6 + 5) (.bool false)).drew)
        refine bodyPost_ret (v := .tuple #[.int .i64 g1, .int .i64 0, .int .i64 0]) (by simp [results, Try.results20, go_sem]) rfl ⟨rfl, ?_, HXF.out⟩
        rw [show rend (g1, g2, ⟨qc, qs, qB, qT, qX, qW⟩, r2) i = r2.setP i Pt.none from (by unfold rend; rw [if_pos HE.out.1])]
        exact HX.out
end Go.Proofs.Ytnjondphbfniaaa
