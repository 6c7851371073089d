/- Burst (package bubble). No condition. -/
import Derived.Test.YtmbdhpibkhgkcaaO
namespace Go.Proofs.Ytmbdhpibkhgkcaa
open Go.RowKit

/-- A slice whose m elements of sz cells are news; no place is asked of an empty one. -/
def SrcN (w : World) (v : Value) (m sz : Nat) (news : List Value) : Prop :=
  ∃ A c, v = .slice A m c ∧ news.length = m * sz ∧ ((A = none ∧ m = 0) ∨ ∃ ad : Addr, A = some ad ∧ ∀ j u, news[j]? = some u → w.cell? (ad.add j) = some u)

theorem SrcN.own {w : World} {base t sz n : Nat} {v : Value} {xs : List Value} (h : w.ownsRow base t sz v n xs) : SrcN w v n sz xs := by
  rcases h.2 with ⟨rfl, rfl⟩ | ⟨g, cap, cur, rfl, _⟩
  · exact ⟨none, 0, rfl, by simpa using h.1, .inl ⟨rfl, rfl⟩⟩
  · exact ⟨_, cap, rfl, by simpa using h.1, .inr ⟨_, rfl, h.cells (g := g) rfl⟩⟩

theorem SrcN.below {w w' : World} {v : Value} {m sz : Nat} {news : List Value} (h : SrcN w v m sz news) (hb : Below w.heap.size w w') : SrcN w' v m sz news := by
  obtain ⟨A, c, h1, h2, h3⟩ := h
  refine ⟨A, c, h1, h2, ?_⟩
  rcases h3 with h3 | ⟨ad, h3, h4⟩
  · exact .inl h3
  · refine .inr ⟨ad, h3, fun j u hu => ?_⟩
    have h5 := h4 j u hu
    exact (hb.cell (World.block_lt_of_cell? _ _ h5)).trans h5

/-- append of what a slice has, behind a row of the call's own: what it answers with. -/
theorem run_append_srcN {P : Program} {w : World} (base t ty e : Nat) (i : TypeInfo) (z : Value) (sz bytes : Nat) (ht : P.underlying t = some (.slice e)) (hi : P.info? e = some i) (hz : i.zero = some z)
    (hsize : i.size = sz) (hby : i.bytes = bytes) (hzs : z.cells.size = sz) (hs0 : 0 < sz) {v : Value} {n : Nat} {xs : List Value} (hown : w.ownsRow base e sz v n xs) {u : Value} {m : Nat} {news : List Value} (hs : SrcN w u m sz news)
    (h1 : ∀ x ∈ news, x.oneCell' = true) (h63 : n + m ≤ maxLen) (hbytes : (n + m) * bytes ≤ 140737488355328) (hbase : base ≤ w.heap.size) :
    ∃ v' w', (Builtin.append_ #[t, t] ty #[v, u]).run P w = .ok v' w' ∧ w'.ownsRow base e sz v' (n + m) (xs ++ news) ∧ w.grownBy w' v.ownBlock ∧ (v'.ownBlock = v.ownBlock ∨ v'.ownBlock = some w.heap.size) := by
  obtain ⟨A, c, rfl, hl, hA⟩ := hs
  rcases hA with ⟨rfl, rfl⟩ | ⟨ad, rfl, hc⟩
  · obtain rfl : news = [] := List.eq_nil_of_length_eq_zero (by rw [hl]; omega)
    refine ⟨v, w, ?_, by simpa using hown, World.grownBy.refl w _, .inl rfl⟩
    rcases hown.2 with ⟨rfl, rfl⟩ | ⟨g, cap, cur, rfl, _, _, hnc, _⟩
    · simp [Builtin.append_, run_underlying ht, sizeOf, typeInfo, hi, Builtin.lenOf, Builtin.firstCells]
    · simp [Builtin.append_, run_underlying ht, sizeOf, typeInfo, hi, Builtin.lenOf, Builtin.firstCells, hnc, storeCells]
  · obtain ⟨v', w', hr, h2, h3, -, h4⟩ := run_append_own_at (P := P) w base t ty e i z sz bytes ht hi hz hsize hby hzs hs0 v n xs hown ad m c news (by omega) hc h1 h63 hbytes hbase
    exact ⟨v', w', hr, h2, h3, h4⟩

/-- The same, as one step of a drawn region. -/
theorem step_append_srcN {P : Program} {ops : Array Oper} {o : Oper} {a : Act} {w : World} {K : Act → World → Prop} {Q : Exit → Act → World → Prop} {E : Prop}
    (hgd : o.guard = none) (s x : Operand) (t : Nat) (ho : o.op = .call { callee := .builtin .append, args := #[s, x], argTypes := #[t, t] })
    (base e : Nat) (i : TypeInfo) (z : Value) (sz bytes : Nat) (ht : P.underlying t = some (.slice e)) (hi : P.info? e = some i) (hz : i.zero = some z)
    (hsize : i.size = sz) (hby : i.bytes = bytes) (hzs : z.cells.size = sz) (hs0 : 0 < sz) {v : Value} {n : Nat} {xs : List Value} (hv : a.eval s = v) (hown : w.ownsRow base e sz v n xs) {u : Value} {m : Nat} {news : List Value} (hu : a.eval x = u) (hs : SrcN w u m sz news)
    (h1 : ∀ x ∈ news, x.oneCell' = true) (h63 : n + m ≤ maxLen) (hbytes : (n + m) * bytes ≤ 140737488355328) (hbase : base ≤ w.heap.size)
    (h : ∀ v' w', w'.ownsRow base e sz v' (n + m) (xs ++ news) → w.grownBy w' v.ownBlock → (v'.ownBlock = v.ownBlock ∨ v'.ownBlock = some w.heap.size) → K (a.put o.dst v') w') :
    if Region.wanted o (yielded ops a.tmps) = true then Oper.wp P o a w K Q else E := by
  have hw : Region.wanted o (yielded ops a.tmps) = true := by simp [Region.wanted, hgd]
  rw [if_pos hw]
  obtain ⟨v', w', hr, h2, h3, h4⟩ := run_append_srcN (P := P) base t o.type e i z sz bytes ht hi hz hsize hby hzs hs0 hown hs h1 h63 hbytes hbase
  unfold Oper.wp
  simp [execOp, ho, resolve, invoke, builtin, hv, hu, hr, Result.andThen]
  exact h v' w' h2 h3 h4


theorem own_low {w : World} {base base' t sz n : Nat} {v : Value} {xs : List Value} (h : w.ownsRow base t sz v n xs) (hb : base' ≤ base) : w.ownsRow base' t sz v n xs := by
  refine ⟨h.1, ?_⟩
  rcases h.2 with hn | ⟨g, cap, cur, rfl, hg, rest⟩
  · exact .inl hn
  · exact .inr ⟨g, cap, cur, rfl, Nat.le_trans hb hg, rest⟩
theorem Frm.grown {S : Nat → Prop} {a w w' : World} {row : Option Nat} (h : Frm S a w) (hg : w.grownBy w' row) (hr : ∀ k, row = some k → a.heap.size ≤ k) : Frm S a w' :=
  ⟨hg.os.trans h.os, hg.tape.trans h.tape, hg.output.trans h.output, Nat.le_trans h.size hg.size, fun k hk hs => (hg.block k (Nat.lt_of_lt_of_le hk h.size) (fun e => by have := hr k e.symm; omega)).trans (h.block k hk hs)⟩
theorem intsL_one (l : List Nat) : ∀ x ∈ intsL l, x.oneCell' = true := by
  intro x hx
  simp only [intsL, List.mem_map] at hx
  obtain ⟨o, _, rfl⟩ := hx
  rfl

/-- What Burst answers: the error, those that are turned, and the bubbles then. -/
def burstD (n : Nat) (bs : Nat → Bk) (b : Int) : Int × List Nat × (Nat → Bk) :=
  if isB n b = true then
    (if bs b.toNat 17 = 3 then
      (0, b.toNat :: ownL (ownB (updT bs b.toNat (setO (bs b.toNat) 17 4)) b) n, bsK (ownB (updT bs b.toNat (setO (bs b.toNat) 17 4)) b) (trB (bs b.toNat 18)) (updT bs b.toNat (setO (bs b.toNat) 17 4)) n)
    else (5, [], bs))
  else (3, [], bs)

def BurstTo (w : World) (base fb : Nat) (lv : Value) (n : Nat) (q : Int × List Nat × (Nat → Bk)) (r : Ending) (w' : World) : Prop :=
  ∃ v, r = .returned (.tuple #[v, .int .i64 q.1]) ∧ w'.ownsRow w.heap.size 3 1 v q.2.1.length (intsL q.2.1) ∧ IsFo w' base fb lv n q.2.2 ∧ Frm (FoS fb lv) w w'

section
variable {w : World} {base fb n : Nat} {lv : Value} {bs : Nat → Bk}

set_option maxRecDepth 100000 in
set_option maxHeartbeats 4000000 in
theorem FBurst_any (h : IsFo w base fb lv n bs) (b : Int) : Calls Try.prog 10 #[.pointer (some ⟨fb, 0, none⟩), .int .i64 b] w (BurstTo w base fb lv n (burstD n bs b)) := by
  have hmost := h.most
  have hmf : ∀ (fn : Fn) (first cap : Array Value) (w : World), (Instr.makeFunc fn first cap).run Try.prog w = .ok (.func fn first cap) w := fun _ _ _ _ => rfl
  obtain ⟨A, hA⟩ : ∃ A, w.heap.size = A := ⟨_, rfl⟩
  have hfb : fb < A := by rw [← hA]; exact h.top.lt
  have HLV := Lib.hid (show ∀ g, lv.ownBlock = some g → base ≤ g ∧ g < A from fun g hg => by rw [← hA]; exact h.own.lt g hg)
  obtain ⟨W1, hW1⟩ : ∃ W1, (w.alloc (.cells #[.pointer (some ⟨fb, 0, none⟩)] 22)).alloc (.cells #[.int .i64 b] 3) = W1 := ⟨_, rfl⟩
  have HT1 := Lib.hid (show IsFo W1 base fb lv n bs by rw [← hW1]; exact (h.alloc _).alloc _)
  have HF1 := Lib.hid (show Frm (FoS fb lv) w W1 by rw [← hW1]; exact ((Frm.refl _ _).alloc _).alloc _)
  have hs1 : W1.heap.size = A + 2 := by rw [← hW1, ← hA]; simp
  have HCF := Lib.hid (show W1.heap[A]? = some (.cells #[.pointer (some ⟨fb, 0, none⟩)] 22 (0, 0)) by
    rw [← hW1, ← hA, heap_alloc_old _ _ (by simp)]
    exact heap_alloc_new _ _)
  have HCB := Lib.hid (show W1.heap[A + 1]? = some (.cells #[.int .i64 b] 3 (0, 0)) by
    rw [← hW1, ← hA]
    have := heap_alloc_new (w.alloc (.cells #[.pointer (some ⟨fb, 0, none⟩)] 22)) (.cells #[.int .i64 b] 3)
    rw [World.size_alloc] at this
    exact this)
  have HK := Lib.hid (fun (w' : World) (hF : Frm (FoS fb lv) W1 w') => show w'.cell? ⟨A, 0, none⟩ = some (.pointer (some ⟨fb, 0, none⟩)) ∧ w'.cell? ⟨A + 1, 0, none⟩ = some (.int .i64 b) from by
    have h1 : ∀ k, A ≤ k → ¬ FoS fb lv k := fun k hk hs => by
      rcases hs with e | e
      · omega
      · have := HLV.out k e.symm; omega
    exact ⟨cell_of ((hF.block A (by omega) (h1 A (Nat.le_refl _))).trans HCF.out) rfl, cell_of ((hF.block (A + 1) (by omega) (h1 (A + 1) (by omega))).trans HCB.out) rfl⟩)
  have HAA := Lib.hid (show w.heap.size ≤ A ∧ A + 2 ≤ W1.heap.size by omega)
  clear hs1
  obtain ⟨kF, kB⟩ := HK.out W1 (Frm.refl _ _)
  unfold burstD
  have HASK := Lib.hid (FAsk_any (HT1.out.alloc (.cells #[.int .i64 3] 3)) b (sl1 W1 3) (by simp))
  unfold askD at HASK
  cases hb : isB n b with
  | false =>
    rw [hb] at HASK
    rw [if_neg (by simp)]
    obtain ⟨la, lcap, hlv, hg⟩ := h.lvForm
    have hat : atV lv none = .pointer none := by rw [hlv]; cases la <;> rfl
    simp [hat] at HASK
    have HE := Lib.hid (HT1.out.alloc (.cells #[.int .i64 3] 3))
    have HEF := Lib.hid (HF1.out.alloc (.cells #[.int .i64 3] 3))
    clear h hb hat hg HT1 HF1 HCF HCB HK
    go_enter Try.func10, Try.ntmps10
    go_upto_region 1 with fail
    clear hA hW1
    go_wp2_with fail
    refine HASK.out.mono ?_
    rintro r w' ⟨rfl, rfl⟩
    go_wp2_with fail
    go_ret2
    exact ⟨_, rfl, World.ownsRow_nil _ _ _ _, HE.out, HEF.out⟩
  | true =>
    rw [hb] at HASK
    simp only [if_true, ite_true] at HASK
    obtain ⟨b0, b1⟩ := isB_iff.1 hb
    obtain ⟨b, rfl⟩ := Int.eq_ofNat_of_zero_le b0
    have hc : b < n := by omega
    obtain ⟨la, lcap, rfl, hg⟩ := h.lvForm
    obtain ⟨g, rfl, hgb⟩ := hg (by omega)
    rw [if_pos rfl, Int.toNat_natCast]
    rw [Int.toNat_natCast] at HASK
    by_cases e : bs b 17 = 3
    · rw [if_pos e]
      simp [e, atV] at HASK
      have HT2 := Lib.hid (HT1.out.alloc (.cells #[.int .i64 3] 3))
      have HF2 := Lib.hid (HF1.out.alloc (.cells #[.int .i64 3] 3))
      have HG2 := Lib.hid (show Frm (FoS fb (.slice (some ⟨g, 0, none⟩) n lcap)) W1 (W1.alloc (.cells #[.int .i64 3] 3)) from (Frm.refl _ _).alloc _)
      obtain ⟨bs1, hbs1⟩ : ∃ bs1, updT bs b (setO (bs b) 17 4) = bs1 := ⟨_, rfl⟩
      obtain ⟨home, hhome⟩ : ∃ home, bs b 18 = home := ⟨_, rfl⟩
      rw [hbs1, hhome]
      have HBS := Lib.hid hbs1
      have HHO := Lib.hid hhome
      have hll := ownL_len (ownB bs1 b) n
      obtain ⟨l, hl⟩ : ∃ l, ownL (ownB bs1 b) n = l := ⟨_, rfl⟩
      obtain ⟨bs2, hbs2⟩ : ∃ bs2, bsK (ownB bs1 b) (trB home) bs1 n = bs2 := ⟨_, rfl⟩
      rw [hl] at hll
      rw [hl, hbs2]
      have HLL := Lib.hid hl
      have HB2 := Lib.hid hbs2
      clear h hb hg e HT1 HF1 HCF HCB hbs1 hhome hl hbs2
      go_enter Try.func10, Try.ntmps10
      go_upto_region 1 with fail
      clear hA hW1
      go_wp2_with fail
      refine HASK.out.mono ?_
      rintro r w' ⟨rfl, rfl⟩
      obtain ⟨W2, hW2⟩ : ∃ W2, W1.alloc (.cells #[.int .i64 3] 3) = W2 := ⟨_, rfl⟩
      rw [hW2] at HT2 HF2 HG2
      rw [hW2]
      clear hW2 HASK kF kB
      have f1 := HT2.out.fz (b * 19 + 17)
      have d1 := HT2.out.cell hc (o := 17) (by omega)
      have d2 := HT2.out.cell hc (o := 18) (by omega)
      rw [show buKind 17 = .i64 from rfl] at d1
      rw [show buKind 18 = .i64 from rfl] at d2
      have hW := HT2.out.wcell hc (o := 17) (by omega) (by omega) (k := IntKind.i64) rfl 4
      rw [HBS.out] at hW
      rw [HHO.out] at d2
      have HT3 := Lib.hid hW.1
      have HF3 := Lib.hid (HF2.out.trans hW.2)
      have HG3 := Lib.hid (HG2.out.trans hW.2)
      clear hW HT2 HF2 HG2
      go_upto_region 5 with fail
      obtain ⟨W3, hW3⟩ : ∃ W3, W2.setCell ⟨g, b * 19 + 17, none⟩ (.int .i64 4) = W3 := ⟨_, rfl⟩
      have d3 : W3.cell? ⟨g, b * 19 + 18, none⟩ = some (.int .i64 home) := by
        rw [← hW3]
        have hne : (⟨g, b * 19 + 17, none⟩ : Addr) ≠ ⟨g, b * 19 + 18, none⟩ := fun e => by
          have := congrArg Addr.off e
          simp only at this
          omega
        rw [World.cell?_setCell_other]
        · exact d2
        · exact hne
      rw [hW3] at HT3 HF3 HG3
      rw [hW3]
      clear hW3 f1 d1 d2
      have HT4 := Lib.hid (HT3.out.alloc (.cells #[.int .i64 home] 3))
      have HF4 := Lib.hid (HF3.out.alloc (.cells #[.int .i64 home] 3))
      have HG4 := Lib.hid (HG3.out.alloc (.cells #[.int .i64 home] 3))
      have HN4 := Lib.hid (heap_alloc_new W3 (.cells #[.int .i64 home] 3))
      go_upto_region 7 with fail
      obtain ⟨W4, hW4⟩ : ∃ W4, W3.alloc (.cells #[.int .i64 home] 3) = W4 := ⟨_, rfl⟩
      obtain ⟨Hm, hHm⟩ : ∃ Hm, W3.heap.size = Hm := ⟨_, rfl⟩
      have hHA : A + 2 ≤ Hm := by have := HG3.out.size; have := HAA.out; omega
      rw [hW4] at HT4 HF4 HG4 HN4
      rw [hHm] at HN4
      rw [hW4, hHm]
      clear hW4 hHm HT3 HF3 HG3 d3
      have hHl : Hm < W4.heap.size := (Array.getElem?_eq_some_iff.1 HN4.out).1
      have HTURN := Lib.hid (fun (w' : World) (hT : IsFo w' base fb (.slice (some ⟨g, 0, none⟩) n lcap) n bs1) (hF : Frm (FoS fb (.slice (some ⟨g, 0, none⟩) n lcap)) W4 w') =>
        TurnB_any hT (ownB bs1 b) (trB home) A (A + 1) Hm (fun wr k hk hfr hft => by
          have hkk := HK.out wr (HG4.out.trans (hF.trans hfr))
          have := Own_any hft hkk.1 hkk.2 (i := k) hk
          rw [show ownB (bsK (ownB bs1 b) (trB home) bs1 k) b k = ownB bs1 b k by unfold ownB; rw [bsK_at]] at this
          exact this) (fun wr g' cap' k hk hlv hfr hft => by
          injection hlv with e1 e2 e3
          injection e1 with e1
          injection e1 with e1 e4 e5
          subst e1 e3
          have hh : wr.cell? ⟨Hm, 0, none⟩ = some (.int .i64 home) := cell_of (((hF.trans hfr).block Hm hHl (fun hs => by
            rcases hs with e | e
            · omega
            · have := HLV.out Hm e.symm; omega)).trans HN4.out) rfl
          exact OwnDo_any hft hh hk))
      have KS := Lib.hid (fun (w' : World) (hF : Frm (FoS fb (.slice (some ⟨g, 0, none⟩) n lcap)) W4 w') => HK.out w' (HG4.out.trans hF))
      have HLT := Lib.hid (show ∀ k, A ≤ k → ¬ FoS fb (.slice (some ⟨g, 0, none⟩) n lcap) k from fun k hk hs => by
        rcases hs with e | e
        · omega
        · have := HLV.out k e.symm; omega)
      have HSZ := Lib.hid (show A ≤ W4.heap.size ∧ w.heap.size ≤ W4.heap.size by have := HF4.out.size; have := HAA.out; omega)
      rw [HLL.out, HB2.out] at HTURN
      obtain ⟨i3, I3, Z3, S3, B3⟩ := info_parts Try.info3i
      have I3 := Lib.hid I3
      have Z3 := Lib.hid Z3
      have S3 := Lib.hid S3
      have B3 := Lib.hid B3
      refine wp_region_held_drew (S := fun w' => w'.cell? ⟨A, 0, none⟩ = some (.pointer (some ⟨fb, 0, none⟩)) ∧ w'.cell? ⟨A + 1, 0, none⟩ = some (.int .i64 b)) (by kernel_rfl) (KS.out _ (Frm.refl _ _).drew) (fun hHeld => ?_)
      refine wpAnyH_take (i := 0) (v := ?va0) rfl (by kernel_rfl) (by kernel_rfl) (by kernel_rfl) (fun _ _ _ h => h) (Or.inl ⟨by rfl, ?hya0⟩) (by assumption) ?resta0
      case hya0 => (intro w hSw; (try dsimp only at hSw); go_simp) <;> with_reducible rfl
      simp only [Act.put, List.getElem_toArray, List.getElem_cons_succ, List.getElem_cons_zero, List.setIfInBounds_toArray, List.set_cons_succ, List.set_cons_zero]
      refine wpAnyH_take (i := 2) (v := ?va2) rfl (by kernel_rfl) (by kernel_rfl) (by kernel_rfl) (fun _ _ _ h => h) (Or.inl ⟨by rfl, ?hya2⟩) (by assumption) ?resta2
      case hya2 => (intro w hSw; (try dsimp only at hSw); go_simp) <;> with_reducible rfl
      simp only [Act.put, List.getElem_toArray, List.getElem_cons_succ, List.getElem_cons_zero, List.setIfInBounds_toArray, List.set_cons_succ, List.set_cons_zero]
      refine wpAnyH_take (i := 3) (v := ?va3) rfl (by kernel_rfl) (by kernel_rfl) (by kernel_rfl) (fun _ _ _ h => h) (Or.inl ⟨by rfl, ?hya3⟩) (by assumption) ?resta3
      case hya3 => (intro w hSw; (try dsimp only at hSw); go_simp) <;> with_reducible rfl
      simp only [Act.put, List.getElem_toArray, List.getElem_cons_succ, List.getElem_cons_zero, List.setIfInBounds_toArray, List.set_cons_succ, List.set_cons_zero]
      refine wpAnyH_take (i := 4) (v := ?va4) rfl (by kernel_rfl) (by kernel_rfl) (by kernel_rfl) (fun _ _ _ h => h) (Or.inl ⟨by rfl, ?hya4⟩) (by assumption) ?resta4
      case hya4 => (intro w hSw; (try dsimp only at hSw); go_simp) <;> with_reducible rfl
      simp only [Act.put, List.getElem_toArray, List.getElem_cons_succ, List.getElem_cons_zero, List.setIfInBounds_toArray, List.set_cons_succ, List.set_cons_zero]
      refine wpAnyH_ready (rs := [1, 5]) (by kernel_rfl) (by simp) ?_
      refine AllReadyH.cons rfl (fun K hK => ?_) ?_
      · go_simp
        obtain ⟨W5, hW5⟩ : ∃ W5, (W4.alloc (.cells #[.int .i64 b] 3)).drew = W5 := ⟨_, rfl⟩
        have HG5 := Lib.hid (show Frm (FoS fb (.slice (some ⟨g, 0, none⟩) n lcap)) W4 W5 by rw [← hW5]; exact ((Frm.refl _ _).alloc _).drew)
        have HT5 := Lib.hid (show IsFo W5 base fb (.slice (some ⟨g, 0, none⟩) n lcap) n bs1 by rw [← hW5]; exact (HT4.out.alloc _).drewN 1)
        have HO5 := Lib.hid (show W5.ownsRow W4.heap.size 3 1 (.slice (some ⟨W4.heap.size, 0, none⟩) 1 1) 1 (intsL [b]) by rw [← hW5]; exact World.ownsRow_lit W4.drew #[.int .i64 b] 1 (Nat.le_refl _) (by decide) rfl)
        rw [hW5]
        clear hW5
        refine hK.out _ _ (KS.out _ HG5.out) (fun hHeld => ?_)
        clear hK K
        try simp only [Act.put, List.getElem_toArray, List.getElem_cons_succ, List.getElem_cons_zero, List.setIfInBounds_toArray, List.set_cons_succ, List.set_cons_zero]
        refine wpAnyH_ready (rs := [5]) (by kernel_rfl) (by simp) ?_
        refine AllReadyH.cons rfl (fun K hK => ?_) AllReadyH.nil
        go_simp
        refine (HTURN.out W5 HT5.out HG5.out).mono ?_
        rintro e w6 ⟨v, rfl, ho6, hT6, hF6⟩
        have HG6 := Lib.hid (HG5.out.trans hF6)
        have HT6 := Lib.hid hT6
        have HS6 := Lib.hid (SrcN.own ho6)
        have HO6 := Lib.hid (show w6.ownsRow W4.heap.size 3 1 (.slice (some ⟨W4.heap.size, 0, none⟩) 1 1) 1 (intsL [b]) from own_of_heap HO5.out fun j hj => hF6.block j (HO5.out.lt j hj).2 (HLT.out j (by have := (HO5.out.lt j hj).1; have := HSZ.out; omega)))
        clear ho6 hT6 hF6
        refine hK.out _ _ (KS.out _ HG6.out) (fun hHeld => ?_)
        clear hK K
        try simp only [Act.put, List.getElem_toArray, List.getElem_cons_succ, List.getElem_cons_zero, List.setIfInBounds_toArray, List.set_cons_succ, List.set_cons_zero]
        refine wpAnyH_ready (rs := [6]) (by kernel_rfl) (by simp) ?_
        refine AllReadyH.cons rfl (fun K hK => ?_) AllReadyH.nil
        refine step_append_srcN (by rfl) _ _ 31 (by rfl) W4.heap.size 3 i3 _ 1 8 Try.underlying31 I3.out Z3.out S3.out B3.out rfl (by decide) (by rfl) HO6.out (by rfl) HS6.out (intsL_one l) (by simp only [maxLen]; omega) (by omega) HG6.out.size ?_
        intro v7 w7 hown7 hgrow7 hblk7
        have HO7 := Lib.hid (show w7.ownsRow w.heap.size 3 1 v7 (b :: l).length (intsL (b :: l)) by
          rw [List.length_cons, Nat.add_comm]
          exact own_low hown7 HSZ.out.2)
        have HG7 := Lib.hid (Frm.grown HG6.out hgrow7 (fun k hk => (HO6.out.lt k hk).1))
        have HT7 := Lib.hid (HT6.out.of_frm (S := fun j => some j = (Value.slice (some ⟨W4.heap.size, 0, none⟩) 1 1).ownBlock) ⟨hgrow7.os, hgrow7.tape, hgrow7.output, hgrow7.size, fun j hj hs => hgrow7.block j hj hs⟩ (fun hs => by have := (HO6.out.lt _ hs.symm).1; have := HSZ.out; omega) (fun g' hg' hs => by have := (HO6.out.lt g' hs.symm).1; have := HLV.out g' hg'; have := HSZ.out; omega))
        refine hK.out _ _ (KS.out _ HG7.out) (fun hHeld => ?_)
        clear hK K hown7 hgrow7 hblk7
        try simp only [Act.put, List.getElem_toArray, List.getElem_cons_succ, List.getElem_cons_zero, List.setIfInBounds_toArray, List.set_cons_succ, List.set_cons_zero]
        refine wpAnyH_take (i := 7) (v := ?vy7) rfl (by kernel_rfl) (by kernel_rfl) (by kernel_rfl) (fun _ _ _ h => h) (Or.inl ⟨by rfl, ?hyy7⟩) (by assumption) ?resty7
        case hyy7 => (intro w hSw; (try dsimp only at hSw); go_simp) <;> with_reducible rfl
        simp only [Act.put, List.getElem_toArray, List.getElem_cons_succ, List.getElem_cons_zero, List.setIfInBounds_toArray, List.set_cons_succ, List.set_cons_zero]
        refine wpAnyH_take (i := 8) (v := ?vy8) rfl (by kernel_rfl) (by kernel_rfl) (by kernel_rfl) (fun _ _ _ h => h) (Or.inl ⟨by rfl, ?hyy8⟩) (by assumption) ?resty8
        case hyy8 => (intro w hSw; (try dsimp only at hSw); go_simp) <;> with_reducible rfl
        simp only [Act.put, List.getElem_toArray, List.getElem_cons_succ, List.getElem_cons_zero, List.setIfInBounds_toArray, List.set_cons_succ, List.set_cons_zero]
        refine wpAnyH_done (by kernel_rfl) ?_ _
        go_wp2_with fail
        go_ret2
        exact ⟨v7, rfl, HO7.out, HT7.out, HF4.out.trans HG7.out⟩
      refine AllReadyH.cons rfl (fun K hK => ?_) AllReadyH.nil
      go_simp
      refine (HTURN.out W4.drew (HT4.out.drewN 1) ((Frm.refl _ _).drew)).mono ?_
      rintro e w5 ⟨v, rfl, ho5, hT5, hF5⟩
      have HG5 := Lib.hid (((Frm.refl (FoS fb (.slice (some ⟨g, 0, none⟩) n lcap)) W4).drew).trans hF5)
      have HT5 := Lib.hid hT5
      have HO5 := Lib.hid ho5
      clear ho5 hT5 hF5
      refine hK.out _ _ (KS.out _ HG5.out) (fun hHeld => ?_)
      clear hK K
      try simp only [Act.put, List.getElem_toArray, List.getElem_cons_succ, List.getElem_cons_zero, List.setIfInBounds_toArray, List.set_cons_succ, List.set_cons_zero]
      refine wpAnyH_ready (rs := [1]) (by kernel_rfl) (by simp) ?_
      refine AllReadyH.cons rfl (fun K hK => ?_) AllReadyH.nil
      go_simp
      obtain ⟨W6, hW6⟩ : ∃ W6, w5.alloc (.cells #[.int .i64 b] 3) = W6 := ⟨_, rfl⟩
      obtain ⟨X6, hX6⟩ : ∃ X6, w5.heap.size = X6 := ⟨_, rfl⟩
      have HG6 := Lib.hid (show Frm (FoS fb (.slice (some ⟨g, 0, none⟩) n lcap)) W4 W6 by rw [← hW6]; exact HG5.out.alloc _)
      have HT6 := Lib.hid (show IsFo W6 base fb (.slice (some ⟨g, 0, none⟩) n lcap) n bs2 by rw [← hW6]; exact HT5.out.alloc _)
      have HO6 := Lib.hid (show W6.ownsRow W4.heap.size 3 1 (.slice (some ⟨X6, 0, none⟩) 1 1) 1 (intsL [b]) by rw [← hW6, ← hX6]; exact World.ownsRow_lit w5 #[.int .i64 b] 1 HG5.out.size (by decide) rfl)
      have HS6 := Lib.hid (show SrcN W6 v l.length 1 (intsL l) by rw [← hW6]; exact SrcN.own (HO5.out.alloc _))
      rw [hW6, hX6]
      clear hW6 hX6
      refine hK.out _ _ (KS.out _ HG6.out) (fun hHeld => ?_)
      clear hK K
      try simp only [Act.put, List.getElem_toArray, List.getElem_cons_succ, List.getElem_cons_zero, List.setIfInBounds_toArray, List.set_cons_succ, List.set_cons_zero]
      refine wpAnyH_ready (rs := [6]) (by kernel_rfl) (by simp) ?_
      refine AllReadyH.cons rfl (fun K hK => ?_) AllReadyH.nil
      refine step_append_srcN (by rfl) _ _ 31 (by rfl) W4.heap.size 3 i3 _ 1 8 Try.underlying31 I3.out Z3.out S3.out B3.out rfl (by decide) (by rfl) HO6.out (by rfl) HS6.out (intsL_one l) (by simp only [maxLen]; omega) (by omega) HG6.out.size ?_
      intro v7 w7 hown7 hgrow7 hblk7
      have HO7 := Lib.hid (show w7.ownsRow w.heap.size 3 1 v7 (b :: l).length (intsL (b :: l)) by
        rw [List.length_cons, Nat.add_comm]
        exact own_low hown7 HSZ.out.2)
      have HG7 := Lib.hid (Frm.grown HG6.out hgrow7 (fun k hk => (HO6.out.lt k hk).1))
      have HT7 := Lib.hid (HT6.out.of_frm (S := fun j => some j = (Value.slice (some ⟨X6, 0, none⟩) 1 1).ownBlock) ⟨hgrow7.os, hgrow7.tape, hgrow7.output, hgrow7.size, fun j hj hs => hgrow7.block j hj hs⟩ (fun hs => by have := (HO6.out.lt _ hs.symm).1; have := HSZ.out; omega) (fun g' hg' hs => by have := (HO6.out.lt g' hs.symm).1; have := HLV.out g' hg'; have := HSZ.out; omega))
      refine hK.out _ _ (KS.out _ HG7.out) (fun hHeld => ?_)
      clear hK K hown7 hgrow7 hblk7
      try simp only [Act.put, List.getElem_toArray, List.getElem_cons_succ, List.getElem_cons_zero, List.setIfInBounds_toArray, List.set_cons_succ, List.set_cons_zero]
      refine wpAnyH_take (i := 7) (v := ?vz7) rfl (by kernel_rfl) (by kernel_rfl) (by kernel_rfl) (fun _ _ _ h => h) (Or.inl ⟨by rfl, ?hyz7⟩) (by assumption) ?restz7
      case hyz7 => (intro w hSw; (try dsimp only at hSw); go_simp) <;> with_reducible rfl
      simp only [Act.put, List.getElem_toArray, List.getElem_cons_succ, List.getElem_cons_zero, List.setIfInBounds_toArray, List.set_cons_succ, List.set_cons_zero]
      refine wpAnyH_take (i := 8) (v := ?vz8) rfl (by kernel_rfl) (by kernel_rfl) (by kernel_rfl) (fun _ _ _ h => h) (Or.inl ⟨by rfl, ?hyz8⟩) (by assumption) ?restz8
      case hyz8 => (intro w hSw; (try dsimp only at hSw); go_simp) <;> with_reducible rfl
      simp only [Act.put, List.getElem_toArray, List.getElem_cons_succ, List.getElem_cons_zero, List.setIfInBounds_toArray, List.set_cons_succ, List.set_cons_zero]
      refine wpAnyH_done (by kernel_rfl) ?_ _
      go_wp2_with fail
      go_ret2
      exact ⟨v7, rfl, HO7.out, HT7.out, HF4.out.trans HG7.out⟩
    · rw [if_neg e]
      simp [e, atV] at HASK
      have HE := Lib.hid (HT1.out.alloc (.cells #[.int .i64 3] 3))
      have HEF := Lib.hid (HF1.out.alloc (.cells #[.int .i64 3] 3))
      clear h hb hg e HT1 HF1 HCF HCB HK
      go_enter Try.func10, Try.ntmps10
      go_upto_region 1 with fail
      clear hA hW1
      go_wp2_with fail
      refine HASK.out.mono ?_
      rintro r w' ⟨rfl, rfl⟩
      go_wp2_with fail
      go_ret2
      exact ⟨_, rfl, World.ownsRow_nil _ _ _ _, HE.out, HEF.out⟩
end
end Go.Proofs.Ytmbdhpibkhgkcaa
