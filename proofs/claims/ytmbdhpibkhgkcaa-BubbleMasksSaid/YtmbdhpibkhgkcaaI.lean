/- Make (package bubble). No condition. -/
import Derived.Test.YtmbdhpibkhgkcaaH
namespace Go.Proofs.Ytmbdhpibkhgkcaa
open Go.RowKit

def newB (up : Int) (m : Ws) : Bk := fun o => if o = 0 then up else if o ≤ 16 then m (o - 1) else if o = 17 then 1 else 0
theorem built_new (up : Int) (m : Ws) : Try.prog.built 35 [(0, .int .i64 up), (1, wsV m), (2, .int .i64 1)] = some (buArr (newB up m)) := by kernel_rfl

theorem yieldsNew {a : Act} {o : Oper} {w : World} {up : Int} {m : Ws} (x y : Operand) (ho : o.op = .build 35 #[(0, x), (1, y), (2, .const (.int .i64 1))]) (hx : a.eval x = .int .i64 up) (hy : a.eval y = wsV m) :
    (execOp a.eval o).run Try.prog w = .ok (.value (.agg (buArr (newB up m)))) w := by
  unfold execOp
  have hr := run_build (P := Try.prog) w 35 #[(0, .int .i64 up), (1, wsV m), (2, .int .i64 1)] (buArr (newB up m)) (built_new up m)
  have hc : a.eval (.const (.int .i64 1)) = .int .i64 1 := rfl
  simp only [ho, List.map_toArray, List.map_cons, List.map_nil, hx, hy, hc, Sem.run_bind, hr, Sem.run_pure, Result.andThen_ok]

theorem yields29 {a : Act} {o : Oper} {w : World} {V : Array Value} (x : Operand) (ho : o.op = .load 29 x) (A : Nat) (hx : a.eval x = .pointer (some ⟨A, 0, none⟩)) (hg : w.heap[A]? = some (.cells V 29 (0, 0))) (h1 : (Try.prog.info? 29).map (·.size) = some V.size) :
    (execOp a.eval o).run Try.prog w = .ok (.value (.agg V)) w := by
  unfold execOp
  simp only [ho, hx, Instr.loadAt, Instr.sureAddr, Sem.run_bind, Sem.run_pure, Result.andThen_ok, run_loadVar_row w A 29 29 V (0, 0) _ hg Try.underlying29 rfl h1]

/-- The empty set. -/
theorem wpList_build29 {ops : Array Oper} {rest : List Oper} {o : Oper} {a : Act} {w : World} {Q : Exit → Act → World → Prop} {Z : Array Value} (hz : Z = wsArr ws0) (hg : o.guard = none) (ho : o.op = .build 29 #[])
    (h : wpList Try.prog ops Q rest (a.put o.dst (.agg Z)) w) : wpList Try.prog ops Q (o :: rest) a w := by
  have hb := built29
  refine wpList_build hg 29 #[] ho ?_ ?_
  · simp only [List.map_toArray, List.map_nil]
    exact hb.1
  · simp only [List.map_toArray, List.map_nil]
    rw [hb.2, ← hz]
    exact h

/-- What Make answers, how many there are then, and which. -/
def makeD (n : Nat) (bs : Nat → Bk) (up : Int) (m : Ws) : Int × Int × Nat × (Nat → Bk) :=
  if up ≠ -1 ∧ ¬ (0 ≤ up ∧ up < n) then (0, 1, n, bs) else if eqW m ws0 = true then (0, 6, n, bs) else if up ≠ -1 ∧ bs up.toNat 17 ≠ 1 then (0, 5, n, bs)
  else if 32 ≤ n then (0, 4, n, bs) else (n, 0, n + 1, updT bs n (newB up m))

/-- What a call may turn: the forest's block, and that of its bubbles. -/
def FoS (fb : Nat) (lv : Value) : Nat → Prop := fun k => k = fb ∨ some k = lv.ownBlock

def MadeTo (w : World) (base fb : Nat) (lv : Value) (q : Int × Int × Nat × (Nat → Bk)) (r : Ending) (w' : World) : Prop :=
  r = .returned (.tuple #[.int .i64 q.1, .int .i64 q.2.1]) ∧ ∃ lv', IsFo w' base fb lv' q.2.2.1 q.2.2.2 ∧ Frm (FoS fb lv) w w' ∧ (lv'.ownBlock = lv.ownBlock ∨ ∃ g, w.heap.size ≤ g ∧ lv'.ownBlock = some g)

section
variable {w w' : World} {base fb n : Nat} {lv : Value} {bs : Nat → Bk}

theorem IsFo.grown {n' : Nat} {bs' : Nat → Bk} {v' : Value} (h : IsFo w base fb lv n bs) (hg : w.grownBy w' lv.ownBlock) (ho : w'.ownsRow base 35 19 v' n' (flat bs' n')) (hn : n' ≤ 32) (hu : ∀ i, i < n' → -1 ≤ bs' i 0 ∧ bs' i 0 < i) :
    IsFo (w'.setCell ⟨fb, 0, none⟩ v') base fb v' n' bs' := by
  have hF : Frm (fun k => some k = lv.ownBlock) w w' := ⟨hg.os, hg.tape, hg.output, hg.size, fun k hk hs => hg.block k hk hs⟩
  have hlow := h.low
  have hne : some fb ≠ lv.ownBlock := fun e => by have := (h.own.lt fb e.symm).1; omega
  refine ⟨((hF.blk h.top hne).set 0 v').congr fun o ho => ?_, own_of_heap ho fun k hk => Below.heap_setCell _ _ _ _ (by have := (ho.lt k hk).1; simp only []; omega), ⟨hlow.1, by have := hg.size; simp; omega⟩, hn, hu⟩
  match o, ho with
  | 0, _ => rfl

set_option maxRecDepth 100000 in
set_option maxHeartbeats 2000000 in
theorem Make_yes (h : IsFo w base fb lv n bs) (up : Int) (m : Ws) (h1 : up = -1 ∨ (0 ≤ up ∧ up < n ∧ bs up.toNat 17 = 1)) (h2 : eqW m ws0 = false) (h3 : n < 32) : Calls Try.prog 8 #[.pointer (some ⟨fb, 0, none⟩), .int .i64 up, wsV m] w
    (MadeTo w base fb lv (n, 0, n + 1, updT bs n (newB up m))) := by
  have HU := Lib.hid (show ∀ i, i < n + 1 → -1 ≤ updT bs n (newB up m) i 0 ∧ updT bs n (newB up m) i 0 < i from fun i hi => by
    by_cases e : i = n
    · subst e
      rw [updT_same]
      show -1 ≤ up ∧ up < i
      omega
    · rw [updT_other _ _ e]
      exact h.ups i (by omega))
  have HE := fun w => eql_ws m ws0 w
  rw [h2] at HE
  have HT := Lib.hid (h.alloc (.cells (wsArr m) 29))
  have HI := Lib.hid (FIs_any HT.out up)
  have s1 := size29 m
  have hlow := h.low
  have HN := Lib.hid (heap_alloc_new w (.cells (wsArr m) 29))
  have HB := Lib.hid ((Below.refl w.heap.size w).alloc (Nat.le_refl _) (.cells (wsArr m) 29))
  have HLV := Lib.hid (fun g (hg : lv.ownBlock = some g) => (h.own.lt g hg).2)
  have hge : ¬ (32 : Int) ≤ n := by omega
  obtain ⟨V, hV⟩ : ∃ V, V = wsArr m := ⟨_, rfl⟩
  obtain ⟨Z, hZ⟩ : ∃ Z, Z = wsArr ws0 := ⟨_, rfl⟩
  unfold wsV at HE ⊢
  simp only [← hV, ← hZ] at HE
  rw [← hV] at HT HI s1 HN HB
  rw [← hV]
  have HVV := Lib.hid hV
  have HZ := Lib.hid hZ
  clear hV hZ h2
  obtain ⟨av, cap, hlv, hg⟩ := h.lvForm
  clear h
  rcases h1 with rfl | ⟨u0, u1, u2⟩
  · subst hlv
    go_enter Try.func8, Try.ntmps8
    go_upto_region 5 with (first | (refine wpList_load_row rfl 29 _ rfl w.heap.size rfl 29 V (0, 0) _ HN.out Try.underlying29 rfl s1 ?_) | (refine wpList_build29 HZ.out rfl rfl ?_))
    obtain ⟨w2, hw2⟩ : ∃ w2, w.alloc (.cells V 29) = w2 := ⟨_, rfl⟩
    obtain ⟨A, hA⟩ : ∃ A, w.heap.size = A := ⟨_, rfl⟩
    rw [hw2] at HT HN
    rw [hA] at HN
    have HB2 := Lib.hid (show Below w.heap.size w w2 by rw [← hw2]; exact HB.out)
    rw [hw2, hA]
    clear hw2 HB HI
    have c0 := HT.out.c0
    go_upto_region 9 with fail
    refine wp_region_cut_held (fun w' => w'.cell? ⟨fb, 0, none⟩ = some (Value.slice av n cap) ∧ w'.heap[A]? = some (.cells V 29 (0, 0))) 12 (by kernel_rfl) (by kernel_rfl) ⟨HT.out.c0, HN.out⟩ (fun hHeld => ?_)
    simp only [List.take_succ_cons, List.take_zero]
    refine wpAnyH_take (i := 0) (v := ?vap0) rfl (by kernel_rfl) (by kernel_rfl) (by kernel_rfl) (fun _ _ _ h => h) (Or.inl ⟨by rfl, ?hyap0⟩) (by assumption) ?restap0
    case hyap0 => (intro w hSw; (try dsimp only at hSw); go_simp) <;> with_reducible rfl
    simp only [Act.put, List.getElem_toArray, List.getElem_cons_succ, List.getElem_cons_zero, List.setIfInBounds_toArray, List.set_cons_succ, List.set_cons_zero]
    refine wpAnyH_take (i := 1) (v := ?vap1) rfl (by kernel_rfl) (by kernel_rfl) (by kernel_rfl) (fun _ _ _ h => h) (Or.inl ⟨by rfl, ?hyap1⟩) (by assumption) ?restap1
    case hyap1 => (intro w hSw; (try dsimp only at hSw); go_simp) <;> with_reducible rfl
    simp only [Act.put, List.getElem_toArray, List.getElem_cons_succ, List.getElem_cons_zero, List.setIfInBounds_toArray, List.set_cons_succ, List.set_cons_zero]
    refine wpAnyH_take (i := 2) (v := ?vap2) rfl (by kernel_rfl) (by kernel_rfl) (by kernel_rfl) (fun _ _ _ h => h) (Or.inl ⟨by rfl, ?hyap2⟩) (by assumption) ?restap2
    case hyap2 => (intro w hSw; (try dsimp only at hSw); go_simp) <;> with_reducible rfl
    simp only [Act.put, List.getElem_toArray, List.getElem_cons_succ, List.getElem_cons_zero, List.setIfInBounds_toArray, List.set_cons_succ, List.set_cons_zero]
    refine wpAnyH_take (i := 3) (v := ?vap3) rfl (by kernel_rfl) (by kernel_rfl) (by kernel_rfl) (fun _ _ _ h => h) (Or.inl ⟨by rfl, ?hyap3⟩) (by assumption) ?restap3
    case hyap3 => (intro w hSw; (try dsimp only at hSw); go_simp) <;> with_reducible rfl
    simp only [Act.put, List.getElem_toArray, List.getElem_cons_succ, List.getElem_cons_zero, List.setIfInBounds_toArray, List.set_cons_succ, List.set_cons_zero]
    refine wpAnyH_take (i := 4) (v := ?vap4) rfl (by kernel_rfl) (by kernel_rfl) (by kernel_rfl) (fun _ _ _ h => h) (Or.inl ⟨by rfl, ?hyap4⟩) (by assumption) ?restap4
    case hyap4 => (intro w hSw; (try dsimp only at hSw); go_simp) <;> with_reducible rfl
    simp only [Act.put, List.getElem_toArray, List.getElem_cons_succ, List.getElem_cons_zero, List.setIfInBounds_toArray, List.set_cons_succ, List.set_cons_zero]
    refine wpAnyH_take (i := 5) (v := ?vap5) rfl (by kernel_rfl) (by kernel_rfl) (by kernel_rfl) (fun _ _ _ h => h) (Or.inl ⟨by rfl, ?hyap5⟩) (by assumption) ?restap5
    case hyap5 => (intro w hSw; (try dsimp only at hSw); go_simp) <;> with_reducible rfl
    simp only [Act.put, List.getElem_toArray, List.getElem_cons_succ, List.getElem_cons_zero, List.setIfInBounds_toArray, List.set_cons_succ, List.set_cons_zero]
    refine wpAnyH_take (i := 6) (v := .agg V) rfl (by kernel_rfl) (by kernel_rfl) (by kernel_rfl) (fun _ _ _ h => h) (Or.inl ⟨by rfl, ?hylp⟩) (by assumption) ?restlp
    case hylp =>
      intro w hSw
      exact yields29 (.tmp 5) rfl A rfl hSw.2 s1
    simp only [Act.put, List.getElem_toArray, List.getElem_cons_succ, List.getElem_cons_zero, List.setIfInBounds_toArray, List.set_cons_succ, List.set_cons_zero]
    refine wpAnyH_take (i := 7) (v := .agg (buArr (newB (-1) m))) rfl (by kernel_rfl) (by kernel_rfl) (by kernel_rfl) (fun _ _ _ h => h) (Or.inl ⟨by rfl, ?hynp⟩) (by assumption) ?restnp
    case hynp =>
      intro w hSw
      exact yieldsNew (.tmp 51) (.tmp 52) rfl rfl (by unfold wsV; rw [← HVV.out]; rfl)
    simp only [Act.put, List.getElem_toArray, List.getElem_cons_succ, List.getElem_cons_zero, List.setIfInBounds_toArray, List.set_cons_succ, List.set_cons_zero]
    obtain ⟨T, hTT⟩ : ∃ T, buArr (newB (-1) m) = T := ⟨_, rfl⟩
    rw [hTT]
    have HTT := Lib.hid hTT
    clear hTT
    refine wpAnyH_ready (rs := [8]) (by kernel_rfl) (by simp) ?_
    refine AllReadyH.cons rfl (fun K hK => ?_) AllReadyH.nil
    refine step_build1 (by rfl) (.tmp 53) (by rfl) (newB (-1) m) (by unfold buV; rw [HTT.out]; rfl) ?_
    rw [HTT.out]
    obtain ⟨W3, hW3⟩ : ∃ W, w2.drew.alloc (.cells T 35) = W := ⟨_, rfl⟩
    have HT3 := Lib.hid (show IsFo W3 base fb (Value.slice av n cap) n bs by rw [← hW3]; exact (HT.out.drewN 1).alloc _)
    have hA2 : A < w2.heap.size := (Array.getElem?_eq_some_iff.1 HN.out).1
    have HA3 := Lib.hid (show W3.heap[A]? = some (.cells V 29 (0, 0)) by rw [← hW3, heap_alloc_old _ _ (by show A < w2.heap.size; omega)]; exact HN.out)
    have HN3 := Lib.hid (show W3.heap[w2.heap.size]? = some (.cells (buArr (newB (-1) m)) 35 (0, 0)) by rw [← hW3, HTT.out]; exact heap_alloc_new w2.drew _)
    have HB3 := Lib.hid (show Below w.heap.size w W3 by rw [← hW3]; exact HB2.out.drew.alloc HB2.out.size _)
    rw [hW3]
    refine hK.out _ _ ⟨HT3.out.c0, HA3.out⟩ (fun hHeld => ?_)
    clear hK K hW3
    try simp only [Act.put, List.getElem_toArray, List.getElem_cons_succ, List.getElem_cons_zero, List.setIfInBounds_toArray, List.set_cons_succ, List.set_cons_zero]
    refine wpAnyH_ready (rs := [9]) (by kernel_rfl) (by simp) ?_
    refine AllReadyH.cons rfl (fun K hK => ?_) AllReadyH.nil
    refine step_append35 (by rfl) (.tmp 50) (.tmp 54) (by rfl) base (newB (-1) m) (by rfl) HT3.out.own w2.heap.size (by rfl) HN3.out (by omega) HT3.out.low.2 ?_
    intro v' W4 hown' hgrow hblk
    obtain ⟨g', cap', hv'⟩ := ownsRow_succ hown'
    subst hv'
    have hne : ∀ k, k < base → some k ≠ ((Value.slice av n cap)).ownBlock := fun k hk e => by have := (HT3.out.own.lt k e.symm).1; omega
    have HT4 := Lib.hid (HT3.out.grown hgrow hown' (by omega) HU.out)
    have cT : W4.cell? ⟨fb, 0, none⟩ = some ((Value.slice av n cap)) := hgrow.cell HT3.out.c0 (hne fb hlow.1)
    have HA4 := Lib.hid (show W4.heap[A]? = some (.cells V 29 (0, 0)) from (hgrow.block A (by have := HA3.out; exact (Array.getElem?_eq_some_iff.1 this).1) (fun e => by have := HLV.out A e.symm; omega)).trans HA3.out)
    have fT : W4.frozen? ⟨fb, 0, none⟩ = false := (World.frozen?_of_block (a := ⟨fb, 0, none⟩) (hgrow.block fb HT3.out.top.lt (hne fb hlow.1))).trans (HT3.out.top.frozen 0)
    have HF4 := Lib.hid (show Frm (FoS fb ((Value.slice av n cap))) w W4 from ⟨hgrow.os.trans HB3.out.os, hgrow.tape.trans HB3.out.tape, hgrow.output.trans HB3.out.output, Nat.le_trans HB3.out.size hgrow.size, fun k hk hs => (hgrow.block k (Nat.lt_of_lt_of_le hk HB3.out.size) (fun e => hs (.inr e))).trans (HB3.out.block k hk)⟩)
    have hw2s : w.heap.size ≤ w2.heap.size := HB2.out.size
    have HBK := Lib.hid (show (Value.slice (some ⟨g', 0, none⟩) (n + 1) cap').ownBlock = ((Value.slice av n cap)).ownBlock ∨ ∃ g, w.heap.size ≤ g ∧ (Value.slice (some ⟨g', 0, none⟩) (n + 1) cap').ownBlock = some g from hblk.imp id (fun e => ⟨_, HB3.out.size, e⟩))
    refine hK.out _ _ ⟨cT, HA4.out⟩ (fun hHeld => ?_)
    clear hK K hown' hgrow hblk
    try simp only [Act.put, List.getElem_toArray, List.getElem_cons_succ, List.getElem_cons_zero, List.setIfInBounds_toArray, List.set_cons_succ, List.set_cons_zero]
    refine wpAnyH_take (i := 10) (v := ?vbp10) rfl (by kernel_rfl) (by kernel_rfl) (by kernel_rfl) (fun _ _ _ h => h) (Or.inl ⟨by rfl, ?hybp10⟩) (by assumption) ?restbp10
    case hybp10 => (intro w hSw; (try dsimp only at hSw); go_simp) <;> with_reducible rfl
    simp only [Act.put, List.getElem_toArray, List.getElem_cons_succ, List.getElem_cons_zero, List.setIfInBounds_toArray, List.set_cons_succ, List.set_cons_zero]
    refine wpAnyH_take (i := 11) (v := ?vbp11) rfl (by kernel_rfl) (by kernel_rfl) (by kernel_rfl) (fun _ _ _ h => h) (Or.inl ⟨by rfl, ?hybp11⟩) (by assumption) ?restbp11
    case hybp11 => (intro w hSw; (try dsimp only at hSw); go_simp) <;> with_reducible rfl
    simp only [Act.put, List.getElem_toArray, List.getElem_cons_succ, List.getElem_cons_zero, List.setIfInBounds_toArray, List.set_cons_succ, List.set_cons_zero]
    refine wpAnyH_done (by kernel_rfl) ?_ _
    simp only [headPost, List.drop_succ_cons, List.drop_zero]
    go_wp2_with fail
    go_ret2
    exact ⟨by first | rfl | (simp; done) | (simp; omega), _, HT4.out, (HF4.out.setCell (p := ⟨fb, 0, none⟩) (fun _ => .inl rfl) _), HBK.out⟩
  · obtain ⟨u, rfl⟩ := Int.eq_ofNat_of_zero_le u0
    have hu : u < n := by omega
    obtain ⟨g, rfl, hgb⟩ := hg (by omega)
    rw [Int.toNat_natCast] at u2
    rw [show isB n (u : Int) = true by unfold isB; exact decide_eq_true ⟨u0, u1⟩] at HI
    have hne1 : ((u : Int) == -1) = false := by first | (simp; done) | (simp; omega)
    have hne2 : ((u : Int) != -1) = true := by first | (simp; done) | (simp; omega)
    have HU2 := Lib.hid u2
    clear u2
    subst hlv
    go_enter Try.func8, Try.ntmps8
    go_wp2_with fail
    refine HI.out.mono ?_
    rintro r w' ⟨rfl, rfl⟩
    go_upto_region 5 with (first | (refine wpList_load_row rfl 29 _ rfl w.heap.size rfl 29 V (0, 0) _ HN.out Try.underlying29 rfl s1 ?_) | (refine wpList_build29 HZ.out rfl rfl ?_))
    obtain ⟨w2, hw2⟩ : ∃ w2, w.alloc (.cells V 29) = w2 := ⟨_, rfl⟩
    obtain ⟨A, hA⟩ : ∃ A, w.heap.size = A := ⟨_, rfl⟩
    rw [hw2] at HT HN
    rw [hA] at HN
    have HB2 := Lib.hid (show Below w.heap.size w w2 by rw [← hw2]; exact HB.out)
    rw [hw2, hA]
    clear hw2 HB HI
    have c0 := HT.out.c0
    have cs := HT.out.cell hu (o := 17) (by omega)
    rw [show buKind 17 = .i64 from rfl, HU2.out] at cs
    go_upto_region 9 with fail
    refine wp_region_cut_held (fun w' => w'.cell? ⟨fb, 0, none⟩ = some (Value.slice (some ⟨g, 0, none⟩) n cap) ∧ w'.heap[A]? = some (.cells V 29 (0, 0))) 12 (by kernel_rfl) (by kernel_rfl) ⟨HT.out.c0, HN.out⟩ (fun hHeld => ?_)
    simp only [List.take_succ_cons, List.take_zero]
    refine wpAnyH_take (i := 0) (v := ?vaq0) rfl (by kernel_rfl) (by kernel_rfl) (by kernel_rfl) (fun _ _ _ h => h) (Or.inl ⟨by rfl, ?hyaq0⟩) (by assumption) ?restaq0
    case hyaq0 => (intro w hSw; (try dsimp only at hSw); go_simp) <;> with_reducible rfl
    simp only [Act.put, List.getElem_toArray, List.getElem_cons_succ, List.getElem_cons_zero, List.setIfInBounds_toArray, List.set_cons_succ, List.set_cons_zero]
    refine wpAnyH_take (i := 1) (v := ?vaq1) rfl (by kernel_rfl) (by kernel_rfl) (by kernel_rfl) (fun _ _ _ h => h) (Or.inl ⟨by rfl, ?hyaq1⟩) (by assumption) ?restaq1
    case hyaq1 => (intro w hSw; (try dsimp only at hSw); go_simp) <;> with_reducible rfl
    simp only [Act.put, List.getElem_toArray, List.getElem_cons_succ, List.getElem_cons_zero, List.setIfInBounds_toArray, List.set_cons_succ, List.set_cons_zero]
    refine wpAnyH_take (i := 2) (v := ?vaq2) rfl (by kernel_rfl) (by kernel_rfl) (by kernel_rfl) (fun _ _ _ h => h) (Or.inl ⟨by rfl, ?hyaq2⟩) (by assumption) ?restaq2
    case hyaq2 => (intro w hSw; (try dsimp only at hSw); go_simp) <;> with_reducible rfl
    simp only [Act.put, List.getElem_toArray, List.getElem_cons_succ, List.getElem_cons_zero, List.setIfInBounds_toArray, List.set_cons_succ, List.set_cons_zero]
    refine wpAnyH_take (i := 3) (v := ?vaq3) rfl (by kernel_rfl) (by kernel_rfl) (by kernel_rfl) (fun _ _ _ h => h) (Or.inl ⟨by rfl, ?hyaq3⟩) (by assumption) ?restaq3
    case hyaq3 => (intro w hSw; (try dsimp only at hSw); go_simp) <;> with_reducible rfl
    simp only [Act.put, List.getElem_toArray, List.getElem_cons_succ, List.getElem_cons_zero, List.setIfInBounds_toArray, List.set_cons_succ, List.set_cons_zero]
    refine wpAnyH_take (i := 4) (v := ?vaq4) rfl (by kernel_rfl) (by kernel_rfl) (by kernel_rfl) (fun _ _ _ h => h) (Or.inl ⟨by rfl, ?hyaq4⟩) (by assumption) ?restaq4
    case hyaq4 => (intro w hSw; (try dsimp only at hSw); go_simp) <;> with_reducible rfl
    simp only [Act.put, List.getElem_toArray, List.getElem_cons_succ, List.getElem_cons_zero, List.setIfInBounds_toArray, List.set_cons_succ, List.set_cons_zero]
    refine wpAnyH_take (i := 5) (v := ?vaq5) rfl (by kernel_rfl) (by kernel_rfl) (by kernel_rfl) (fun _ _ _ h => h) (Or.inl ⟨by rfl, ?hyaq5⟩) (by assumption) ?restaq5
    case hyaq5 => (intro w hSw; (try dsimp only at hSw); go_simp) <;> with_reducible rfl
    simp only [Act.put, List.getElem_toArray, List.getElem_cons_succ, List.getElem_cons_zero, List.setIfInBounds_toArray, List.set_cons_succ, List.set_cons_zero]
    refine wpAnyH_take (i := 6) (v := .agg V) rfl (by kernel_rfl) (by kernel_rfl) (by kernel_rfl) (fun _ _ _ h => h) (Or.inl ⟨by rfl, ?hylq⟩) (by assumption) ?restlq
    case hylq =>
      intro w hSw
      exact yields29 (.tmp 5) rfl A rfl hSw.2 s1
    simp only [Act.put, List.getElem_toArray, List.getElem_cons_succ, List.getElem_cons_zero, List.setIfInBounds_toArray, List.set_cons_succ, List.set_cons_zero]
    refine wpAnyH_take (i := 7) (v := .agg (buArr (newB u m))) rfl (by kernel_rfl) (by kernel_rfl) (by kernel_rfl) (fun _ _ _ h => h) (Or.inl ⟨by rfl, ?hynq⟩) (by assumption) ?restnq
    case hynq =>
      intro w hSw
      exact yieldsNew (.tmp 51) (.tmp 52) rfl rfl (by unfold wsV; rw [← HVV.out]; rfl)
    simp only [Act.put, List.getElem_toArray, List.getElem_cons_succ, List.getElem_cons_zero, List.setIfInBounds_toArray, List.set_cons_succ, List.set_cons_zero]
    obtain ⟨T, hTT⟩ : ∃ T, buArr (newB u m) = T := ⟨_, rfl⟩
    rw [hTT]
    have HTT := Lib.hid hTT
    clear hTT
    refine wpAnyH_ready (rs := [8]) (by kernel_rfl) (by simp) ?_
    refine AllReadyH.cons rfl (fun K hK => ?_) AllReadyH.nil
    refine step_build1 (by rfl) (.tmp 53) (by rfl) (newB u m) (by unfold buV; rw [HTT.out]; rfl) ?_
    rw [HTT.out]
    obtain ⟨W3, hW3⟩ : ∃ W, w2.drew.alloc (.cells T 35) = W := ⟨_, rfl⟩
    have HT3 := Lib.hid (show IsFo W3 base fb (Value.slice (some ⟨g, 0, none⟩) n cap) n bs by rw [← hW3]; exact (HT.out.drewN 1).alloc _)
    have hA2 : A < w2.heap.size := (Array.getElem?_eq_some_iff.1 HN.out).1
    have HA3 := Lib.hid (show W3.heap[A]? = some (.cells V 29 (0, 0)) by rw [← hW3, heap_alloc_old _ _ (by show A < w2.heap.size; omega)]; exact HN.out)
    have HN3 := Lib.hid (show W3.heap[w2.heap.size]? = some (.cells (buArr (newB u m)) 35 (0, 0)) by rw [← hW3, HTT.out]; exact heap_alloc_new w2.drew _)
    have HB3 := Lib.hid (show Below w.heap.size w W3 by rw [← hW3]; exact HB2.out.drew.alloc HB2.out.size _)
    rw [hW3]
    refine hK.out _ _ ⟨HT3.out.c0, HA3.out⟩ (fun hHeld => ?_)
    clear hK K hW3
    try simp only [Act.put, List.getElem_toArray, List.getElem_cons_succ, List.getElem_cons_zero, List.setIfInBounds_toArray, List.set_cons_succ, List.set_cons_zero]
    refine wpAnyH_ready (rs := [9]) (by kernel_rfl) (by simp) ?_
    refine AllReadyH.cons rfl (fun K hK => ?_) AllReadyH.nil
    refine step_append35 (by rfl) (.tmp 50) (.tmp 54) (by rfl) base (newB u m) (by rfl) HT3.out.own w2.heap.size (by rfl) HN3.out (by omega) HT3.out.low.2 ?_
    intro v' W4 hown' hgrow hblk
    obtain ⟨g', cap', hv'⟩ := ownsRow_succ hown'
    subst hv'
    have hne : ∀ k, k < base → some k ≠ ((Value.slice (some ⟨g, 0, none⟩) n cap)).ownBlock := fun k hk e => by have := (HT3.out.own.lt k e.symm).1; omega
    have HT4 := Lib.hid (HT3.out.grown hgrow hown' (by omega) HU.out)
    have cT : W4.cell? ⟨fb, 0, none⟩ = some ((Value.slice (some ⟨g, 0, none⟩) n cap)) := hgrow.cell HT3.out.c0 (hne fb hlow.1)
    have HA4 := Lib.hid (show W4.heap[A]? = some (.cells V 29 (0, 0)) from (hgrow.block A (by have := HA3.out; exact (Array.getElem?_eq_some_iff.1 this).1) (fun e => by have := HLV.out A e.symm; omega)).trans HA3.out)
    have fT : W4.frozen? ⟨fb, 0, none⟩ = false := (World.frozen?_of_block (a := ⟨fb, 0, none⟩) (hgrow.block fb HT3.out.top.lt (hne fb hlow.1))).trans (HT3.out.top.frozen 0)
    have HF4 := Lib.hid (show Frm (FoS fb ((Value.slice (some ⟨g, 0, none⟩) n cap))) w W4 from ⟨hgrow.os.trans HB3.out.os, hgrow.tape.trans HB3.out.tape, hgrow.output.trans HB3.out.output, Nat.le_trans HB3.out.size hgrow.size, fun k hk hs => (hgrow.block k (Nat.lt_of_lt_of_le hk HB3.out.size) (fun e => hs (.inr e))).trans (HB3.out.block k hk)⟩)
    have hw2s : w.heap.size ≤ w2.heap.size := HB2.out.size
    have HBK := Lib.hid (show (Value.slice (some ⟨g', 0, none⟩) (n + 1) cap').ownBlock = ((Value.slice (some ⟨g, 0, none⟩) n cap)).ownBlock ∨ ∃ g, w.heap.size ≤ g ∧ (Value.slice (some ⟨g', 0, none⟩) (n + 1) cap').ownBlock = some g from hblk.imp id (fun e => ⟨_, HB3.out.size, e⟩))
    refine hK.out _ _ ⟨cT, HA4.out⟩ (fun hHeld => ?_)
    clear hK K hown' hgrow hblk
    try simp only [Act.put, List.getElem_toArray, List.getElem_cons_succ, List.getElem_cons_zero, List.setIfInBounds_toArray, List.set_cons_succ, List.set_cons_zero]
    refine wpAnyH_take (i := 10) (v := ?vbq10) rfl (by kernel_rfl) (by kernel_rfl) (by kernel_rfl) (fun _ _ _ h => h) (Or.inl ⟨by rfl, ?hybq10⟩) (by assumption) ?restbq10
    case hybq10 => (intro w hSw; (try dsimp only at hSw); go_simp) <;> with_reducible rfl
    simp only [Act.put, List.getElem_toArray, List.getElem_cons_succ, List.getElem_cons_zero, List.setIfInBounds_toArray, List.set_cons_succ, List.set_cons_zero]
    refine wpAnyH_take (i := 11) (v := ?vbq11) rfl (by kernel_rfl) (by kernel_rfl) (by kernel_rfl) (fun _ _ _ h => h) (Or.inl ⟨by rfl, ?hybq11⟩) (by assumption) ?restbq11
    case hybq11 => (intro w hSw; (try dsimp only at hSw); go_simp) <;> with_reducible rfl
    simp only [Act.put, List.getElem_toArray, List.getElem_cons_succ, List.getElem_cons_zero, List.setIfInBounds_toArray, List.set_cons_succ, List.set_cons_zero]
    refine wpAnyH_done (by kernel_rfl) ?_ _
    simp only [headPost, List.drop_succ_cons, List.drop_zero]
    go_wp2_with fail
    go_ret2
    exact ⟨by first | rfl | (simp; done) | (simp; omega), _, HT4.out, (HF4.out.setCell (p := ⟨fb, 0, none⟩) (fun _ => .inl rfl) _), HBK.out⟩

set_option maxRecDepth 100000 in
theorem Make_arg (h : IsFo w base fb lv n bs) (up : Int) (m : Ws) (h1 : up ≠ -1 ∧ ¬ (0 ≤ up ∧ up < n)) : Calls Try.prog 8 #[.pointer (some ⟨fb, 0, none⟩), .int .i64 up, wsV m] w
    fun r w' => r = .returned (.tuple #[.int .i64 0, .int .i64 1]) ∧ Below w.heap.size w w' := by
  have HI := Lib.hid (FIs_any (h.alloc (.cells (wsArr m) 29)) up)
  rw [show isB n up = false by unfold isB; exact decide_eq_false h1.2] at HI
  have HB := Lib.hid ((Below.refl w.heap.size w).alloc (Nat.le_refl _) (.cells (wsArr m) 29))
  have hne1 : (up == -1) = false := by simpa using h1.1
  have hne2 : (up != -1) = true := by simpa using h1.1
  unfold wsV
  generalize wsArr m = V at *
  clear h h1
  go_enter Try.func8, Try.ntmps8
  go_wp2_with fail
  refine HI.out.mono ?_
  rintro r w' ⟨rfl, rfl⟩
  go_wp2_with fail
  go_ret2
  exact ⟨rfl, HB.out⟩
end
end Go.Proofs.Ytmbdhpibkhgkcaa
