/- Any tasks added, turned, waiting for one another: what each call answers, and what there is behind it: the walk of TablePlays. No condition. -/
import Derived.Test.YtedhhohnbekelaaTk
namespace Go.Proofs.Ytedhhohnbekelaa
open Go.RowKit Go.Deep

theorem yields37 {a : Act} {o : Oper} {w : World} {V : Array Value} (x : Operand) (ho : o.op = .load 37 x) (A : Nat) (hx : a.eval x = .pointer (some ⟨A, 0, none⟩)) (hg : w.heap[A]? = some (.cells V 37 (0, 0))) (h1 : (Try.prog.info? 37).map (·.size) = some V.size) :
    (execOp a.eval o).run Try.prog w = .ok (.value (.agg V)) w := by
  unfold execOp
  simp only [ho, hx, Instr.loadAt, Instr.sureAddr, Sem.run_bind, Sem.run_pure, Result.andThen_ok, run_loadVar_row w A 37 37 V (0, 0) _ hg Try.underlying37 rfl h1]

/-- The tables at the loop's head. -/
def PlaysAt (w0 : World) (base tb c bn bl rb rs : Nat) (vn vl : Value) (R : Nat) (k : Nat) (wr : World) : Prop :=
  ∃ d W, PrE w0 wr base tb c bn bl rb rs vn vl R [] d ⟨d.n, d.ts, W⟩ ∧ Rel W d.R ∧ (∀ p ∈ W, p.2 < d.n) ∧ W.length ≤ k

set_option maxRecDepth 100000 in
set_option maxHeartbeats 4000000 in
theorem plays_any (n : Int) (a : Option Addr) (len cap0 : Nat) (e : Nat → Opn) (w : World) (h0 : -9223372036854775808 ≤ n) (h9 : n ≤ 9223372036854775807) (ha : SlOk a len cap0) (hI : RawO w a len e) :
    Calls Try.prog 4 #[.int .i64 n, .slice a len cap0] w fun r w' => r = .returned (.bool true) ∧ Below w.heap.size w w' := by
  have HI := Lib.hid hI
  obtain ⟨R, hR⟩ : ∃ R, roomOf n = R := ⟨_, rfl⟩
  have HNEW := Lib.hid (fun w => TNew_any n w h0 h9)
  have HROOM := Lib.hid (fun w => refRoom_any n w)
  rw [hR] at HNEW HROOM
  have hR2 : R ≤ 256 := by unfold roomOf at hR; omega
  clear hI hR h0 h9
  go_enter Try.func4, Try.ntmps4
  go_upto_region 1 with fail
  go_cut [1] (fun u1 wr => ∃ (m cap' : Nat), u1 = .slice a m cap' ∧ m ≤ len ∧ m ≤ 50 ∧ w = wr)
  case first =>
    rcases ha with ⟨rfl, rfl, rfl⟩ | ⟨x, rfl, hcap, hm⟩
    · go_wp2_with fail
      go_meet
      case rel => exact ⟨0, _, rfl, by omega, by omega, rfl⟩
    · by_cases h2 : (50 : Int) < len
      all_goals
        go_wp2_with fail
        all_goals
          go_meet
          case rel => exact ⟨_, _, rfl, by omega, by omega, rfl⟩
  case rest =>
    obtain ⟨m, cap', rfl, hm, hm2, rfl⟩ := hcut
    have HO := Lib.hid (HI.out.take hm)
    clear HI ha
    go_wp2_with fail
    refine (HNEW.out _).mono ?_
    rintro r w1 ⟨base, tb, c, bn, bl, vn, vl, rfl, htb, hc, hbn, hbl, hT, hB⟩
    have HB1 := Lib.hid hB
    have HT1 := Lib.hid hT
    clear hT hB HNEW
    go_wp2_with fail
    refine (HROOM.out _).mono ?_
    rintro r w' ⟨rfl, rfl⟩
    clear HROOM
    go_upto_region 4 with fail
    obtain ⟨w2, hw2⟩ : ∃ w2, w1.alloc (.cells #[.int .i64 R, .slice none 0 0, .slice none 0 0] 50) = w2 := ⟨_, rfl⟩
    obtain ⟨rb, hrb⟩ : ∃ rb, w1.heap.size = rb := ⟨_, rfl⟩
    have HT2 := Lib.hid (show IsTab w2 base tb c bn bl vn vl (.slice none 0 0) 0 R (fun _ => tk0) (fun _ => []) by rw [← hw2]; exact HT1.out.alloc _)
    have HP2 := Lib.hid (show PrE w w2 base tb c bn bl rb (rb + 1) vn vl R [] ⟨0, fun _ => tk0, fun _ => []⟩ ⟨0, fun _ => tk0, []⟩ by
      refine ⟨.slice none 0 0, .slice none 0 0, .slice none 0 0, HT2.out, ⟨?_, ⟨by simp [flat], .inl ⟨rfl, rfl⟩⟩, World.ownsRow_nil _ _ _ _, ⟨by omega, by rw [← hw2, ← hrb]; simp⟩, fun g hg => (by cases hg), Nat.zero_le _, hR2, by simp⟩, fun g hg => (by cases hg), fun p hp => (by cases hp), by rw [← hw2]; exact HB1.out.alloc HB1.out.size _, by rw [← hrb]; exact HT1.out.low.2.2.2, htb, hbn, hbl, by rw [← hrb]; exact HB1.out.size⟩
      rw [← hw2, ← hrb]
      refine (Blk.new _ _ _).congr fun o ho => ?_
      match o, ho with
      | 0, _ => rfl
      | 1, _ => rfl
      | 2, _ => rfl)
    have HL := Lib.hid (TRoom_any (HT2.out.drewN 1))
    have HC := Lib.hid (show w2.cell? ⟨rb, 0, none⟩ = some (.int .i64 R) by rw [← hw2, ← hrb]; simp)
    rw [hw2, hrb]
    clear hw2 hrb HT1 HB1
    obtain ⟨rs, hrs⟩ : ∃ rs, rs = rb + 1 := ⟨_, rfl⟩
    rw [← hrs] at HP2
    clear hrs
    refine wp_region_held_drew (S := fun w' => w'.cell? ⟨rb, 0, none⟩ = some (.int .i64 R)) (by kernel_rfl) HC.out (fun hHeld => ?_)
    refine wpAnyH_take (i := 0) (v := ?va0) rfl (by kernel_rfl) (by kernel_rfl) (by kernel_rfl) (fun _ _ _ h => h) (Or.inl ⟨by rfl, ?hya0⟩) (by assumption) ?resta0
    case hya0 => (intro w hSw; (try dsimp only at hSw); go_simp) <;> with_reducible rfl
    simp only [Act.put, List.getElem_toArray, List.getElem_cons_succ, List.getElem_cons_zero, List.setIfInBounds_toArray, List.set_cons_succ, List.set_cons_zero]
    refine wpAnyH_take (i := 1) (v := ?va1) rfl (by kernel_rfl) (by kernel_rfl) (by kernel_rfl) (fun _ _ _ h => h) (Or.inl ⟨by rfl, ?hya1⟩) (by assumption) ?resta1
    case hya1 => (intro w hSw; (try dsimp only at hSw); go_simp) <;> with_reducible rfl
    simp only [Act.put, List.getElem_toArray, List.getElem_cons_succ, List.getElem_cons_zero, List.setIfInBounds_toArray, List.set_cons_succ, List.set_cons_zero]
    refine wpAnyH_take (i := 2) (v := ?va2) rfl (by kernel_rfl) (by kernel_rfl) (by kernel_rfl) (fun _ _ _ h => h) (Or.inl ⟨by rfl, ?hya2⟩) (by assumption) ?resta2
    case hya2 => (intro w hSw; (try dsimp only at hSw); go_simp) <;> with_reducible rfl
    simp only [Act.put, List.getElem_toArray, List.getElem_cons_succ, List.getElem_cons_zero, List.setIfInBounds_toArray, List.set_cons_succ, List.set_cons_zero]
    refine wpAnyH_take (i := 3) (v := ?va3) rfl (by kernel_rfl) (by kernel_rfl) (by kernel_rfl) (fun _ _ _ h => h) (Or.inl ⟨by rfl, ?hya3⟩) (by assumption) ?resta3
    case hya3 => (intro w hSw; (try dsimp only at hSw); go_simp) <;> with_reducible rfl
    simp only [Act.put, List.getElem_toArray, List.getElem_cons_succ, List.getElem_cons_zero, List.setIfInBounds_toArray, List.set_cons_succ, List.set_cons_zero]
    refine wpAnyH_take (i := 5) (v := ?va5) rfl (by kernel_rfl) (by kernel_rfl) (by kernel_rfl) (fun _ _ _ h => h) (Or.inl ⟨by rfl, ?hya5⟩) (by assumption) ?resta5
    case hya5 => (intro w hSw; (try dsimp only at hSw); go_simp) <;> with_reducible rfl
    simp only [Act.put, List.getElem_toArray, List.getElem_cons_succ, List.getElem_cons_zero, List.setIfInBounds_toArray, List.set_cons_succ, List.set_cons_zero]
    refine wpAnyH_take (i := 6) (v := ?va6) rfl (by kernel_rfl) (by kernel_rfl) (by kernel_rfl) (fun _ _ _ h => h) (Or.inl ⟨by rfl, ?hya6⟩) (by assumption) ?resta6
    case hya6 => (intro w hSw; (try dsimp only at hSw); go_simp) <;> with_reducible rfl
    simp only [Act.put, List.getElem_toArray, List.getElem_cons_succ, List.getElem_cons_zero, List.setIfInBounds_toArray, List.set_cons_succ, List.set_cons_zero]
    refine wpAnyH_take (i := 7) (v := ?va7) rfl (by kernel_rfl) (by kernel_rfl) (by kernel_rfl) (fun _ _ _ h => h) (Or.inl ⟨by rfl, ?hya7⟩) (by assumption) ?resta7
    case hya7 => (intro w hSw; (try dsimp only at hSw); go_simp) <;> with_reducible rfl
    simp only [Act.put, List.getElem_toArray, List.getElem_cons_succ, List.getElem_cons_zero, List.setIfInBounds_toArray, List.set_cons_succ, List.set_cons_zero]
    refine wpAnyH_take (i := 8) (v := ?va8) rfl (by kernel_rfl) (by kernel_rfl) (by kernel_rfl) (fun _ _ _ h => h) (Or.inl ⟨by rfl, ?hya8⟩) (by assumption) ?resta8
    case hya8 => (intro w hSw; (try dsimp only at hSw); go_simp) <;> with_reducible rfl
    simp only [Act.put, List.getElem_toArray, List.getElem_cons_succ, List.getElem_cons_zero, List.setIfInBounds_toArray, List.set_cons_succ, List.set_cons_zero]
    refine wpAnyH_ready (rs := [4]) (by kernel_rfl) (by simp) ?_
    refine AllReadyH.cons rfl (fun K hK => ?_) AllReadyH.nil
    go_simp
    refine HL.out.mono ?_
    rintro e' w' ⟨rfl, rfl⟩
    refine hK.out _ _ HC.out (fun hHeld => ?_)
    clear hK K
    try simp only [Act.put, List.getElem_toArray, List.getElem_cons_succ, List.getElem_cons_zero, List.setIfInBounds_toArray, List.set_cons_succ, List.set_cons_zero]
    refine wpAnyH_take (i := 9) (v := ?vz9) rfl (by kernel_rfl) (by kernel_rfl) (by kernel_rfl) (fun _ _ _ h => h) (Or.inl ⟨by rfl, ?hyz9⟩) (by assumption) ?restz9
    case hyz9 => (intro w hSw; (try dsimp only at hSw); go_simp) <;> with_reducible rfl
    simp only [Act.put, List.getElem_toArray, List.getElem_cons_succ, List.getElem_cons_zero, List.setIfInBounds_toArray, List.set_cons_succ, List.set_cons_zero]
    refine wpAnyH_take (i := 10) (v := ?vz10) rfl (by kernel_rfl) (by kernel_rfl) (by kernel_rfl) (fun _ _ _ h => h) (Or.inl ⟨by rfl, ?hyz10⟩) (by assumption) ?restz10
    case hyz10 => (intro w hSw; (try dsimp only at hSw); go_simp) <;> with_reducible rfl
    simp only [Act.put, List.getElem_toArray, List.getElem_cons_succ, List.getElem_cons_zero, List.setIfInBounds_toArray, List.set_cons_succ, List.set_cons_zero]
    refine wpAnyH_done (by kernel_rfl) ?_ _
    obtain ⟨w3, hw3⟩ : ∃ w3, w2.drewN 1 = w3 := ⟨_, rfl⟩
    have HP3 := Lib.hid (show PlaysAt w base tb c bn bl rb rs vn vl R 0 w3 by
      rw [← hw3]
      exact ⟨_, [], HP2.out.below (Go.Proofs.Ytedhhohnbekelaa.Below.drewN (Below.refl _ _) 1), fun i => rfl, fun p hp => (by cases hp), Nat.le_refl _⟩)
    rw [hw3]
    clear hw3 HP2 HT2 HL HC
    go_wp2_with fail
    go_loopw [33] (fun s wr => ∃ k : Nat, k ≤ m ∧ s = .int .i64 k ∧ PlaysAt w base tb c bn bl rb rs vn vl R k wr) (fun s _ => m - (intOf s).toNat)
    case atStart => exact ⟨0, Nat.zero_le _, rfl, HP3.out⟩
    case round =>
      clear HP3
      obtain ⟨k, hk, rfl, d, W, hP, hrel', hwn, hlen⟩ := hrel
      by_cases hlt : k < m
      · have hltI : (k : Int) < m := by omega
        have HPx := Lib.hid hP
        have HREL := Lib.hid hrel'
        have HWN := Lib.hid hwn
        have HLEN := Lib.hid hlen
        clear hP hrel' hwn hlen
        rcases HO.out with hz | ⟨ob, off, rfl, hob, hoc, hor⟩
        · omega
        have h0 := hor k hlt
        have hr := rangeAt_below hob HPx.out.bel (hoc k hlt)
        have zz := zero37
        have q1 := size37L (e k)
        have h2 := size37 (e k)
        have q3 : (opArr op0).size = (opArr (e k)).size := by rw [opArr_size, opArr_size]
        have q4 := one37 (e k)
        have q5 : (opL (e k)).toArray = opArr (e k) := rfl
        generalize e k = o at *
        have HDO := Lib.hid (fun (w' : World) (Kp : List (Nat × Obj)) (hh : PrE w w' base tb c bn bl rb rs vn vl R Kp d ⟨d.n, d.ts, W⟩) => do_any hh HREL.out HWN.out (by have := HLEN.out; omega) o h0)
        have HAL := Lib.hid (fun (w' : World) (Kp : List (Nat × Obj)) (d' : Tb) (W' : List (Nat × Nat)) (hh : PrE w w' base tb c bn bl rb rs vn vl R Kp d' ⟨d'.n, d'.ts, W'⟩) => show Calls Try.prog 19 #[.pointer (some ⟨tb, 0, none⟩), .pointer (some ⟨rb, 0, none⟩), .agg (opArr o)] w' fun r w2 => r = .returned (.bool true) ∧ Below w'.heap.size w' w2 from by
          obtain ⟨lv, xl, xw, hh⟩ := hh
          exact alike_any hh.tab hh.ref o)
        have HM1 := Lib.hid (fun w' => May_any o.x w')
        have HM2 := Lib.hid (fun w' => refMay_any o.x w')
        have h1 : (Try.prog.info? 30).map (·.size) = some (tkArr o.x).toList.length := by rw [Array.length_toList]; exact size30 _
        have KT := Lib.hid (fun (w' : World) (A : Nat) (hh : w'.heap[A]? = some (Obj.cells (opArr o) 37 (0, 0))) => show w'.rangeAt A 1 (tkArr o.x).toList from OpAt.task (o := o) hh)
        unfold tkV at HM1 HM2
        obtain ⟨b, hb⟩ : ∃ b, may o.x = b := ⟨_, rfl⟩
        simp only [hb] at HM1 HM2
        obtain ⟨OA, hOA⟩ : ∃ OA, OA = opArr o := ⟨_, rfl⟩
        obtain ⟨OL, hOL⟩ : ∃ OL, OL = opL o := ⟨_, rfl⟩
        obtain ⟨Z, hZ⟩ : ∃ Z, Z = opArr op0 := ⟨_, rfl⟩
        obtain ⟨TA, hTA⟩ : ∃ TA, TA = tkArr o.x := ⟨_, rfl⟩
        simp only [← hOA] at h2 q3 q4 q5 HDO HAL KT
        rw [← hOL] at q1 q5 hr
        simp only [← hZ] at zz q3
        simp only [← hTA] at h1 KT HM1 HM2
        have HR := Lib.hid hr
        have HOB := Lib.hid (And.intro hob (And.intro hoc hor))
        clear hr hOA hOL hZ hTA hoc hor hob h0 hb
        go_upto_region 9 with (first | (refine wpList_load_mid rfl 37 _ rfl ob (off + k * 32) rfl OL _ HR.out Try.underlying37 rfl q1 ?_; rw [q5]) | (refine wpList_store_row rfl 37 _ _ rfl wr.heap.size OA rfl rfl 37 Z (heap_alloc_new _ _) h2 q3 q4 ?_; rw [setRow_new]))
        obtain ⟨W1, hW1⟩ : ∃ W1, wr.alloc (.cells OA 37) = W1 := ⟨_, rfl⟩
        obtain ⟨A, hA⟩ : ∃ A, wr.heap.size = A := ⟨_, rfl⟩
        have HP1 := Lib.hid (show PrE w W1 base tb c bn bl rb rs vn vl R [(A, Obj.cells OA 37 (0, 0))] d ⟨d.n, d.ts, W⟩ by rw [← hW1, ← hA]; exact HPx.out.new OA 37)
        have HK1 := Lib.hid (show (A, Obj.cells OA 37 (0, 0)) ∈ [(A, Obj.cells OA 37 (0, 0))] from List.mem_cons_self)
        rw [hW1, hA]
        replace KT := Lib.hid (fun (w' : World) hh => KT.out w' A hh)
        clear hW1 hA HPx zz q1 q3 q4 q5 HR HOB
        refine wp_region_held_drew (S := fun w' => w'.heap[A]? = some (Obj.cells OA 37 (0, 0))) (by kernel_rfl) (HP1.out.kept HK1.out) (fun hHeld => ?_)
        refine wpAnyH_take (i := 0) (v := ?vc0) rfl (by kernel_rfl) (by kernel_rfl) (by kernel_rfl) (fun _ _ _ h => h) (Or.inl ⟨by rfl, ?hyc0⟩) (by assumption) ?restc0
        case hyc0 => (intro w hSw; (try dsimp only at hSw); go_simp) <;> with_reducible rfl
        simp only [Act.put, List.getElem_toArray, List.getElem_cons_succ, List.getElem_cons_zero, List.setIfInBounds_toArray, List.set_cons_succ, List.set_cons_zero]
        refine wpAnyH_take (i := 1) (v := .agg TA) rfl (by kernel_rfl) (by kernel_rfl) (by kernel_rfl) (fun _ _ _ h => h) (Or.inl ⟨by rfl, ?hyld1⟩) (by assumption) ?restld1
        case hyld1 =>
          intro w hSw
          exact yields30m (.tmp 37) rfl A 1 rfl (KT.out _ hSw) h1
        simp only [Act.put, List.getElem_toArray, List.getElem_cons_succ, List.getElem_cons_zero, List.setIfInBounds_toArray, List.set_cons_succ, List.set_cons_zero]
        refine wpAnyH_take (i := 3) (v := ?vc3) rfl (by kernel_rfl) (by kernel_rfl) (by kernel_rfl) (fun _ _ _ h => h) (Or.inl ⟨by rfl, ?hyc3⟩) (by assumption) ?restc3
        case hyc3 => (intro w hSw; (try dsimp only at hSw); go_simp) <;> with_reducible rfl
        simp only [Act.put, List.getElem_toArray, List.getElem_cons_succ, List.getElem_cons_zero, List.setIfInBounds_toArray, List.set_cons_succ, List.set_cons_zero]
        refine wpAnyH_take (i := 4) (v := .agg TA) rfl (by kernel_rfl) (by kernel_rfl) (by kernel_rfl) (fun _ _ _ h => h) (Or.inl ⟨by rfl, ?hyld4⟩) (by assumption) ?restld4
        case hyld4 =>
          intro w hSw
          exact yields30m (.tmp 40) rfl A 1 rfl (KT.out _ hSw) h1
        simp only [Act.put, List.getElem_toArray, List.getElem_cons_succ, List.getElem_cons_zero, List.setIfInBounds_toArray, List.set_cons_succ, List.set_cons_zero]
        refine wpAnyH_ready (rs := [2]) (by kernel_rfl) (by simp) ?_
        refine AllReadyH.cons rfl (fun K hK => ?_) AllReadyH.nil
        go_simp
        refine (HM1.out _).mono ?_
        rintro e' w2 ⟨rfl, hb⟩
        have HP2 := Lib.hid ((HP1.out.below (Below.refl _ _).drew).below hb)
        clear hb
        refine hK.out _ _ (HP2.out.kept HK1.out) (fun hHeld => ?_)
        clear hK K
        try simp only [Act.put, List.getElem_toArray, List.getElem_cons_succ, List.getElem_cons_zero, List.setIfInBounds_toArray, List.set_cons_succ, List.set_cons_zero]
        refine wpAnyH_ready (rs := [5]) (by kernel_rfl) (by simp) ?_
        refine AllReadyH.cons rfl (fun K hK => ?_) AllReadyH.nil
        go_simp
        refine (HM2.out _).mono ?_
        rintro e' w3 ⟨rfl, hb⟩
        have HP3 := Lib.hid (HP2.out.below hb)
        clear hb
        refine hK.out _ _ (HP3.out.kept HK1.out) (fun hHeld => ?_)
        clear hK K
        try simp only [Act.put, List.getElem_toArray, List.getElem_cons_succ, List.getElem_cons_zero, List.setIfInBounds_toArray, List.set_cons_succ, List.set_cons_zero]
        refine wpAnyH_take (i := 6) (v := ?ve6) rfl (by kernel_rfl) (by kernel_rfl) (by kernel_rfl) (fun _ _ _ h => h) (Or.inl ⟨by rfl, ?hye6⟩) (by assumption) ?reste6
        case hye6 => (intro w hSw; (try dsimp only at hSw); go_simp) <;> with_reducible rfl
        simp only [Act.put, List.getElem_toArray, List.getElem_cons_succ, List.getElem_cons_zero, List.setIfInBounds_toArray, List.set_cons_succ, List.set_cons_zero]
        refine wpAnyH_take (i := 7) (v := ?ve7) rfl (by kernel_rfl) (by kernel_rfl) (by kernel_rfl) (fun _ _ _ h => h) (Or.inl ⟨by rfl, ?hye7⟩) (by assumption) ?reste7
        case hye7 => (intro w hSw; (try dsimp only at hSw); go_simp) <;> with_reducible rfl
        simp only [Act.put, List.getElem_toArray, List.getElem_cons_succ, List.getElem_cons_zero, List.setIfInBounds_toArray, List.set_cons_succ, List.set_cons_zero]
        refine wpAnyH_take (i := 8) (v := ?ve8) rfl (by kernel_rfl) (by kernel_rfl) (by kernel_rfl) (fun _ _ _ h => h) (Or.inl ⟨by rfl, ?hye8⟩) (by assumption) ?reste8
        case hye8 => (intro w hSw; (try dsimp only at hSw); go_simp) <;> with_reducible rfl
        simp only [Act.put, List.getElem_toArray, List.getElem_cons_succ, List.getElem_cons_zero, List.setIfInBounds_toArray, List.set_cons_succ, List.set_cons_zero]
        refine wpAnyH_take (i := 9) (v := ?ve9) rfl (by kernel_rfl) (by kernel_rfl) (by kernel_rfl) (fun _ _ _ h => h) (Or.inl ⟨by rfl, ?hye9⟩) (by assumption) ?reste9
        case hye9 => (intro w hSw; (try dsimp only at hSw); go_simp) <;> with_reducible rfl
        simp only [Act.put, List.getElem_toArray, List.getElem_cons_succ, List.getElem_cons_zero, List.setIfInBounds_toArray, List.set_cons_succ, List.set_cons_zero]
        refine wpAnyH_take (i := 10) (v := .agg OA) rfl (by kernel_rfl) (by kernel_rfl) (by kernel_rfl) (fun _ _ _ h => h) (Or.inl ⟨by rfl, ?hylf10⟩) (by assumption) ?restlf10
        case hylf10 =>
          intro w hSw
          exact yields37 (.tmp 8) rfl A rfl hSw h2
        simp only [Act.put, List.getElem_toArray, List.getElem_cons_succ, List.getElem_cons_zero, List.setIfInBounds_toArray, List.set_cons_succ, List.set_cons_zero]
        refine wpAnyH_ready (rs := [11]) (by kernel_rfl) (by simp) ?_
        refine AllReadyH.cons rfl (fun K hK => ?_) AllReadyH.nil
        go_simp
        refine (HDO.out _ _ HP3.out).mono ?_
        rintro e' w4 ⟨rfl, d4, W4, h4, hrl4, hwn4, hln4⟩
        have HP4 := Lib.hid h4
        have HREL4 := Lib.hid hrl4
        have HWN4 := Lib.hid hwn4
        have HLN4 := Lib.hid hln4
        clear h4 hrl4 hwn4 hln4
        refine hK.out _ _ (HP4.out.kept HK1.out) (fun hHeld => ?_)
        clear hK K
        try simp only [Act.put, List.getElem_toArray, List.getElem_cons_succ, List.getElem_cons_zero, List.setIfInBounds_toArray, List.set_cons_succ, List.set_cons_zero]
        refine wpAnyH_take (i := 12) (v := ?vg12) rfl (by kernel_rfl) (by kernel_rfl) (by kernel_rfl) (fun _ _ _ h => h) (Or.inl ⟨by rfl, ?hyg12⟩) (by assumption) ?restg12
        case hyg12 => (intro w hSw; (try dsimp only at hSw); go_simp) <;> with_reducible rfl
        simp only [Act.put, List.getElem_toArray, List.getElem_cons_succ, List.getElem_cons_zero, List.setIfInBounds_toArray, List.set_cons_succ, List.set_cons_zero]
        refine wpAnyH_take (i := 13) (v := ?vg13) rfl (by kernel_rfl) (by kernel_rfl) (by kernel_rfl) (fun _ _ _ h => h) (Or.inl ⟨by rfl, ?hyg13⟩) (by assumption) ?restg13
        case hyg13 => (intro w hSw; (try dsimp only at hSw); go_simp) <;> with_reducible rfl
        simp only [Act.put, List.getElem_toArray, List.getElem_cons_succ, List.getElem_cons_zero, List.setIfInBounds_toArray, List.set_cons_succ, List.set_cons_zero]
        refine wpAnyH_take (i := 14) (v := ?vg14) rfl (by kernel_rfl) (by kernel_rfl) (by kernel_rfl) (fun _ _ _ h => h) (Or.inl ⟨by rfl, ?hyg14⟩) (by assumption) ?restg14
        case hyg14 => (intro w hSw; (try dsimp only at hSw); go_simp) <;> with_reducible rfl
        simp only [Act.put, List.getElem_toArray, List.getElem_cons_succ, List.getElem_cons_zero, List.setIfInBounds_toArray, List.set_cons_succ, List.set_cons_zero]
        refine wpAnyH_take (i := 15) (v := ?vg15) rfl (by kernel_rfl) (by kernel_rfl) (by kernel_rfl) (fun _ _ _ h => h) (Or.inl ⟨by rfl, ?hyg15⟩) (by assumption) ?restg15
        case hyg15 => (intro w hSw; (try dsimp only at hSw); go_simp) <;> with_reducible rfl
        simp only [Act.put, List.getElem_toArray, List.getElem_cons_succ, List.getElem_cons_zero, List.setIfInBounds_toArray, List.set_cons_succ, List.set_cons_zero]
        refine wpAnyH_take (i := 16) (v := ?vg16) rfl (by kernel_rfl) (by kernel_rfl) (by kernel_rfl) (fun _ _ _ h => h) (Or.inl ⟨by rfl, ?hyg16⟩) (by assumption) ?restg16
        case hyg16 => (intro w hSw; (try dsimp only at hSw); go_simp) <;> with_reducible rfl
        simp only [Act.put, List.getElem_toArray, List.getElem_cons_succ, List.getElem_cons_zero, List.setIfInBounds_toArray, List.set_cons_succ, List.set_cons_zero]
        refine wpAnyH_take (i := 17) (v := .agg OA) rfl (by kernel_rfl) (by kernel_rfl) (by kernel_rfl) (fun _ _ _ h => h) (Or.inl ⟨by rfl, ?hylh17⟩) (by assumption) ?restlh17
        case hylh17 =>
          intro w hSw
          exact yields37 (.tmp 8) rfl A rfl hSw h2
        simp only [Act.put, List.getElem_toArray, List.getElem_cons_succ, List.getElem_cons_zero, List.setIfInBounds_toArray, List.set_cons_succ, List.set_cons_zero]
        refine wpAnyH_ready (rs := [18]) (by kernel_rfl) (by simp) ?_
        refine AllReadyH.cons rfl (fun K hK => ?_) AllReadyH.nil
        go_simp
        refine (HAL.out _ _ _ _ HP4.out).mono ?_
        rintro e' w5 ⟨rfl, hb⟩
        have HP5 := Lib.hid (HP4.out.below hb)
        clear hb
        refine hK.out _ _ (HP5.out.kept HK1.out) (fun hHeld => ?_)
        clear hK K
        try simp only [Act.put, List.getElem_toArray, List.getElem_cons_succ, List.getElem_cons_zero, List.setIfInBounds_toArray, List.set_cons_succ, List.set_cons_zero]
        refine wpAnyH_take (i := 19) (v := ?vi19) rfl (by kernel_rfl) (by kernel_rfl) (by kernel_rfl) (fun _ _ _ h => h) (Or.inl ⟨by rfl, ?hyi19⟩) (by assumption) ?resti19
        case hyi19 => (intro w hSw; (try dsimp only at hSw); go_simp) <;> with_reducible rfl
        simp only [Act.put, List.getElem_toArray, List.getElem_cons_succ, List.getElem_cons_zero, List.setIfInBounds_toArray, List.set_cons_succ, List.set_cons_zero]
        refine wpAnyH_take (i := 20) (v := ?vi20) rfl (by kernel_rfl) (by kernel_rfl) (by kernel_rfl) (fun _ _ _ h => h) (Or.inl ⟨by rfl, ?hyi20⟩) (by assumption) ?resti20
        case hyi20 => (intro w hSw; (try dsimp only at hSw); go_simp) <;> with_reducible rfl
        simp only [Act.put, List.getElem_toArray, List.getElem_cons_succ, List.getElem_cons_zero, List.setIfInBounds_toArray, List.set_cons_succ, List.set_cons_zero]
        refine wpAnyH_done (by kernel_rfl) ?_ _
        go_wp2_with fail
        go_roundw
        case rel => exact ⟨k + 1, by omega, by go_num, d4, W4, HP5.out.less (fun p hp => (by cases hp)), HREL4.out, HWN4.out, by have := HLN4.out; have := HLEN.out; omega⟩
        case measure => simp [intOf]; omega
      · obtain rfl : k = m := by omega
        have HBE := Lib.hid hP.bel
        clear hlt hP HO
        go_wp2_with fail
        refine (lives_any _).mono ?_
        rintro r w8 ⟨rfl, hb⟩
        have HB8 := Lib.hid (HBE.out.trans (hb.mono HBE.out.size))
        clear hb
        go_wp2_with fail
        go_ret
        exact ⟨rfl, HB8.out⟩
end Go.Proofs.Ytedhhohnbekelaa
