/- A bubble that is burst, and regenerated where it was, is as it was: the walk. No condition. -/
import Derived.Test.YtmbdhpibkhgkcaaZe
import Derived.Test.YtmbdhpibkhgkcaaZf
namespace Go.Proofs.Ytmbdhpibkhgkcaa
open Go.RowKit

theorem wpList_build1 {ops : Array Oper} {rest : List Oper} {o : Oper} {a : Act} {w : World} {Q : Exit → Act → World → Prop} (hgd : o.guard = none) (x : Operand) (ho : o.op = .buildSlice 43 1 #[(0, x)])
    (V : Array Value) (t : Bk) (hV : V = buArr t) (hx : a.eval x = .agg V)
    (h : wpList Try.prog ops Q rest (a.put o.dst (.slice (some ⟨w.heap.size, 0, none⟩) 1 1)) (w.alloc (.cells V 35))) : wpList Try.prog ops Q (o :: rest) a w := wpList_plain hgd fun _ hK => by
  obtain ⟨i, hi, hz, hs, hb⟩ := info_parts Try.info35
  refine wp_buildSlice 43 35 1 #[(0, x)] ho V i (buV bk0) Try.underlying43 hi hz (by rw [hs]; omega) (by rw [hs]; omega) ?_ (hK _ _ h)
  rw [hs]
  simp only [List.map_toArray, List.map_cons, List.map_nil, hx]
  rw [hV]
  exact fill_one t _ (by simp)

theorem wpList_mid_want {ops : Array Oper} {rest : List Oper} {o : Oper} {a : Act} {w : World} {Q : Exit → Act → World → Prop} (ty : TypeId) (x : Operand) (ho : o.op = .load ty x)
    (b j : Nat) (hx : a.eval x = .pointer (some ⟨b, j, none⟩)) (V : Array Value) (d : TypeDesc) (hc : w.rangeAt b j V.toList)
    (hu : Try.prog.underlying ty = some d) (hd : d.isRow = true) (hi : (Try.prog.info? ty).map (·.size) = some V.toList.length)
    (hw : Region.wanted o (yielded ops a.tmps) = true) (h : wpList Try.prog ops Q rest (a.put o.dst (.agg V)) w) : wpList Try.prog ops Q (o :: rest) a w := by
  unfold wpList
  rw [if_pos hw]
  refine .inl (wp_load_mid ty x ho b j hx V.toList d hc hu hd hi ?_)
  rw [Array.toArray_toList]
  exact h

theorem src_row (W : World) (V : Array Value) (t : TypeId) (h : V.size = 19) : SrcN (W.alloc (.cells V t)) (.slice (some ⟨W.heap.size, 0, none⟩) 1 1) 1 19 V.toList := by
  refine ⟨_, _, rfl, by rw [Array.length_toList, h], .inr ⟨_, rfl, fun j u hu => ?_⟩⟩
  rw [Array.getElem?_toList] at hu
  have hadd : (⟨W.heap.size, 0, none⟩ : Addr).add j = ⟨W.heap.size, j, none⟩ := by unfold Addr.add; split <;> simp_all
  rw [hadd]
  exact cell_of (heap_alloc_new W (.cells V t)) hu

theorem flat_next (bs : Nat → Bk) (k : Nat) : flat bs k ++ (buArr (bs k)).toList = flat bs (k + 1) := by
  rw [flat_more]
  congr 1
  funext i
  unfold updT
  split
  · rename_i h; rw [h]
  · rfl

theorem mask_in {w : World} {X : Nat} {t : Bk} (h : w.heap[X]? = some (.cells (buArr t) 35 (0, 0))) : w.rangeAt X 1 (wsArr (maskOf t)).toList := by
  intro j v hv
  have hj : j < 16 := by
    have := (List.getElem?_eq_some_iff.1 hv).1
    rw [Array.length_toList, wsArr_size] at this
    exact this
  rw [Array.getElem?_toList, wsArr_at _ hj] at hv
  refine cell_of h ?_
  rw [show 1 + j = j + 1 by omega, buArr_at _ (by omega), ← hv]
  unfold buKind maskOf
  rw [if_pos (by omega)]

theorem row_in {w : World} {base n g cap i : Nat} {bs : Nat → Bk} (h : w.ownsRow base 35 19 (.slice (some ⟨g, 0, none⟩) n cap) n (flat bs n)) (hi : i < n) : w.rangeAt g (i * 19) (buArr (bs i)).toList := by
  intro j v hv
  have hj : j < 19 := by
    have := (List.getElem?_eq_some_iff.1 hv).1
    rw [Array.length_toList, buArr_size] at this
    exact this
  rw [own_cell h hi hj, ← hv, Array.getElem?_toList, buArr_at _ hj]

theorem foS_low {w : World} {base fb n : Nat} {lv : Value} {bs : Nat → Bk} (h : IsFo w base fb lv n bs) {k : Nat} (hk : w.heap.size ≤ k) : ¬ FoS fb lv k := fun hs => by
  rcases hs with e | e
  · have := h.top.lt; omega
  · have := (h.own.lt k e.symm).2; omega
theorem below_foS {n₀ : Nat} {w0 w w' : World} {base fb n : Nat} {lv : Value} {bs : Nat → Bk} (h : IsFo w base fb lv n bs) (hfb : n₀ ≤ fb) (hB : Below n₀ w0 w) (hF : Frm (FoS fb lv) w w') : Below n₀ w0 w' :=
  hB.trans (hF.below (Nat.le_trans hfb (Nat.le_of_lt h.top.lt)) fun k hk hs => by
    rcases hs with e | e
    · omega
    · have := (h.own.lt k e.symm).1; have := h.low.1; omega)

theorem burst_l {n : Nat} {bs : Nat → Bk} {b : Nat} (hb : b < n) (h3 : bs b 17 = 3) : ∃ L, burstD n bs (b : Int) = (0, L, bs2D n bs b) :=
  ⟨_, Prod.ext (by rw [burst_ok hb h3]) rfl⟩
theorem regen_l {n : Nat} {bs : Nat → Bk} {b : Nat} (hb : b < n) (h3 : bs b 17 = 3) (hu : bs b 0 < b) : ∃ L, regenD n (bs2D n bs b) (b : Int) (bs b 18) = (0, L, bs4D n bs b) :=
  ⟨_, Prod.ext (by rw [regen_ok hb h3 hu]) rfl⟩

set_option maxRecDepth 100000 in
set_option maxHeartbeats 4000000 in
theorem bregen_any (a : Option Addr) (len cap0 : Nat) (e : Nat → Opn) (b : Int) (w : World) (ha : SlOk a len cap0) (hI : RawO w a len e) :
    Calls Try.prog 6 #[.slice a len cap0, .int .i64 b] w fun r w' => r = .returned (.bool true) ∧ Below w.heap.size w w' := by
  have HRUN := Lib.hid (run_any a len cap0 e w ha hI)
  generalize runD e (min len 40) = q at HRUN
  obtain ⟨n, bs⟩ := q
  have zz := zero35
  obtain ⟨Z, hZ⟩ : ∃ Z, Z = buArr bk0 := ⟨_, rfl⟩
  have zs : Z.size = 19 := by rw [hZ]; exact buArr_size _
  simp only [← hZ] at zz
  have HZ := Lib.hid hZ
  clear hZ ha hI
  go_enter Try.func6, Try.ntmps6
  go_wp2_with fail
  refine HRUN.out.mono ?_
  rintro r w1 ⟨base, fb, lv, rfl, hfb, hT, hB⟩
  simp only at hT
  have HT1 := Lib.hid hT
  have HB1 := Lib.hid hB
  have HFB := Lib.hid hfb
  have hmost : n ≤ 32 := hT.most
  have HGET := Lib.hid (FGet_any hT b)
  have HUP := Lib.hid (show ∀ i, i < n → -1 ≤ bs i 0 ∧ bs i 0 < i from hT.ups)
  clear hT hB hfb HRUN
  by_cases hin : 0 ≤ b ∧ b < n
  · obtain ⟨b, rfl⟩ := Int.eq_ofNat_of_zero_le hin.1
    have hb : b < n := by omega
    rw [show getD n bs (b : Int) = (true, bs b) by unfold getD; rw [if_pos hin, Int.toNat_natCast]] at HGET
    clear hin
    have s1 := size35 (bs b)
    have s2 := one35 (bs b)
    have s3 : Z.size = (buArr (bs b)).size := by rw [zs, buArr_size]
    have H17 := Lib.hid (fun (w' : World) (A : Nat) (h : w'.heap[A]? = some (.cells (buArr (bs b)) 35 (0, 0))) => show w'.cell? ⟨A, 17, none⟩ = some (.int .i64 (bs b 17)) from cell_of h (buArr_at _ (by omega)))
    have H18 := Lib.hid (fun (w' : World) (A : Nat) (h : w'.heap[A]? = some (.cells (buArr (bs b)) 35 (0, 0))) => show w'.cell? ⟨A, 18, none⟩ = some (.int .i64 (bs b 18)) from cell_of h (buArr_at _ (by omega)))
    unfold buV at HGET
    obtain ⟨U, hU⟩ : ∃ U, U = buArr (bs b) := ⟨_, rfl⟩
    simp only [← hU] at s1 s2 s3 HGET H17 H18
    have HU := Lib.hid hU
    clear hU
    go_wp2_with fail
    refine HGET.out.mono ?_
    rintro r w2 ⟨rfl, hb2⟩
    have HB2 := Lib.hid hb2
    clear hb2 HGET
    go_upto_region 3 with (refine wpList_store_row rfl 35 _ _ rfl w2.heap.size U rfl rfl 35 Z (heap_alloc_new _ _) s1 s3 s2 ?_; rw [setRow_new])
    obtain ⟨w3, hw3⟩ : ∃ w3, w2.alloc (.cells U 35) = w3 := ⟨_, rfl⟩
    obtain ⟨A, hA⟩ : ∃ A, w2.heap.size = A := ⟨_, rfl⟩
    have HA3 := Lib.hid (show w3.heap[A]? = some (.cells U 35 (0, 0)) by rw [← hw3, ← hA]; exact heap_alloc_new _ _)
    have HT3 := Lib.hid (show IsFo w3 base fb lv n bs by rw [← hw3]; exact (HT1.out.below HB2.out).alloc _)
    have HB3 := Lib.hid (show Below w.heap.size w w3 by rw [← hw3]; exact (HB1.out.trans (HB2.out.mono HB1.out.size)).alloc (Nat.le_trans HB1.out.size HB2.out.size) _)
    have HNA := Lib.hid (show ¬ FoS fb lv A ∧ A < w3.heap.size from ⟨foS_low (HT1.out.below HB2.out) (by rw [hA]; exact Nat.le_refl _), (Array.getElem?_eq_some_iff.1 HA3.out).1⟩)
    rw [hw3, hA]
    clear hw3 hA HT1 HB1 HB2
    have c17 := H17.out _ _ HA3.out
    by_cases h3 : bs b 17 = 3
    · rw [h3] at c17
      have H3 := Lib.hid h3
      clear h3 H17
      go_wp2_with fail
      go_loopw [9, 41] (fun v s wr => ∃ k : Nat, k ≤ n ∧ s = .int .i64 k ∧ wr.ownsRow w3.heap.size 35 19 v k (flat bs k) ∧ Below w3.heap.size w3 wr) (fun _ s _ => n - (intOf s).toNat)
      case atStart => exact ⟨0, Nat.zero_le _, rfl, World.ownsRow_nil _ _ _ _, Below.refl _ _⟩
      case round =>
        obtain ⟨k, hk, rfl, hO, hBk⟩ := hrel
        have HO := Lib.hid hO
        have HBk := Lib.hid hBk
        clear c17 hO hBk
        by_cases hlt : k < n
        · have hltI : (k : Int) < n := by omega
          have HGET := Lib.hid (FGet_any (HT3.out.below HBk.out) k)
          rw [show getD n bs (k : Int) = (true, bs k) by unfold getD; rw [if_pos ⟨by omega, by omega⟩, Int.toNat_natCast]] at HGET
          have t1 := size35 (bs k)
          have t2 := one35 (bs k)
          have t3 : Z.size = (buArr (bs k)).size := by rw [zs, buArr_size]
          have t4 : (buArr (bs k)).size = 19 := buArr_size _
          have HFL := Lib.hid (flat_next bs k)
          unfold buV at HGET
          obtain ⟨V, hV⟩ : ∃ V, V = buArr (bs k) := ⟨_, rfl⟩
          simp only [← hV] at t1 t2 t3 t4 HGET HFL
          have HV := Lib.hid hV
          clear hV
          obtain ⟨i35, I35, Z35, S35, B35⟩ := info_parts Try.info35
          have I35 := Lib.hid I35
          have Z35 := Lib.hid Z35
          have S35 := Lib.hid S35
          have B35 := Lib.hid B35
          go_wp2_with fail
          refine HGET.out.mono ?_
          rintro r w4 ⟨rfl, hb4⟩
          have HB4 := Lib.hid (HBk.out.trans (hb4.mono HBk.out.size))
          have HO4 := Lib.hid (own_of_heap HO.out (fun g hg => hb4.block g (HO.out.lt g hg).2))
          clear hb4 HGET HO HBk
          go_upto_region 10 with (refine wpList_store_row rfl 35 _ _ rfl w4.heap.size V rfl rfl 35 Z (heap_alloc_new _ _) t1 t3 t2 ?_; rw [setRow_new])
          obtain ⟨w5, hw5⟩ : ∃ w5, w4.alloc (.cells V 35) = w5 := ⟨_, rfl⟩
          obtain ⟨D, hD⟩ : ∃ D, w4.heap.size = D := ⟨_, rfl⟩
          have HD5 := Lib.hid (show w5.heap[D]? = some (.cells V 35 (0, 0)) by rw [← hw5, ← hD]; exact heap_alloc_new _ _)
          have HB5 := Lib.hid (show Below w3.heap.size w3 w5 by rw [← hw5]; exact HB4.out.alloc HB4.out.size _)
          have HO5 := Lib.hid (show _ from by rw [← hw5]; exact HO4.out.alloc (.cells V 35) : w5.ownsRow w3.heap.size 35 19 _ k (flat bs k))
          rw [hw5, hD]
          clear hw5 hD HB4 HO4
          go_wp2_with (first | (refine wpList_load_row rfl 35 _ rfl D rfl 35 V (0, 0) _ HD5.out Try.underlying35 rfl t1 ?_) | (refine wpList_build1 rfl _ rfl V (bs k) HV.out rfl ?_) | (at_builtin; refine wpList_append_srcN rfl _ _ 43 rfl w3.heap.size 35 i35 _ 19 152 Try.underlying43 I35.out Z35.out S35.out B35.out (buArr_size bk0) (by omega) rfl (HO5.out.alloc _) rfl (src_row w5 V 35 t4) (by intro u hu; have := t2; rw [Array.all_eq_true_iff_forall_mem] at this; exact this u (by simpa using hu)) (by simp only [maxLen]; omega) (by omega) (HB5.out.alloc HB5.out.size (.cells V 35)).size ?_; intro v' w6 hown' hgrow _; have HB6 := Lib.hid ((HB5.out.alloc HB5.out.size (.cells V 35)).grown hgrow (HB5.out.alloc HB5.out.size (.cells V 35)).size (fun j hj => (HO5.out.lt j hj).1)); rw [HFL.out] at hown'; have HO6 := Lib.hid hown'; clear hown' hgrow))
          go_roundw
          case rel => exact ⟨k + 1, by omega, by go_num, HO6.out, HB6.out⟩
          case measure => simp [intOf]; omega
        · obtain rfl : k = n := by omega
          clear hlt hk
          obtain ⟨g9, cap9, h9⟩ : ∃ g cap, u9 = .slice (some ⟨g, 0, none⟩) k cap := by
            rcases HO.out.2 with ⟨_, h⟩ | ⟨g, cap, _, h, _⟩
            · omega
            · exact ⟨g, cap, h⟩
          subst h9
          have HT4 := Lib.hid (HT3.out.below HBk.out)
          obtain ⟨L2, hL2⟩ := burst_l hb H3.out
          obtain ⟨L4, hL4⟩ := regen_l hb H3.out (HUP.out b hb).2
          have HBU := Lib.hid (FBurst_any HT4.out (b : Int))
          rw [hL2] at HBU
          have HRE := Lib.hid (fun (w' : World) (h : IsFo w' base fb lv k (bs2D k bs b)) => FRegen_any h (b : Int) (bs b 18))
          rw [hL4] at HRE
          have HP4 := Lib.hid (fun (i : Nat) (hi : i < k) => (⟨bs4_up hb H3.out (HUP.out b hb).2 hi (o := 0) (by omega) (by omega) (by omega), wsArr_congr (s := maskOf (bs4D k bs b i)) (t := maskOf (bs i)) (fun o ho => bs4_up hb H3.out (HUP.out b hb).2 hi (o := o + 1) (by omega) (by omega) (by omega)), fun hd => bs4_st HUP.out hb H3.out hi hd⟩ : bs4D k bs b i 0 = bs i 0 ∧ wsArr (maskOf (bs4D k bs b i)) = wsArr (maskOf (bs i)) ∧ (bs4D k bs b i 17 ≠ bs i 17 → bs4D k bs b i 17 = 2 ∧ insD k (bs4D k bs b) i b = true)))
          have HPB := Lib.hid (show buArr (bs4D k bs b b) = U by rw [HU.out]; exact buArr_congr fun o ho => bs4_b hb H3.out (HUP.out b hb).2 ho)
          have HNU := Lib.hid (fun w => ne_bk_same (bs b) w)
          unfold buV at HNU
          rw [← HU.out] at HNU
          obtain ⟨hm, hhm⟩ : ∃ hm, bs b 18 = hm := ⟨_, rfl⟩
          rw [hhm] at HRE H18
          generalize bs2D k bs b = b2 at *
          generalize bs4D k bs b = b4 at *
          clear hL2 hL4 hhm H3 HU
          go_wp2_with fail
          refine HBU.out.mono ?_
          rintro r w5 ⟨v5, rfl, -, hT5, hF5⟩
          have HF5 := Lib.hid hF5
          have HT5 := Lib.hid hT5
          have HA5 := Lib.hid (show w5.heap[A]? = some (.cells U 35 (0, 0)) from (hF5.block A (Nat.lt_of_lt_of_le HNA.out.2 HBk.out.size) HNA.out.1).trans ((HBk.out.block A HNA.out.2).trans HA3.out))
          clear hT5 hF5 HBU
          have c18 := H18.out _ _ HA5.out
          go_wp2_with fail
          refine (HRE.out _ HT5.out).mono ?_
          rintro r w6 ⟨v6, rfl, -, hT6, hF6⟩
          have HF6 := Lib.hid (HF5.out.trans hF6)
          have HT6 := Lib.hid hT6
          have HA6 := Lib.hid (show w6.heap[A]? = some (.cells U 35 (0, 0)) from (hF6.block A (Array.getElem?_eq_some_iff.1 HA5.out).1 HNA.out.1).trans HA5.out)
          have HO6 := Lib.hid (own_of_heap HO.out fun g hg => HF6.out.block g (HO.out.lt g hg).2 (foS_low HT3.out (HO.out.lt g hg).1))
          have HB6 := Lib.hid (below_foS HT4.out HFB.out (HB3.out.trans (HBk.out.mono HB3.out.size)) HF6.out)
          clear hT6 hF6 HRE HF5 HT5 HA5 c18 HO HBk HT4 HT3 HB3 HA3 HF6
          go_wp2_with fail
          go_loopw [76] (fun s wr => ∃ i : Nat, i ≤ k ∧ s = .int .i64 i ∧ Below w6.heap.size w6 wr) (fun s _ => k - (intOf s).toNat)
          case atStart => exact ⟨0, Nat.zero_le _, rfl, Below.refl _ _⟩
          case round =>
            obtain ⟨i, hi, rfl, hBi⟩ := hrel
            have HBi := Lib.hid hBi
            clear hBi
            by_cases hlt : i < k
            · have hltI : (i : Int) < k := by omega
              have HGET := Lib.hid (FGet_any (HT6.out.below HBi.out) i)
              rw [show getD k b4 (i : Int) = (true, b4 i) by unfold getD; rw [if_pos ⟨by omega, by omega⟩, Int.toNat_natCast]] at HGET
              have t1 := size35 (b4 i)
              have t2 := one35 (b4 i)
              have t3 : Z.size = (buArr (b4 i)).size := by rw [zs, buArr_size]
              have y1 := size35 (bs i)
              have y2 := one35 (bs i)
              have y3 : Z.size = (buArr (bs i)).size := by rw [zs, buArr_size]
              have y4 : (Try.prog.info? 35).map (·.size) = some (buArr (bs i)).toList.length := by rw [Array.length_toList]; exact size35 _
              have hRow := row_in HO6.out hlt
              unfold buV at HGET
              obtain ⟨p0, p1, p2⟩ := HP4.out i hlt
              have HPX := Lib.hid (fun (h : i = b) => show buArr (b4 i) = U by rw [h]; exact HPB.out)
              have KX := Lib.hid (fun (w' : World) (X : Nat) (h : w'.heap[X]? = some (.cells (buArr (b4 i)) 35 (0, 0))) => show w'.cell? ⟨X, 0, none⟩ = some (.int .i64 (bs i 0)) ∧ w'.cell? ⟨X, 17, none⟩ = some (.int .i64 (b4 i 17)) ∧ w'.rangeAt X 1 (wsArr (maskOf (bs i))).toList from
                ⟨by rw [← p0]; exact cell_of h (buArr_at _ (by omega)), cell_of h (buArr_at _ (by omega)), by rw [← p1]; exact mask_in h⟩)
              have KY := Lib.hid (fun (w' : World) (X : Nat) (h : w'.heap[X]? = some (.cells (buArr (bs i)) 35 (0, 0))) => show w'.cell? ⟨X, 0, none⟩ = some (.int .i64 (bs i 0)) ∧ w'.cell? ⟨X, 17, none⟩ = some (.int .i64 (bs i 17)) ∧ w'.rangeAt X 1 (wsArr (maskOf (bs i))).toList from
                ⟨cell_of h (buArr_at _ (by omega)), cell_of h (buArr_at _ (by omega)), mask_in h⟩)
              have HNM := fun w => neq_ws (maskOf (bs i)) (maskOf (bs i)) w
              rw [eqW_self] at HNM
              unfold wsV at HNM
              have m1 : (Try.prog.info? 29).map (·.size) = some (wsArr (maskOf (bs i))).toList.length := by rw [Array.length_toList]; exact size29 _
              have HP2 := Lib.hid p2
              obtain ⟨VX, hVX⟩ : ∃ V, V = buArr (b4 i) := ⟨_, rfl⟩
              obtain ⟨VY, hVY⟩ : ∃ V, V = buArr (bs i) := ⟨_, rfl⟩
              obtain ⟨M, hM⟩ : ∃ M, M = wsArr (maskOf (bs i)) := ⟨_, rfl⟩
              simp only [← hVX] at t1 t2 t3 HGET KX HPX
              simp only [← hVY] at y1 y2 y3 y4 hRow KY
              simp only [← hM] at KX KY HNM m1
              have HR := Lib.hid hRow
              obtain ⟨u0, hu0⟩ : ∃ u, bs i 0 = u := ⟨_, rfl⟩
              obtain ⟨sx, hsx⟩ : ∃ u, b4 i 17 = u := ⟨_, rfl⟩
              obtain ⟨sy, hsy⟩ : ∃ u, bs i 17 = u := ⟨_, rfl⟩
              simp only [hu0] at KX KY
              simp only [hsx] at KX HP2
              simp only [hsy] at KY HP2
              clear hVX hVY hM hRow p0 p1 p2 hu0 hsx hsy
              go_wp2_with fail
              refine HGET.out.mono ?_
              rintro r w7 ⟨rfl, hb7⟩
              have HB7 := Lib.hid (HBi.out.trans (hb7.mono HBi.out.size))
              clear hb7 HGET HBi
              go_upto_region 20 with (refine wpList_store_row rfl 35 _ _ rfl w7.heap.size VX rfl rfl 35 Z (heap_alloc_new _ _) t1 t3 t2 ?_; rw [setRow_new])
              obtain ⟨w8, hw8⟩ : ∃ w8, w7.alloc (.cells VX 35) = w8 := ⟨_, rfl⟩
              obtain ⟨X, hX⟩ : ∃ X, w7.heap.size = X := ⟨_, rfl⟩
              have HX8 := Lib.hid (show w8.heap[X]? = some (.cells VX 35 (0, 0)) by rw [← hw8, ← hX]; exact heap_alloc_new _ _)
              have HB8 := Lib.hid (show Below w6.heap.size w6 w8 by rw [← hw8]; exact HB7.out.alloc HB7.out.size _)
              have HR8 := Lib.hid (rangeAt_below (HO6.out.lt g9 rfl).2 HB8.out HR.out)
              rw [hw8, hX]
              clear hw8 hX HB7 HR
              go_upto_region 21 with (first | (refine wpList_load_mid rfl 35 _ rfl g9 (i * 19) rfl VY.toList _ HR8.out Try.underlying35 rfl y4 ?_; rw [Array.toArray_toList]) | (refine wpList_store_row rfl 35 _ _ rfl w8.heap.size VY rfl rfl 35 Z (heap_alloc_new _ _) y1 y3 y2 ?_; rw [setRow_new]))
              obtain ⟨w9, hw9⟩ : ∃ w9, w8.alloc (.cells VY 35) = w9 := ⟨_, rfl⟩
              obtain ⟨Y, hY⟩ : ∃ Y, w8.heap.size = Y := ⟨_, rfl⟩
              have HY9 := Lib.hid (show w9.heap[Y]? = some (.cells VY 35 (0, 0)) by rw [← hw9, ← hY]; exact heap_alloc_new _ _)
              have HX9 := Lib.hid (show w9.heap[X]? = some (.cells VX 35 (0, 0)) by rw [← hw9, heap_alloc_old _ _ (Array.getElem?_eq_some_iff.1 HX8.out).1]; exact HX8.out)
              have HB9 := Lib.hid (show Below w6.heap.size w6 w9 by rw [← hw9]; exact HB8.out.alloc HB8.out.size _)
              have HA9 := Lib.hid ((HB9.out.block A (Array.getElem?_eq_some_iff.1 HA6.out).1).trans HA6.out)
              rw [hw9, hY]
              clear hw9 hY HB8 HR8 HX8
              obtain ⟨cx0, cx17, mx⟩ := KX.out _ _ HX9.out
              obtain ⟨cy0, cy17, my⟩ := KY.out _ _ HY9.out
              have MX := Lib.hid mx
              have MY := Lib.hid my
              have HIN := Lib.hid (FInside_any (HT6.out.below HB9.out) i b)
              have HNU' := HNU.out
              clear mx my KX KY t2 t3 y2 y3 y4
              by_cases hst : sx = sy
              · subst hst
                clear HP2 HIN
                by_cases hib : i = b
                · have hvu := HPX.out hib
                  subst hvu
                  clear HPX
                  subst hib
                  go_wp2_with (first | ((with_reducible refine wpList_mid_want (o := ⟨some 115, _, _, _, _, _⟩) 29 (.tmp 114) ?kb1151 X 1 ?kb1152 M _ MX.out Try.underlying29 ?kb1156 m1 ?kb1158 ?kb1159); (case kb1151 => rfl); (case kb1152 => (first | rfl | go_simp)); (case kb1156 => rfl)) | ((with_reducible refine wpList_mid_want (o := ⟨some 117, _, _, _, _, _⟩) 29 (.tmp 116) ?kc1171 Y 1 ?kc1172 M _ MY.out Try.underlying29 ?kc1176 m1 ?kc1178 ?kc1179); (case kc1171 => rfl); (case kc1172 => (first | rfl | go_simp)); (case kc1176 => rfl)) | ((with_reducible refine wpList_load_want (o := ⟨some 125, _, _, _, _, _⟩) 35 (.tmp 18) ?kd1251 X ?kd1252 35 VX (0, 0) _ HX9.out Try.underlying35 ?kd1256 t1 ?kd1258 ?kd1259); (case kd1251 => rfl); (case kd1252 => (first | rfl | go_simp)); (case kd1256 => rfl)) | ((with_reducible refine wpList_load_want (o := ⟨some 126, _, _, _, _, _⟩) 35 (.tmp 7) ?ke1261 A ?ke1262 35 VX (0, 0) _ HA9.out Try.underlying35 ?ke1266 t1 ?ke1268 ?ke1269); (case ke1261 => rfl); (case ke1262 => (first | rfl | go_simp)); (case ke1266 => rfl)))
                  go_roundw
                  case rel => exact ⟨i + 1, by omega, by go_num, HB9.out⟩
                  case measure => simp [intOf]; omega
                · have hibI : ¬ (i : Int) = b := by omega
                  clear hib HPX
                  go_wp2_with (first | ((with_reducible refine wpList_mid_want (o := ⟨some 115, _, _, _, _, _⟩) 29 (.tmp 114) ?kf1151 X 1 ?kf1152 M _ MX.out Try.underlying29 ?kf1156 m1 ?kf1158 ?kf1159); (case kf1151 => rfl); (case kf1152 => (first | rfl | go_simp)); (case kf1156 => rfl)) | ((with_reducible refine wpList_mid_want (o := ⟨some 117, _, _, _, _, _⟩) 29 (.tmp 116) ?kg1171 Y 1 ?kg1172 M _ MY.out Try.underlying29 ?kg1176 m1 ?kg1178 ?kg1179); (case kg1171 => rfl); (case kg1172 => (first | rfl | go_simp)); (case kg1176 => rfl)))
                  go_roundw
                  case rel => exact ⟨i + 1, by omega, by go_num, HB9.out⟩
                  case measure => simp [intOf]; omega
              · obtain ⟨h2, hins⟩ := HP2.out hst
                subst h2
                rw [hins] at HIN
                have hst' : ¬ (2 : Int) = sy := hst
                clear HP2 hins
                have HPX2 := Lib.hid HPX.out
                by_cases hib : i = b
                · have hvu := HPX.out hib
                  subst hvu
                  clear HPX HPX2
                  subst hib
                  go_wp2_with fail
                  refine HIN.out.mono ?_
                  rintro r w' ⟨rfl, rfl⟩
                  go_wp2_with (first | ((with_reducible refine wpList_mid_want (o := ⟨some 115, _, _, _, _, _⟩) 29 (.tmp 114) ?kh1151 X 1 ?kh1152 M _ MX.out Try.underlying29 ?kh1156 m1 ?kh1158 ?kh1159); (case kh1151 => rfl); (case kh1152 => (first | rfl | go_simp)); (case kh1156 => rfl)) | ((with_reducible refine wpList_mid_want (o := ⟨some 117, _, _, _, _, _⟩) 29 (.tmp 116) ?ka1171 Y 1 ?ka1172 M _ MY.out Try.underlying29 ?ka1176 m1 ?ka1178 ?ka1179); (case ka1171 => rfl); (case ka1172 => (first | rfl | go_simp)); (case ka1176 => rfl)) | ((with_reducible refine wpList_load_want (o := ⟨some 125, _, _, _, _, _⟩) 35 (.tmp 18) ?kb1251 X ?kb1252 35 VX (0, 0) _ HX9.out Try.underlying35 ?kb1256 t1 ?kb1258 ?kb1259); (case kb1251 => rfl); (case kb1252 => (first | rfl | go_simp)); (case kb1256 => rfl)) | ((with_reducible refine wpList_load_want (o := ⟨some 126, _, _, _, _, _⟩) 35 (.tmp 7) ?kc1261 A ?kc1262 35 VX (0, 0) _ HA9.out Try.underlying35 ?kc1266 t1 ?kc1268 ?kc1269); (case kc1261 => rfl); (case kc1262 => (first | rfl | go_simp)); (case kc1266 => rfl)))
                  go_roundw
                  case rel => exact ⟨i + 1, by omega, by go_num, HB9.out⟩
                  case measure => simp [intOf]; omega
                · have hibI : ¬ (i : Int) = b := by omega
                  clear hib HPX HPX2
                  go_wp2_with fail
                  refine HIN.out.mono ?_
                  rintro r w' ⟨rfl, rfl⟩
                  go_wp2_with (first | ((with_reducible refine wpList_mid_want (o := ⟨some 115, _, _, _, _, _⟩) 29 (.tmp 114) ?kd1151 X 1 ?kd1152 M _ MX.out Try.underlying29 ?kd1156 m1 ?kd1158 ?kd1159); (case kd1151 => rfl); (case kd1152 => (first | rfl | go_simp)); (case kd1156 => rfl)) | ((with_reducible refine wpList_mid_want (o := ⟨some 117, _, _, _, _, _⟩) 29 (.tmp 116) ?ke1171 Y 1 ?ke1172 M _ MY.out Try.underlying29 ?ke1176 m1 ?ke1178 ?ke1179); (case ke1171 => rfl); (case ke1172 => (first | rfl | go_simp)); (case ke1176 => rfl)))
                  go_roundw
                  case rel => exact ⟨i + 1, by omega, by go_num, HB9.out⟩
                  case measure => simp [intOf]; omega
            · obtain rfl : i = k := by omega
              clear hlt hi
              go_wp2_with fail
              refine (lives_any _).mono ?_
              rintro r w8 ⟨rfl, hb8⟩
              have HB8 := Lib.hid (HB6.out.trans ((HBi.out.mono HB6.out.size).trans (hb8.mono (Nat.le_trans HB6.out.size HBi.out.size))))
              clear hb8
              go_wp2_with fail
              go_ret
              exact ⟨rfl, HB8.out⟩
    · have H3 := Lib.hid h3
      clear H17 H18
      go_wp2_with fail
      refine (lives_any _).mono ?_
      rintro r w8 ⟨rfl, hb8⟩
      have HB8 := Lib.hid (HB3.out.trans (hb8.mono HB3.out.size))
      clear hb8
      go_wp2_with fail
      go_ret
      exact ⟨rfl, HB8.out⟩
  · rw [show getD n bs b = (false, bk0) by unfold getD; rw [if_neg hin]] at HGET
    have s1 := size35 bk0
    have s2 := one35 bk0
    unfold buV at HGET
    rw [← HZ.out] at HGET s1 s2
    clear hin
    go_wp2_with fail
    refine HGET.out.mono ?_
    rintro r w2 ⟨rfl, hb2⟩
    have HB2 := Lib.hid (HB1.out.trans (hb2.mono HB1.out.size))
    clear hb2 HGET HB1
    go_wp2_with (refine wpList_store_row rfl 35 _ _ rfl w2.heap.size Z rfl rfl 35 Z (heap_alloc_new _ _) s1 rfl s2 ?_; rw [setRow_new])
    refine (lives_any _).mono ?_
    rintro r w8 ⟨rfl, hb8⟩
    have HB8 := Lib.hid ((HB2.out.alloc HB2.out.size _).trans (hb8.mono (HB2.out.alloc HB2.out.size _).size))
    clear hb8
    go_wp2_with fail
    go_ret
    exact ⟨rfl, HB8.out⟩
end Go.Proofs.Ytmbdhpibkhgkcaa
