/- The document's Turn (package pinfoldref13): refusals, Seal, Place. No condition. -/
import Derived.Test.YtmbdhpibkhgkcaaXa
import Derived.Test.YtmbdhpibkhgkcaaU
namespace Go.Proofs.Ytmbdhpibkhgkcaa
open Go.RowKit

/-- The same, in a region that draws nothing. -/
theorem wpList_append_srcN {P : Program} {ops : Array Oper} {rest : List Oper} {o : Oper} {a : Act} {w : World} {Q : Exit → Act → World → Prop}
    (hgd : o.guard = none) (s x : Operand) (t : Nat) (ho : o.op = .call { callee := .builtin .append, args := #[s, x], argTypes := #[t, t] })
    (base e : Nat) (i : TypeInfo) (z : Value) (sz bytes : Nat) (ht : P.underlying t = some (.slice e)) (hi : P.info? e = some i) (hz : i.zero = some z)
    (hsize : i.size = sz) (hby : i.bytes = bytes) (hzs : z.cells.size = sz) (hs0 : 0 < sz) {v : Value} {n : Nat} {xs : List Value} (hv : a.eval s = v) (hown : w.ownsRow base e sz v n xs) {u : Value} {m : Nat} {news : List Value} (hu : a.eval x = u) (hs : SrcN w u m sz news)
    (h1 : ∀ x ∈ news, x.oneCell' = true) (h63 : n + m ≤ maxLen) (hbytes : (n + m) * bytes ≤ 140737488355328) (hbase : base ≤ w.heap.size)
    (h : ∀ v' w', w'.ownsRow base e sz v' (n + m) (xs ++ news) → w.grownBy w' v.ownBlock → (v'.ownBlock = v.ownBlock ∨ v'.ownBlock = some w.heap.size) → wpList P ops Q rest (a.put o.dst v') w') :
    wpList P ops Q (o :: rest) a w := wpList_plain hgd fun _ hK => by
  obtain ⟨v', w', hr, h2, h3, h4⟩ := run_append_srcN (P := P) base t o.type e i z sz bytes ht hi hz hsize hby hzs hs0 hown hs h1 h63 hbytes hbase
  unfold Oper.wp
  simp [execOp, ho, resolve, invoke, builtin, hv, hu, hr, Result.andThen]
  exact hK _ _ (h v' w' h2 h3 h4)


/-- A slice of no bubble. -/
theorem wpList_build0 {ops : Array Oper} {rest : List Oper} {o : Oper} {a : Act} {w : World} {Q : Exit → Act → World → Prop} (hgd : o.guard = none) (ho : o.op = .buildSlice 43 0 #[])
    (h : wpList Try.prog ops Q rest (a.put o.dst (.slice (some ⟨w.heap.size, 0, none⟩) 0 0)) (w.alloc (.cells #[] 35))) : wpList Try.prog ops Q (o :: rest) a w := wpList_plain hgd fun _ hK => by
  obtain ⟨i, hi, hz, hs, hb⟩ := info_parts Try.info35
  have hr : (Instr.buildSlice 43 0 #[]).run Try.prog w = .ok (.slice (some ⟨w.heap.size, 0, none⟩) 0 0) (w.alloc (.cells #[] 35)) := by
    simp [Instr.buildSlice, run_underlying Try.underlying43, sizeOf, typeInfo, hi, Instr.fill, newRow]
    rw [show Array.map (fun _ => (default : Value)) (Array.range 0) = #[] from Array.eq_empty_of_size_eq_zero (by simp)]
  unfold Oper.wp execOp
  simp only [ho, Sem.run_bind, List.map_toArray, List.map_nil, hr, Result.andThen_ok]
  exact hK _ _ h

theorem own_wcell {w : World} {base n g cap i o : Nat} {bs : Nat → Bk} (h : w.ownsRow base 35 19 (.slice (some ⟨g, 0, none⟩) n cap) n (flat bs n)) (hi : i < n) (ho : o < 19) {k : IntKind} (hk : buKind o = k) (x : Int) :
    (w.setCell ⟨g, i * 19 + o, none⟩ (.int k x)).ownsRow base 35 19 (.slice (some ⟨g, 0, none⟩) n cap) n (flat (updT bs i (setO (bs i) o x)) n) := by
  subst hk
  have hst := (h.stored (i * 19 + o) (.int (buKind o) x)).1
  rw [flat_set1 bs hi ho x] at hst
  exact hst
theorem own_cell {w : World} {base n g cap i o : Nat} {bs : Nat → Bk} (h : w.ownsRow base 35 19 (.slice (some ⟨g, 0, none⟩) n cap) n (flat bs n)) (hi : i < n) (ho : o < 19) : w.cell? ⟨g, i * 19 + o, none⟩ = some (.int (buKind o) (bs i o)) := by
  rw [h.cellAt (i * 19 + o) (by omega)]
  exact flat_at bs hi ho

def RTurnTo (w : World) (v : Value) (n : Nat) (q : Int × List Nat × (Nat → Bk)) (r : Ending) (w' : World) : Prop :=
  ∃ v' u, r = .returned (.tuple #[v', u, .int .i64 q.1]) ∧ SlB w' v' n q.2.2 ∧ (∀ g, v'.ownBlock = some g → v.ownBlock = some g ∨ w.heap.size ≤ g) ∧ w'.ownsRow w.heap.size 3 1 u q.2.1.length (intsL q.2.1) ∧ Below w.heap.size w w'

section
variable {w w' : World} {n : Nat} {v : Value} {bs : Nat → Bk}

set_option maxRecDepth 100000 in
theorem RT_no (h : SlB w v n bs) (kind b home : Int) (hb : isB n b = false) : Calls Try.prog 34 #[v, .int .i64 kind, .int .i64 b, .int .i64 home] w (RTurnTo w v n (3, [], bs)) := by
  have HI := Lib.hid (RIs_any h b)
  rw [hb] at HI
  have H := Lib.hid h
  clear h hb
  go_enter Try.func34, Try.ntmps34
  go_wp2_with fail
  refine HI.out.mono ?_
  rintro r w' ⟨rfl, rfl⟩
  go_wp2_with fail
  go_ret3
  exact ⟨_, _, rfl, H.out, fun g hg => .inl hg, World.ownsRow_nil _ _ _ _, Below.refl _ _⟩

set_option maxRecDepth 100000 in
set_option maxHeartbeats 4000000 in
theorem RT_seal_no (h : SlB w v n bs) (hups : Ups n bs) (hn : n ≤ 32) (b : Nat) (hb : b < n) (home : Int) (h1 : bs b 17 ≠ 1) : Calls Try.prog 34 #[v, .int .i64 2, .int .i64 b, .int .i64 home] w (RTurnTo w v n (5, [], bs)) := by
  have HI := Lib.hid (RIs_any h b)
  rw [show isB n (b : Int) = true by unfold isB; exact decide_eq_true ⟨by omega, by omega⟩] at HI
  have hbI : (b : Int) < n := by omega
  have hup := hups b hb
  have HU := Lib.hid hups
  have HS := Lib.hid h
  have HBW0 := Lib.hid ((Below.refl w.heap.size w).alloc (Nat.le_refl _) (.cells #[] 35))
  have HO1 := Lib.hid (show (w.alloc (.cells #[] 35)).ownsRow w.heap.size 35 19 (.slice (some ⟨w.heap.size, 0, none⟩) 0 0) 0 [] from World.ownsRow_made w #[] 0 (Nat.le_refl _) (by decide) rfl)
  have HS1 := Lib.hid ((h.below HBW0.out).src)
  have HPO := Lib.hid (flat_one bs n)
  obtain ⟨i35, I35, Z35, S35, B35⟩ := info_parts Try.info35
  have I35 := Lib.hid I35
  have Z35 := Lib.hid Z35
  have S35 := Lib.hid S35
  have B35 := Lib.hid B35
  obtain ⟨a, cap, rfl, hg⟩ := h
  obtain ⟨g, rfl, hx⟩ := hg (by omega)
  have HX := Lib.hid hx
  have HGL := Lib.hid (show g < w.heap.size from World.block_lt_of_cell? _ _ (hx b 0 hb (by omega)))
  clear hx hg hups
  go_enter Try.func34, Try.ntmps34
  go_wp2_with fail
  refine HI.out.mono ?_
  rintro r w' ⟨rfl, rfl⟩
  go_upto_region 4 with (first | (refine wpList_build0 rfl rfl ?_) | (at_builtin; refine wpList_append_srcN rfl _ _ 43 rfl w.heap.size 35 i35 _ 19 152 Try.underlying43 I35.out Z35.out S35.out B35.out (buArr_size bk0) (by omega) rfl HO1.out rfl HS1.out HPO.out (by simp only [maxLen]; omega) (by omega) HBW0.out.size ?_; intro v1 W3 hown1 hgrow1 _; have HB3 := Lib.hid (HBW0.out.grown hgrow1 HBW0.out.size (fun j hj => (HO1.out.lt j hj).1)); rw [Nat.zero_add, List.nil_append] at hown1; have HO3 := Lib.hid hown1; clear hown1 hgrow1))
  obtain ⟨G, gcap, hv1⟩ : ∃ G gcap, v1 = .slice (some ⟨G, 0, none⟩) n gcap := by
    obtain ⟨n', rfl⟩ : ∃ n', n = n' + 1 := ⟨n - 1, by omega⟩
    exact ownsRow_succ HO3.out
  subst hv1
  have hGb := (HO3.out.lt G rfl).1
  have HK := Lib.hid (fun (w' : World) (hb' : Below w.heap.size w w') (i o : Nat) (hi : i < n) (ho : o < 19) => show w'.cell? ⟨g, i * 19 + o, none⟩ = some (.int (buKind o) (bs i o)) from (hb'.cell (p := ⟨g, i * 19 + o, none⟩) HGL.out).trans (HX.out i o hi ho))
  have c17 := HK.out W3 HB3.out b 17 hb (by omega)
  have c0 := HK.out W3 HB3.out b 0 hb (by omega)
  rw [show buKind 17 = .i64 from rfl] at c17
  rw [show buKind 0 = .i64 from rfl, Nat.add_zero] at c0
  clear HO1 HS1 HPO HBW0 HI
  have n1 : (bs b 17 == 1) = false := by simpa using h1
  clear h1
  generalize bs b 17 = st at *
  have HEND := Lib.hid (SlB.below HS.out HB3.out)
  go_wp2_with fail
  go_ret3
  exact ⟨_, _, rfl, HEND.out, fun g hg => .inl hg, World.ownsRow_nil _ _ _ _, HB3.out⟩

set_option maxRecDepth 100000 in
set_option maxHeartbeats 4000000 in
theorem RT_seal (h : SlB w v n bs) (hups : Ups n bs) (hn : n ≤ 32) (b : Nat) (hb : b < n) (home : Int) (h1 : bs b 17 = 1) : Calls Try.prog 34 #[v, .int .i64 2, .int .i64 b, .int .i64 home] w (RTurnTo w v n (0, [b], updT bs b (setO (bs b) 17 2))) := by
  have HI := Lib.hid (RIs_any h b)
  rw [show isB n (b : Int) = true by unfold isB; exact decide_eq_true ⟨by omega, by omega⟩] at HI
  have hbI : (b : Int) < n := by omega
  have hup := hups b hb
  have HU := Lib.hid hups
  have HS := Lib.hid h
  have HBW0 := Lib.hid ((Below.refl w.heap.size w).alloc (Nat.le_refl _) (.cells #[] 35))
  have HO1 := Lib.hid (show (w.alloc (.cells #[] 35)).ownsRow w.heap.size 35 19 (.slice (some ⟨w.heap.size, 0, none⟩) 0 0) 0 [] from World.ownsRow_made w #[] 0 (Nat.le_refl _) (by decide) rfl)
  have HS1 := Lib.hid ((h.below HBW0.out).src)
  have HPO := Lib.hid (flat_one bs n)
  obtain ⟨i35, I35, Z35, S35, B35⟩ := info_parts Try.info35
  have I35 := Lib.hid I35
  have Z35 := Lib.hid Z35
  have S35 := Lib.hid S35
  have B35 := Lib.hid B35
  obtain ⟨a, cap, rfl, hg⟩ := h
  obtain ⟨g, rfl, hx⟩ := hg (by omega)
  have HX := Lib.hid hx
  have HGL := Lib.hid (show g < w.heap.size from World.block_lt_of_cell? _ _ (hx b 0 hb (by omega)))
  clear hx hg hups
  go_enter Try.func34, Try.ntmps34
  go_wp2_with fail
  refine HI.out.mono ?_
  rintro r w' ⟨rfl, rfl⟩
  go_upto_region 4 with (first | (refine wpList_build0 rfl rfl ?_) | (at_builtin; refine wpList_append_srcN rfl _ _ 43 rfl w.heap.size 35 i35 _ 19 152 Try.underlying43 I35.out Z35.out S35.out B35.out (buArr_size bk0) (by omega) rfl HO1.out rfl HS1.out HPO.out (by simp only [maxLen]; omega) (by omega) HBW0.out.size ?_; intro v1 W3 hown1 hgrow1 _; have HB3 := Lib.hid (HBW0.out.grown hgrow1 HBW0.out.size (fun j hj => (HO1.out.lt j hj).1)); rw [Nat.zero_add, List.nil_append] at hown1; have HO3 := Lib.hid hown1; clear hown1 hgrow1))
  obtain ⟨G, gcap, hv1⟩ : ∃ G gcap, v1 = .slice (some ⟨G, 0, none⟩) n gcap := by
    obtain ⟨n', rfl⟩ : ∃ n', n = n' + 1 := ⟨n - 1, by omega⟩
    exact ownsRow_succ HO3.out
  subst hv1
  have hGb := (HO3.out.lt G rfl).1
  have HK := Lib.hid (fun (w' : World) (hb' : Below w.heap.size w w') (i o : Nat) (hi : i < n) (ho : o < 19) => show w'.cell? ⟨g, i * 19 + o, none⟩ = some (.int (buKind o) (bs i o)) from (hb'.cell (p := ⟨g, i * 19 + o, none⟩) HGL.out).trans (HX.out i o hi ho))
  have c17 := HK.out W3 HB3.out b 17 hb (by omega)
  have c0 := HK.out W3 HB3.out b 0 hb (by omega)
  rw [show buKind 17 = .i64 from rfl] at c17
  rw [show buKind 0 = .i64 from rfl, Nat.add_zero] at c0
  clear HO1 HS1 HPO HBW0 HI
  rw [h1] at c17
  go_upto_region 11 with fail
  obtain ⟨W4, hW4⟩ : ∃ W4, W3.alloc (.cells #[.int .i64 b] 3) = W4 := ⟨_, rfl⟩
  obtain ⟨T, hT⟩ : ∃ T, W3.heap.size = T := ⟨_, rfl⟩
  have HB4 := Lib.hid (show Below w.heap.size w W4 by rw [← hW4]; exact HB3.out.alloc HB3.out.size _)
  have HO4 := Lib.hid (show W4.ownsRow w.heap.size 35 19 (.slice (some ⟨G, 0, none⟩) n gcap) n (flat bs n) by rw [← hW4]; exact HO3.out.alloc _)
  have HT4 := Lib.hid (show W4.ownsRow w.heap.size 3 1 (.slice (some ⟨T, 0, none⟩) 1 1) 1 (intsL [b]) by rw [← hW4, ← hT]; exact World.ownsRow_lit W3 #[.int .i64 b] 1 HB3.out.size (by decide) rfl)
  have hTG : T ≠ G := by have := (HO3.out.lt G rfl).2; omega
  rw [hW4, hT]
  clear hW4 hT HO3 HB3 c17 c0
  have d17 := own_cell HO4.out hb (o := 17) (by omega)
  have d18 := own_cell HO4.out hb (o := 18) (by omega)
  rw [show buKind 17 = .i64 from rfl] at d17
  rw [show buKind 18 = .i64 from rfl] at d18
  have f17 : W4.frozen? ⟨G, b * 19 + 17, none⟩ = false := HO4.out.frozenAt _
  have f18 : W4.frozen? ⟨G, b * 19 + 18, none⟩ = false := HO4.out.frozenAt _
  have HW := Lib.hid (own_wcell HO4.out hb (o := 17) (by omega) (k := IntKind.i64) rfl 2)
  have HBE := Lib.hid (HB4.out.setCell (p := ⟨G, b * 19 + 17, none⟩) hGb (.int .i64 2))
  have HTE := Lib.hid (own_of_heap (w' := W4.setCell ⟨G, b * 19 + 17, none⟩ (.int .i64 2)) HT4.out fun j hj => Below.heap_setCell _ _ _ _ (by cases hj; exact hTG))
  go_wp2_with fail
  go_ret3
  exact ⟨_, _, rfl, SlB.own HW.out, fun g' hg' => .inr (HW.out.lt g' hg').1, HTE.out, HBE.out⟩
end
end Go.Proofs.Ytmbdhpibkhgkcaa
