/- Whether two sets are the same. No condition. -/
import Derived.Test.YtmbdhpibkhgkcaaG
import Derived.Laws.StructEq
import Derived.ChangeKeysEq
namespace Go.Proofs.Ytmbdhpibkhgkcaa
open Go.RowKit

theorem info27 : ∃ i, Try.prog.info? 27 = some i := Option.isSome_iff_exists.1 (by kernel_rfl)
theorem cells27 : Try.prog.cellsOf 27 = 1 := by kernel_rfl

/-- Whether two sets are the same. -/
def eqW (s t : Ws) : Bool := (List.range 16).all fun o => s o == t o
theorem eqW_self (s : Ws) : eqW s s = true := by simp [eqW]
theorem eqW_iff {s t : Ws} : eqW s t = true ↔ ∀ o, o < 16 → s o = t o := by simp [eqW]

theorem eq_items (d : Nat) (s t : Ws) (w : World) : ∀ is : List Nat, (∀ i ∈ is, i < 16) → (Op.eqItems (d + 1) 27 1 (wsArr s) (wsArr t) is).run Try.prog w = .ok (is.all fun o => s o == t o) w
  | [], _ => by simp [Op.eqItems]
  | i :: is, h => by
    have hi := h i (by simp)
    have ih := eq_items d s t w is (fun j hj => h j (by simp [hj]))
    have a1 := wsArr_at s hi
    have a2 := wsArr_at t hi
    unfold Op.eqItems
    generalize wsArr s = S at *
    generalize wsArr t = T at *
    by_cases e : s i = t i
    · simp [go_sem, Try.underlying27, a1, a2, e, ih]
    · simp [go_sem, Try.underlying27, a1, a2, e, ih]

theorem eq_in_ws (d : Nat) (s t : Ws) (w : World) : (Op.equalIn (d + 2) 29 (.agg (wsArr s)) (.agg (wsArr t))).run Try.prog w = .ok (eqW s t) w := by
  obtain ⟨i, hi⟩ := info27
  rw [run_equalIn_array w (d + 1) _ _ Try.underlying29 hi, cells27]
  exact eq_items d s t w (List.range 16) (fun i h => List.mem_range.1 h)
theorem eql_ws (s t : Ws) (w : World) : (binOp .eql 29 (wsV s) (wsV t)).run Try.prog w = .ok (.bool (eqW s t)) w := by
  unfold wsV
  rw [run_eql_struct, eq_in_ws 9998 s t w]
  rfl
theorem neq_ws (s t : Ws) (w : World) : (binOp .neq 29 (wsV s) (wsV t)).run Try.prog w = .ok (.bool (!eqW s t)) w := by
  unfold wsV
  rw [run_neq_struct, eq_in_ws 9998 s t w]
  rfl

theorem own_of_heap {w w' : World} {base t sz n : Nat} {v : Value} {xs : List Value} (h : w.ownsRow base t sz v n xs) (hh : ∀ k, v.ownBlock = some k → w'.heap[k]? = w.heap[k]?) : w'.ownsRow base t sz v n xs := by
  refine ⟨h.1, ?_⟩
  rcases h.2 with hn | ⟨g, cap, cur, rfl, hb, hg, rest⟩
  · exact .inl hn
  · exact .inr ⟨g, cap, cur, rfl, hb, (hh g rfl).trans hg, rest⟩

/-- The forest in memory. -/
structure IsFo (w : World) (base fb : Nat) (lv : Value) (n : Nat) (bs : Nat → Bk) : Prop where
  top : Blk w fb 59 1 (fun _ => lv)
  own : w.ownsRow base 35 19 lv n (flat bs n)
  low : fb < base ∧ base ≤ w.heap.size
  most : n ≤ 32
  ups : ∀ i, i < n → -1 ≤ bs i 0 ∧ bs i 0 < i

section
variable {w w' : World} {base fb n : Nat} {lv : Value} {bs : Nat → Bk}

theorem IsFo.of_frm {S : Nat → Prop} (h : IsFo w base fb lv n bs) (hF : Frm S w w') (h1 : ¬ S fb) (h2 : ∀ g, lv.ownBlock = some g → ¬ S g) : IsFo w' base fb lv n bs :=
  ⟨hF.blk h.top h1, own_of_heap h.own fun k hk => hF.block k (h.own.lt k hk).2 (h2 k hk), ⟨h.low.1, Nat.le_trans h.low.2 hF.size⟩, h.most, h.ups⟩
theorem IsFo.below (h : IsFo w base fb lv n bs) (hB : Below w.heap.size w w') : IsFo w' base fb lv n bs :=
  h.of_frm (S := fun k => w.heap.size ≤ k) ⟨hB.os, hB.tape, hB.output, hB.size, fun k hk _ => hB.block k hk⟩ (by have := h.low; omega) (fun g hg hs => by have := (h.own.lt g hg).2; omega)
theorem IsFo.alloc (h : IsFo w base fb lv n bs) (o : Obj) : IsFo (w.alloc o) base fb lv n bs := h.below ((Below.refl _ _).alloc (Nat.le_refl _) o)
theorem IsFo.drewN (h : IsFo w base fb lv n bs) (k : Nat) : IsFo (w.drewN k) base fb lv n bs := h.below (Go.Proofs.Ytmbdhpibkhgkcaa.Below.drewN (Below.refl _ _) k)
theorem IsFo.c0 (h : IsFo w base fb lv n bs) : w.cell? ⟨fb, 0, none⟩ = some lv := h.top.cell (o := 0) (by omega)
theorem IsFo.lvForm (h : IsFo w base fb lv n bs) : ∃ a cap, lv = .slice a n cap ∧ (0 < n → ∃ g, a = some ⟨g, 0, none⟩ ∧ base ≤ g) := by
  rcases h.own.2 with ⟨rfl, rfl⟩ | ⟨g, cap, cur, rfl, hb, _⟩
  · exact ⟨none, 0, rfl, fun h => by omega⟩
  · exact ⟨_, cap, rfl, fun _ => ⟨g, rfl, hb⟩⟩
theorem IsFo.cell {g cap : Nat} (h : IsFo w base fb (.slice (some ⟨g, 0, none⟩) n cap) n bs) {i o : Nat} (hi : i < n) (ho : o < 19) : w.cell? ⟨g, i * 19 + o, none⟩ = some (.int (buKind o) (bs i o)) := by
  rw [h.own.cellAt (i * 19 + o) (by omega)]
  exact flat_at bs hi ho
theorem IsFo.range {g cap : Nat} (h : IsFo w base fb (.slice (some ⟨g, 0, none⟩) n cap) n bs) {i : Nat} (hi : i < n) : w.rangeAt g (i * 19) (buArr (bs i)).toList := by
  intro j v hv
  have hj : j < 19 := by
    have := (List.getElem?_eq_some_iff.1 hv).1
    rw [Array.length_toList, buArr_size] at this
    exact this
  rw [h.cell hi hj, ← hv, Array.getElem?_toList, buArr_at _ hj]
/-- A bubble's mask. -/
def maskOf (b : Bk) : Ws := fun o => b (o + 1)
theorem IsFo.mask {g cap : Nat} (h : IsFo w base fb (.slice (some ⟨g, 0, none⟩) n cap) n bs) {i : Nat} (hi : i < n) : w.rangeAt g (i * 19 + 1) (wsArr (maskOf (bs i))).toList := by
  intro j v hv
  have hj : j < 16 := by
    have := (List.getElem?_eq_some_iff.1 hv).1
    rw [Array.length_toList, wsArr_size] at this
    exact this
  rw [Array.getElem?_toList, wsArr_at _ hj] at hv
  rw [show i * 19 + 1 + j = i * 19 + (j + 1) by omega, h.cell hi (o := j + 1) (by omega), ← hv]
  unfold buKind maskOf
  rw [if_pos (by omega)]

theorem FLen_any (h : IsFo w base fb lv n bs) : Calls Try.prog 12 #[.pointer (some ⟨fb, 0, none⟩)] w fun r w' => r = .returned (.int .i64 n) ∧ w = w' := by
  have c0 := h.c0
  obtain ⟨a, cap, rfl, -⟩ := h.lvForm
  clear h
  go_enter Try.func12, Try.ntmps12
  go_wp2_with fail
  go_ret
  exact ⟨rfl, rfl⟩
theorem FLen_nil (w : World) : Calls Try.prog 12 #[.pointer none] w fun r w' => r = .returned (.int .i64 0) ∧ w = w' := by
  go_enter Try.func12, Try.ntmps12
  go_wp2_with fail
  go_ret
  exact ⟨rfl, rfl⟩

def isB (n : Nat) (i : Int) : Bool := decide (0 ≤ i ∧ i < n)
theorem FIs_any (h : IsFo w base fb lv n bs) (i : Int) : Calls Try.prog 22 #[.pointer (some ⟨fb, 0, none⟩), .int .i64 i] w fun r w' => r = .returned (.bool (isB n i)) ∧ w = w' := by
  have HL := Lib.hid (FLen_any h)
  clear h
  by_cases h0 : 0 ≤ i
  · go_enter Try.func22, Try.ntmps22
    go_wp2_with fail
    refine HL.out.mono ?_
    rintro r w' ⟨rfl, rfl⟩
    go_wp2_with fail
    go_ret
    exact ⟨by simp [isB, h0], rfl⟩
  · go_enter Try.func22, Try.ntmps22
    go_wp2_with fail
    go_ret
    exact ⟨by simp [isB]; omega, rfl⟩
theorem FIs_nil (i : Int) (w : World) : Calls Try.prog 22 #[.pointer none, .int .i64 i] w fun r w' => r = .returned (.bool false) ∧ w = w' := by
  by_cases h0 : 0 ≤ i
  · go_enter Try.func22, Try.ntmps22
    go_wp2_with fail
    refine (FLen_nil _).mono ?_
    rintro r w' ⟨rfl, rfl⟩
    go_wp2_with fail
    go_ret
    exact ⟨by simp; omega, rfl⟩
  · go_enter Try.func22, Try.ntmps22
    go_wp2_with fail
    go_ret
    exact ⟨rfl, rfl⟩

def FoMade (w : World) (r : Ending) (w' : World) : Prop :=
  ∃ base fb, r = .returned (.pointer (some ⟨fb, 0, none⟩)) ∧ w.heap.size ≤ fb ∧ IsFo w' base fb (.slice none 0 0) 0 (fun _ => bk0) ∧ Below w.heap.size w w'
theorem FNew_any (w : World) : Calls Try.prog 7 #[] w (FoMade w) := by
  have HF := Lib.hid (show FoMade w (.returned (.pointer (some ⟨w.heap.size, 0, none⟩))) (w.alloc (.cells #[.slice none 0 0] 59)) from
    ⟨w.heap.size + 1, w.heap.size, rfl, Nat.le_refl _, ⟨(Blk.new _ _ _).congr fun o ho => by
      match o, ho with
      | 0, _ => rfl, ⟨by simp [flat], .inl ⟨rfl, rfl⟩⟩, ⟨by omega, by simp⟩, by omega, fun i hi => by omega⟩, (Below.refl _ _).alloc (Nat.le_refl _) _⟩)
  go_enter Try.func7, Try.ntmps7
  go_wp2_with fail
  go_ret
  exact HF.out

def getD (n : Nat) (bs : Nat → Bk) (i : Int) : Bool × Bk := if 0 ≤ i ∧ i < n then (true, bs i.toNat) else (false, bk0)

set_option maxRecDepth 100000 in
theorem FGet_any (h : IsFo w base fb lv n bs) (i : Int) : Calls Try.prog 11 #[.pointer (some ⟨fb, 0, none⟩), .int .i64 i] w fun r w' => r = .returned (.tuple #[buV (getD n bs i).2, .bool (getD n bs i).1]) ∧ Below w.heap.size w w' := by
  have hz := zero35
  have z1 := size35 bk0
  have z2 := one35 bk0
  have hT := h.alloc (.cells (buArr bk0) 35)
  have HI := Lib.hid (FIs_any hT i)
  unfold isB at HI
  by_cases h2 : 0 ≤ i ∧ i < n
  · rw [decide_eq_true h2] at HI
    obtain ⟨i, rfl⟩ := Int.eq_ofNat_of_zero_le h2.1
    have hi : i < n := by omega
    rw [show getD n bs i = (true, bs i) by unfold getD; rw [if_pos h2, Int.toNat_natCast]]
    obtain ⟨a, cap, rfl, hg⟩ := h.lvForm
    obtain ⟨g, rfl, hgb⟩ := hg (by omega)
    have c1 := hT.c0
    have hr := hT.range hi
    have t1 : (Try.prog.info? 35).map (·.size) = some (buArr (bs i)).toList.length := by rw [Array.length_toList]; exact size35 _
    have t2 := one35 (bs i)
    have t3 : (buArr bk0).size = (buArr (bs i)).size := by rw [buArr_size, buArr_size]
    have t4 := size35 (bs i)
    unfold buV
    obtain ⟨V, hV⟩ : ∃ V, buArr (bs i) = V := ⟨_, rfl⟩
    obtain ⟨Z, hZ⟩ : ∃ Z, buArr bk0 = Z := ⟨_, rfl⟩
    simp only [hZ] at hz
    rw [hZ] at t3 c1 hr z1 z2 HI
    rw [hV] at hr t1 t2 t3 t4
    rw [hV]
    have HR := Lib.hid hr
    clear hV hZ h hT hr h2 hg
    go_enter Try.func11, Try.ntmps11
    go_wp2_with fail
    refine HI.out.mono ?_
    rintro r w' ⟨rfl, rfl⟩
    go_wp2_with (first | (refine wpList_load_mid rfl 35 _ rfl g (i * 19) rfl V.toList _ HR.out Try.underlying35 rfl t1 ?_; rw [Array.toArray_toList]) | (refine wpList_store_row rfl 35 _ _ rfl w.heap.size V rfl rfl 35 Z (heap_alloc_new _ _) t4 t3 t2 ?_; rw [setRow_new]))
    exact bodyPost_ret (results_cr rfl _ _ w.heap.size 35 V _ rfl (heap_alloc_new _ _) Try.underlying35 rfl t4) rfl ⟨rfl, (Below.refl _ _).alloc (Nat.le_refl _) _⟩
  · rw [decide_eq_false h2] at HI
    rw [show getD n bs i = (false, bk0) by unfold getD; rw [if_neg h2]]
    have hb := built35
    unfold buV
    obtain ⟨Z, hZ⟩ : ∃ Z, buArr bk0 = Z := ⟨_, rfl⟩
    simp only [hZ] at hz
    rw [hZ] at z1 z2 HI hb
    rw [hZ]
    obtain ⟨b1, b2⟩ := hb
    have B1 := Lib.hid b1
    have B2 := Lib.hid b2
    clear hZ h hT h2 b1 b2
    go_enter Try.func11, Try.ntmps11
    go_wp2_with fail
    refine HI.out.mono ?_
    rintro r w' ⟨rfl, rfl⟩
    go_wp2_with (first | (refine wpList_build rfl 35 #[] rfl B1.out ?_; simp only [B2.out, List.map_toArray, List.map_nil]) | (refine wpList_store_row rfl 35 _ _ rfl w.heap.size Z rfl rfl 35 Z (heap_alloc_new _ _) z1 rfl z2 ?_; rw [setRow_new]))
    exact bodyPost_ret (results_cr rfl _ _ w.heap.size 35 Z _ rfl (heap_alloc_new _ _) Try.underlying35 rfl z1) rfl ⟨rfl, (Below.refl _ _).alloc (Nat.le_refl _) _⟩
end

set_option maxRecDepth 100000 in
theorem FGet_nil (i : Int) (w : World) : Calls Try.prog 11 #[.pointer none, .int .i64 i] w fun r w' => r = .returned (.tuple #[buV bk0, .bool false]) ∧ Below w.heap.size w w' := by
  have hz := zero35
  have hb := built35
  have z1 := size35 bk0
  have z2 := one35 bk0
  unfold buV
  obtain ⟨Z, hZ⟩ : ∃ Z, buArr bk0 = Z := ⟨_, rfl⟩
  simp only [hZ] at hz
  rw [hZ] at z1 z2 hb
  rw [hZ]
  clear hZ
  obtain ⟨b1, b2⟩ := hb
  have B1 := Lib.hid b1
  have B2 := Lib.hid b2
  clear b1 b2
  go_enter Try.func11, Try.ntmps11
  go_wp2_with fail
  refine (FIs_nil _ _).mono ?_
  rintro r w' ⟨rfl, rfl⟩
  go_wp2_with (first | (refine wpList_build rfl 35 #[] rfl B1.out ?_; simp only [B2.out, List.map_toArray, List.map_nil]) | (refine wpList_store_row rfl 35 _ _ rfl w.heap.size Z rfl rfl 35 Z (heap_alloc_new _ _) z1 rfl z2 ?_; rw [setRow_new]))
  exact bodyPost_ret (results_cr rfl _ _ w.heap.size 35 Z _ rfl (heap_alloc_new _ _) Try.underlying35 rfl z1) rfl ⟨rfl, (Below.refl _ _).alloc (Nat.le_refl _) _⟩
end Go.Proofs.Ytmbdhpibkhgkcaa
