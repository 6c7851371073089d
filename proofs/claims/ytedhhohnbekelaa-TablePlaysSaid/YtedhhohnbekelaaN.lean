/- Rows and nodes are made (package chain: New). No condition. -/
import Derived.Test.YtedhhohnbekelaaG
import Derived.Deep.OwnRows
import Derived.Maps.AppendAt
import Derived.RangeFuncBox
namespace Go.Proofs.Ytedhhohnbekelaa
open Go.RowKit Go.Deep

/-- How many are made. -/
def cntOf (n : Int) : Nat := (max 0 (min n 4096)).toNat

theorem Try.info74 : (Try.prog.info? 74).map (fun i => (i.zero, i.size, i.bytes)) = some (some (.agg #[.int .i64 0, .int .i64 0, .int .i64 0]), 3, 24) := by kernel_rfl
theorem Try.info76 : (Try.prog.info? 76).map (fun i => (i.zero, i.size, i.bytes)) = some (some (.agg #[.int .i64 0, .int .i64 0, .int .i64 0]), 3, 24) := by kernel_rfl

theorem cells_new (w : World) (cs : List Value) (t : TypeId) : ∀ j u, cs[j]? = some u → (w.alloc (.cells cs.toArray t)).cell? ((⟨w.heap.size, 0, none⟩ : Addr).add j) = some u := by
  intro j u hj
  have : (⟨w.heap.size, 0, none⟩ : Addr).add j = ⟨w.heap.size, j, none⟩ := by unfold Addr.add; split <;> simp_all
  rw [this]
  simp [hj]

/-- So many times the same cells. -/
def reps (l : List Value) : Nat → List Value
  | 0 => []
  | k + 1 => reps l k ++ l

theorem reps_at {a b c : Value} : ∀ {n k j : Nat}, k < n → j < 3 → (reps [a, b, c] n)[k * 3 + j]? = some ([a, b, c].getD j undef)
  | 0, k, j, hk, _ => by omega
  | n + 1, k, j, hk, hj => by
    have hl : ∀ m, (reps [a, b, c] m).length = m * 3 := by
      intro m
      induction m with
      | zero => rfl
      | succ m ih => unfold reps; rw [List.length_append, ih]; simp; omega
    unfold reps
    by_cases h : k < n
    · rw [List.getElem?_append_left (by rw [hl]; omega)]
      exact reps_at h hj
    · obtain rfl : k = n := by omega
      rw [List.getElem?_append_right (by rw [hl]; omega), hl, show k * 3 + j - k * 3 = j by omega]
      have : j = 0 ∨ j = 1 ∨ j = 2 := by omega
      rcases this with rfl | rfl | rfl <;> rfl

theorem blk_of_row {w : World} {base g n cap : Nat} {t : TypeId} {xs : List Value} {f : Nat → Value} (h : w.ownsRow base t 3 (.slice (some ⟨g, 0, none⟩) n cap) n xs) (hf : ∀ o, o < n * 3 → xs[o]? = some (f o)) : Blk w g t (n * 3) f := by
  rcases h.2 with ⟨e, _⟩ | ⟨g', cap', cur, e, _, hg, h1, _, h3, h4⟩
  · simp at e
  · simp only [Value.slice.injEq, Option.some.injEq, Addr.mk.injEq] at e
    obtain ⟨⟨rfl, -⟩, -, rfl⟩ := e
    refine ⟨cur, hg, by rw [h3]; exact Nat.mul_le_mul_right _ h1, fun o ho => ?_⟩
    have := hf o ho
    rw [← h4, List.getElem?_take_of_lt ho] at this
    simpa using this

theorem Rep.empty {s : Ch} (h1 : ∀ x, s.nodes x = ⟨-1, -1, -1⟩) (h2 : ∀ i, s.rows i = ⟨-1, -1, 0⟩) : Rep s (fun _ => []) :=
  ⟨fun _ _ => trivial, fun i _ => by rw [h2]; rfl, fun x _ _ => h1 x, fun _ _ => by simp, fun _ _ x hx => by simp at hx⟩

/-- The cells of the struct. -/
def topF (vn vl : Value) (o : Nat) : Value := if o = 0 then vn else vl
def cN : List Value := [.int .i64 (-1), .int .i64 (-1), .int .i64 (-1)]
def cR : List Value := [.int .i64 (-1), .int .i64 (-1), .int .i64 0]

def fresh (N M : Nat) : Ch := ⟨fun _ => ⟨-1, -1, -1⟩, fun _ => ⟨-1, -1, 0⟩, N, M⟩

theorem own_block {w : World} {b base t sz n : Nat} {v : Value} {xs : List Value} (h : w.ownsRow base t sz v n xs) (hb : b < base) : some b ≠ v.ownBlock := fun e => by have := (h.lt b e.symm).1; omega

theorem own_of_heap {w w' : World} {base t sz n : Nat} {v : Value} {xs : List Value} (h : w.ownsRow base t sz v n xs) (hh : ∀ k, v.ownBlock = some k → w'.heap[k]? = w.heap[k]?) : w'.ownsRow base t sz v n xs := by
  refine ⟨h.1, ?_⟩
  rcases h.2 with hn | ⟨g, cap, cur, rfl, hb, hg, rest⟩
  · exact .inl hn
  · exact .inr ⟨g, cap, cur, rfl, hb, (hh g rfl).trans hg, rest⟩

/-- The block of a row that has been made; if it has nothing: some other one. -/
theorem sl_of_own {w : World} {base t n D : Nat} {v : Value} {xs : List Value} {f : Nat → Value} (h : w.ownsRow base t 3 v n xs) (hz : n = 0 → v = .slice none 0 0) (hf : ∀ o, o < n * 3 → xs[o]? = some (f o)) :
    ∃ b, SlV v b n ∧ (0 < n → Blk w b t (n * 3) f) ∧ (b = D ∨ v.ownBlock = some b) := by
  by_cases hn : n = 0
  · exact ⟨D, .inl ⟨hn, hz hn⟩, fun h => by omega, .inl rfl⟩
  · rcases h.2 with ⟨_, h0⟩ | ⟨g, cap, cur, rfl, _⟩
    · omega
    · exact ⟨g, .inr ⟨by omega, cap, rfl⟩, fun _ => blk_of_row h hf, .inr rfl⟩

theorem reps_enc {a b c : Value} {n : Nat} (F : Nat → Value) (hF : ∀ k j, j < 3 → F (k * 3 + j) = [a, b, c].getD j undef) : ∀ o, o < n * 3 → (reps [a, b, c] n)[o]? = some (F o) := by
  intro o ho
  have e : o = o / 3 * 3 + o % 3 := by omega
  rw [e, hF _ _ (by omega)]
  exact reps_at (by omega) (by omega)

set_option maxRecDepth 100000 in
theorem New_any (n m : Int) (w : World) (h0 : -9223372036854775808 ≤ n) (h1 : n ≤ 9223372036854775807) (h2 : -9223372036854775808 ≤ m) (h3 : m ≤ 9223372036854775807) :
    Calls Try.prog 23 #[.int .i64 n, .int .i64 m] w fun r w' => ∃ c bn bl vn vl, r = .returned (.pointer (some ⟨c, 0, none⟩)) ∧ w.heap.size ≤ c ∧ w.heap.size ≤ bn ∧ w.heap.size ≤ bl ∧
      Has w' c bn bl vn vl (cntOf n) (cntOf m) (fun _ => []) ∧ Below w.heap.size w w' := by
  have hcn : ((cntOf n : Nat) : Int) = max 0 (min n 4096) := by unfold cntOf; omega
  have hcm : ((cntOf m : Nat) : Int) = max 0 (min m 4096) := by unfold cntOf; omega
  have hN : cntOf n ≤ 4096 := by omega
  have hM : cntOf m ≤ 4096 := by omega
  generalize cntOf n = N at *
  generalize cntOf m = M at *
  obtain ⟨i53, hi53, hz53, hs53, hb53⟩ := info_parts Try.info74
  obtain ⟨i55, hi55, hz55, hs55, hb55⟩ := info_parts Try.info76
  have I53 := Lib.hid hi53
  have Z53 := Lib.hid hz53
  have I55 := Lib.hid hi55
  have Z55 := Lib.hid hz55
  have CN := Lib.hid hcn
  have CM := Lib.hid hcm
  clear hi53 hz53 hi55 hz55 hcn hcm
  go_enter Try.func23, Try.ntmps23
  go_upto_region 2 with fail
  obtain ⟨C, hC⟩ : ∃ C, w.heap.size = C := ⟨_, rfl⟩
  obtain ⟨WC, hWC⟩ : ∃ WC, w.alloc (.cells #[.slice none 0 0, .slice none 0 0] 72) = WC := ⟨_, rfl⟩
  have HT := Lib.hid (show Blk WC C 72 2 (topF (.slice none 0 0) (.slice none 0 0)) by
    rw [← hWC, ← hC]
    exact (Blk.new w #[.slice none 0 0, .slice none 0 0] 72).congr fun o ho => by
      match o, ho with
      | 0, _ => rfl
      | 1, _ => rfl)
  have HB := Lib.hid (show Below w.heap.size w WC by rw [← hWC]; exact (Below.refl _ _).alloc (Nat.le_refl _) _)
  have HC := Lib.hid (show w.heap.size ≤ C by omega)
  rw [hWC, hC]
  clear hWC hC
  go_cut [10, 11] (fun s10 s11 wr => s10 = .int .i64 N ∧ s11 = .int .i64 0 ∧ WC = wr)
  case first =>
    have hc := CN.out
    by_cases ha : n < 0
    · have e : (N : Int) = 0 := by omega
      have HE := Lib.hid e
      clear hc e
      go_wp2_with fail
      go_meet
      case rel => exact ⟨by rw [HE.out], rfl, rfl⟩
    · by_cases hb : 4096 < n
      · have e : (N : Int) = 4096 := by omega
        have HE := Lib.hid e
        clear hc e
        go_wp2_with fail
        go_meet
        case rel => exact ⟨by rw [HE.out], rfl, rfl⟩
      · have e : (N : Int) = n := by omega
        have HE := Lib.hid e
        clear hc e
        go_wp2_with fail
        all_goals
          go_meet
          case rel => exact ⟨by have := HE.out; simp only [Value.int.injEq, true_and]; omega, rfl, rfl⟩
  case rest =>
    obtain ⟨rfl, rfl, rfl⟩ := hcut
    go_upto_block 0 with fail
    go_cut [] (fun wr => ∃ v, Blk wr C 72 2 (topF v (.slice none 0 0)) ∧ wr.ownsRow (C + 1) 74 3 v N (reps cN N) ∧ (N = 0 → v = .slice none 0 0) ∧ Below w.heap.size w wr)
    case first =>
      go_wp2_with fail
      go_loopw [11] (fun i wr => ∃ (k : Nat) (v : Value), k ≤ N ∧ i = .int .i64 k ∧ Blk wr C 72 2 (topF v (.slice none 0 0)) ∧ wr.ownsRow (C + 1) 74 3 v k (reps cN k) ∧ (k = 0 → v = .slice none 0 0) ∧ Below w.heap.size w wr) (fun i _ => N - (intOf i).toNat)
      case atStart => exact ⟨0, _, Nat.zero_le _, rfl, HT.out, World.ownsRow_nil _ _ _ _, fun _ => rfl, HB.out⟩
      case round =>
        obtain ⟨k, v, hk, rfl, hT, hown, hz, hB⟩ := hrel
        by_cases hlt : k < N
        · have c0 : wr.cell? ⟨C, 0, none⟩ = some v := (hT.cell (o := 0) (by omega)).trans rfl
          have hCl := hT.lt
          have hi := I53.out
          have hz0 := Z53.out
          have hob : some C ≠ v.ownBlock := own_block hown (Nat.lt_succ_self C)
          have HH := Lib.hid (⟨hT, hB⟩ : Blk wr C 72 2 (topF v (.slice none 0 0)) ∧ Below w.heap.size w wr)
          clear hT hB
          go_wp2_with (at_builtin; refine wpList_append_own _ rfl _ _ 69 rfl (C + 1) 74 i53 _ 3 24 Try.underlying69 hi hz0 hs53 hb53 rfl (by decide) _ _ _ rfl (hown.alloc _) ⟨wr.heap.size, 0, none⟩ 1 1 [.int .i64 (-1), .int .i64 (-1), .int .i64 (-1)] rfl rfl (cells_new _ _ _) (by simp [Value.oneCell']) (by simp only [maxLen]; omega) (by omega) (by simp; omega) ?_; intro v' w1 hown' hgrow _; obtain ⟨g', cap', hv'⟩ := ownsRow_succ hown'; subst hv'; have c0' : w1.cell? ⟨C, 0, none⟩ = some v := hgrow.cell ((World.cell?_alloc_lt _ _ _ hCl).trans c0) hob; have f0' : w1.frozen? ⟨C, 0, none⟩ = false := (World.frozen?_of_block (w := wr) ((hgrow.block C (by simp; omega) hob).trans (Below.heap_alloc _ _ _ hCl))).trans (HH.out.1.frozen 0))
          refine ⟨⟨k + 1, .slice (some ⟨g', 0, none⟩) (k + 1) cap', by omega, by go_num, ?_, ?_, fun e => by omega, ?_⟩, by simp [intOf]; omega⟩
          · refine ((HH.out.1.of_heap ((hgrow.block C (by simp; omega) hob).trans (Below.heap_alloc _ _ _ hCl))).set 0 _).congr fun o ho => ?_
            match o, ho with
            | 0, _ => rfl
            | 1, _ => rfl
          · exact own_of_heap hown' fun j hj => Below.heap_setCell _ _ _ _ (by have := (hown'.lt j hj).1; simp only []; omega)
          · exact (((HH.out.2.alloc HH.out.2.size _).grown hgrow (by simp; have := HH.out.2.size; omega) (fun j hj => by have := (hown.lt j hj).1; have := HC.out; omega))).setCell (by have := HC.out; simp only []; omega) _
        · obtain rfl : k = N := by omega
          have HH := Lib.hid (⟨v, hT, hown, hz, hB⟩ : ∃ v, Blk wr C 72 2 (topF v (.slice none 0 0)) ∧ wr.ownsRow (C + 1) 74 3 v k (reps cN k) ∧ (k = 0 → v = .slice none 0 0) ∧ Below w.heap.size w wr)
          clear hT hown hB
          go_wp2_with fail
          go_meet
          case rel => exact HH.out
    case rest =>
      obtain ⟨vn, hT, hown, hz, hB⟩ := hcut
      have hvn : ∀ j, vn.ownBlock = some j → C + 1 ≤ j ∧ j < wc.heap.size := hown.lt
      obtain ⟨S, hS⟩ : ∃ S, S = wc.heap.size := ⟨_, rfl⟩
      have hCS := hT.lt
      have HW := Lib.hid (⟨hT, hown, hB⟩ : Blk wc C 72 2 (topF vn (.slice none 0 0)) ∧ wc.ownsRow (C + 1) 74 3 vn N (reps cN N) ∧ Below w.heap.size w wc)
      have HV := Lib.hid hvn
      have HZ := Lib.hid hz
      obtain ⟨WC, hWC⟩ : ∃ WC : World, WC = wc := ⟨_, rfl⟩
      clear hT hown hB hz hvn
      subst hWC
      go_upto_region 6 with fail
      go_cut [26, 27] (fun s10 s11 wr => s10 = .int .i64 M ∧ s11 = .int .i64 0 ∧ WC = wr)
      case first =>
        have hc := CM.out
        by_cases ha : m < 0
        · have HE := Lib.hid (show (M : Int) = 0 by omega)
          clear hc
          go_wp2_with fail
          go_meet
          case rel => exact ⟨by rw [HE.out], rfl, rfl⟩
        · by_cases hb : 4096 < m
          · have HE := Lib.hid (show (M : Int) = 4096 by omega)
            clear hc
            go_wp2_with fail
            go_meet
            case rel => exact ⟨by rw [HE.out], rfl, rfl⟩
          · have HE := Lib.hid (show (M : Int) = m by omega)
            clear hc
            go_wp2_with fail
            all_goals
              go_meet
              case rel => exact ⟨by have := HE.out; simp only [Value.int.injEq, true_and]; omega, rfl, rfl⟩
      case rest =>
        obtain ⟨rfl, rfl, rfl⟩ := hcut
        go_upto_block 2 with fail
        go_cut [] (fun wr => ∃ v, Blk wr C 72 2 (topF vn v) ∧ wr.ownsRow (C + 1) 74 3 vn N (reps cN N) ∧ wr.ownsRow S 76 3 v M (reps cR M) ∧ (M = 0 → v = .slice none 0 0) ∧ Below w.heap.size w wr ∧ S ≤ wr.heap.size)
        case first =>
          go_wp2_with fail
          go_loopw [27] (fun i wr => ∃ (k : Nat) (v : Value), k ≤ M ∧ i = .int .i64 k ∧ Blk wr C 72 2 (topF vn v) ∧ wr.ownsRow (C + 1) 74 3 vn N (reps cN N) ∧ wr.ownsRow S 76 3 v k (reps cR k) ∧ (k = 0 → v = .slice none 0 0) ∧ Below w.heap.size w wr ∧ S ≤ wr.heap.size) (fun i _ => M - (intOf i).toNat)
          case atStart => exact ⟨0, _, Nat.zero_le _, rfl, HW.out.1, HW.out.2.1, World.ownsRow_nil _ _ _ _, fun _ => rfl, HW.out.2.2, by omega⟩
          case round =>
            obtain ⟨k, v, hk, rfl, hT, hon, hown, hz, hB, hSw⟩ := hrel
            by_cases hlt : k < M
            · have c0 : wr.cell? ⟨C, 1, none⟩ = some v := (hT.cell (o := 1) (by omega)).trans rfl
              have hCl := hT.lt
              have hi := I55.out
              have hz0 := Z55.out
              have hob : some C ≠ v.ownBlock := own_block hown (by omega)
              have HH := Lib.hid (⟨hT, hB, hon⟩ : Blk wr C 72 2 (topF vn v) ∧ Below w.heap.size w wr ∧ wr.ownsRow (C + 1) 74 3 vn N (reps cN N))
              clear hT hB hon
              go_wp2_with (at_builtin; refine wpList_append_own _ rfl _ _ 70 rfl S 76 i55 _ 3 24 Try.underlying70 hi hz0 hs55 hb55 rfl (by decide) _ _ _ rfl (hown.alloc _) ⟨wr.heap.size, 0, none⟩ 1 1 [.int .i64 (-1), .int .i64 (-1), .int .i64 0] rfl rfl (cells_new _ _ _) (by simp [Value.oneCell']) (by simp only [maxLen]; omega) (by omega) (by simp; omega) ?_; intro v' w1 hown' hgrow _; obtain ⟨g', cap', hv'⟩ := ownsRow_succ hown'; subst hv'; have c0' : w1.cell? ⟨C, 1, none⟩ = some v := hgrow.cell ((World.cell?_alloc_lt _ _ _ hCl).trans c0) hob; have f0' : w1.frozen? ⟨C, 1, none⟩ = false := (World.frozen?_of_block (w := wr) ((hgrow.block C (by simp; omega) hob).trans (Below.heap_alloc _ _ _ hCl))).trans (HH.out.1.frozen 1))
              refine ⟨⟨k + 1, .slice (some ⟨g', 0, none⟩) (k + 1) cap', by omega, by go_num, ?_, ?_, ?_, fun e => by omega, ?_, ?_⟩, by simp [intOf]; omega⟩
              · refine ((HH.out.1.of_heap ((hgrow.block C (by simp; omega) hob).trans (Below.heap_alloc _ _ _ hCl))).set 1 _).congr fun o ho => ?_
                match o, ho with
                | 0, _ => rfl
                | 1, _ => rfl
              · refine own_of_heap HH.out.2.2 fun j hj => ?_
                have h5 := HV.out j hj
                refine (Below.heap_setCell _ _ _ _ (by simp only []; omega)).trans ((hgrow.block j (by simp; omega) (fun e => ?_)).trans (Below.heap_alloc _ _ _ (by omega)))
                have := (hown.lt j e.symm).1
                omega
              · exact own_of_heap hown' fun j hj => Below.heap_setCell _ _ _ _ (by have := (hown'.lt j hj).1; simp only []; omega)
              · exact (((HH.out.2.1.alloc HH.out.2.1.size _).grown hgrow (by simp; have := HH.out.2.1.size; omega) (fun j hj => by have := (hown.lt j hj).1; have := HC.out; omega))).setCell (by have := HC.out; simp only []; omega) _
              · have := hgrow.size
                simp at this ⊢
                omega
            · obtain rfl : k = M := by omega
              have HH := Lib.hid (⟨v, hT, hon, hown, hz, hB, hSw⟩ : ∃ v, Blk wr C 72 2 (topF vn v) ∧ wr.ownsRow (C + 1) 74 3 vn N (reps cN N) ∧ wr.ownsRow S 76 3 v k (reps cR k) ∧ (k = 0 → v = .slice none 0 0) ∧ Below w.heap.size w wr ∧ S ≤ wr.heap.size)
              clear hT hon hown hB hz
              go_wp2_with fail
              go_meet
              case rel => exact HH.out
        case rest =>
          obtain ⟨vl, hT, hon, hol, hz, hB, hSw⟩ := hcut
          obtain ⟨bn, n1, n2, n3⟩ := sl_of_own (D := wc.heap.size) (f := encN (fresh N M).nodes) hon HZ.out (reps_enc _ fun k j hj => by
            rw [encN_at _ _ hj]
            have : j = 0 ∨ j = 1 ∨ j = 2 := by omega
            rcases this with rfl | rfl | rfl <;> rfl)
          obtain ⟨bl, l1, l2, l3⟩ := sl_of_own (D := wc.heap.size + 1) (f := encR (fresh N M).rows) hol hz (reps_enc _ fun k j hj => by
            rw [encR_at _ _ hj]
            have : j = 0 ∨ j = 1 ∨ j = 2 := by omega
            rcases this with rfl | rfl | rfl <;> rfl)
          have hCw := hT.lt
          have q1 : (bn = wc.heap.size ∨ (C + 1 ≤ bn ∧ bn < S)) := by
            rcases n3 with e | e
            · exact .inl e
            · have := HV.out bn e; exact .inr (by omega)
          have q2 : (bl = wc.heap.size + 1 ∨ (S ≤ bl ∧ bl < wc.heap.size)) := by
            rcases l3 with e | e
            · exact .inl e
            · exact .inr (hol.lt bl e)
          have hC := HC.out
          have HX := Lib.hid (show Has wc C bn bl vn vl N M (fun _ => []) from ⟨fresh N M, ⟨hT, n1, l1, n2, l2, ⟨by omega, by omega, by omega⟩, ⟨hN, hM⟩⟩, Rep.empty (fun _ => rfl) (fun _ => rfl), rfl, rfl⟩)
          have HB2 := Lib.hid hB
          clear hT hon hol hz hB n1 n2 n3 l1 l2 l3
          go_wp2_with fail
          go_ret
          exact ⟨C, bn, bl, vn, vl, rfl, hC, by omega, by omega, HX.out, HB2.out⟩
end Go.Proofs.Ytedhhohnbekelaa
