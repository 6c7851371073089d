/- The document's bubbles in memory (package pinfoldref13): Is, Way, Inside, Free. No condition. -/
import Derived.Test.YtmbdhpibkhgkcaaT
namespace Go.Proofs.Ytmbdhpibkhgkcaa
open Go.RowKit

/-- A slice that reads as a row of bubbles. -/
def SlB (w : World) (v : Value) (n : Nat) (bs : Nat → Bk) : Prop :=
  ∃ a cap, v = .slice a n cap ∧ (0 < n → ∃ g, a = some ⟨g, 0, none⟩ ∧ ∀ i o, i < n → o < 19 → w.cell? ⟨g, i * 19 + o, none⟩ = some (.int (buKind o) (bs i o)))
def Ups (n : Nat) (bs : Nat → Bk) : Prop := ∀ i, i < n → -1 ≤ bs i 0 ∧ bs i 0 < i

theorem SlB.own {w : World} {base : Nat} {v : Value} {n : Nat} {bs : Nat → Bk} (h : w.ownsRow base 35 19 v n (flat bs n)) : SlB w v n bs := by
  rcases h.2 with ⟨rfl, rfl⟩ | ⟨g, cap, cur, rfl, _⟩
  · exact ⟨none, 0, rfl, fun h => by omega⟩
  · exact ⟨_, cap, rfl, fun _ => ⟨g, rfl, fun i o hi ho => by rw [h.cellAt (i * 19 + o) (by omega)]; exact flat_at bs hi ho⟩⟩
theorem SlB.of_cells {w w' : World} {v : Value} {n : Nat} {bs : Nat → Bk} (h : SlB w v n bs) (hc : ∀ p : Addr, p.block < w.heap.size → w'.cell? p = w.cell? p) : SlB w' v n bs := by
  obtain ⟨a, cap, rfl, h⟩ := h
  refine ⟨a, cap, rfl, fun h0 => ?_⟩
  obtain ⟨g, rfl, hx⟩ := h h0
  exact ⟨g, rfl, fun i o hi ho => (hc _ (World.block_lt_of_cell? _ _ (hx i o hi ho))).trans (hx i o hi ho)⟩
theorem SlB.below {w w' : World} {v : Value} {n : Nat} {bs : Nat → Bk} (h : SlB w v n bs) (hB : Below w.heap.size w w') : SlB w' v n bs := h.of_cells fun p hp => hB.cell hp

/-- A bubble, that in which it lies, and so on. -/
def wayI (n : Nat) (bs : Nat → Bk) : Nat → Int → List Nat
  | 0, _ => []
  | f + 1, b => if isB n b = true then b.toNat :: wayI n bs f (bs b.toNat 0) else []
def wayD (n : Nat) (bs : Nat → Bk) (b : Int) : List Nat := wayI n bs (b + 1).toNat b
theorem wayI_no {n : Nat} {bs : Nat → Bk} {b : Int} (h : isB n b = false) (f : Nat) : wayI n bs f b = [] := by
  cases f with
  | zero => rfl
  | succ f => unfold wayI; rw [if_neg (by rw [h]; simp)]
theorem wayI_lt {n : Nat} {bs : Nat → Bk} : ∀ (f : Nat) (b : Int), ∀ x ∈ wayI n bs f b, x < n
  | 0, _, x, h => by cases h
  | f + 1, b, x, h => by
    unfold wayI at h
    split at h
    · rename_i hb
      have hb := isB_iff.1 hb
      rcases List.mem_cons.1 h with rfl | h
      · omega
      · exact wayI_lt f _ x h
    · cases h
theorem wayI_le {n : Nat} {bs : Nat → Bk} (hu : Ups n bs) : ∀ (f : Nat) (b : Int), ∀ x ∈ wayI n bs f b, (x : Int) ≤ b
  | 0, _, x, h => by cases h
  | f + 1, b, x, h => by
    unfold wayI at h
    split at h
    · rename_i hb
      have hb := isB_iff.1 hb
      rcases List.mem_cons.1 h with rfl | h
      · omega
      · have h1 := wayI_le hu f _ x h
        have h2 := hu b.toNat (by omega)
        omega
    · cases h
theorem wayI_len {n : Nat} {bs : Nat → Bk} : ∀ (f : Nat) (b : Int), (wayI n bs f b).length ≤ f
  | 0, _ => Nat.le_refl _
  | f + 1, b => by
    unfold wayI
    split
    · have := wayI_len (n := n) (bs := bs) f (bs b.toNat 0)
      simp only [List.length_cons]
      omega
    · simp

theorem way_len40 {n : Nat} {bs : Nat → Bk} (hn : n ≤ 32) (b : Int) : (wayD n bs b).length ≤ 40 := by
  by_cases hb : isB n b = true
  · have := wayI_len (n := n) (bs := bs) (b + 1).toNat b
    have := isB_iff.1 hb
    unfold wayD
    omega
  · unfold wayD
    rw [wayI_no (by cases hh : isB n b; rfl; exact absurd hh hb)]
    simp

theorem ins_way {n : Nat} {bs : Nat → Bk} (hu : Ups n bs) {i : Int} (hi : 0 ≤ i) : ∀ (f : Nat) (b : Int), b < f → b < n → (wayI n bs f b).any (fun (x : Nat) => (x : Int) == i) = insI bs i f b
  | 0, b, h, _ => by
    unfold wayI insI
    simp
    omega
  | f + 1, b, h, hn => by
    unfold wayI insI
    by_cases hb : 0 ≤ b
    · rw [if_pos (isB_iff.2 ⟨hb, hn⟩), List.any_cons]
      have h2 := hu b.toNat (by omega)
      by_cases hib : i < b
      · rw [if_pos hib, ins_way hu hi f _ (by omega) (by omega)]
        have : ((b.toNat : Int) == i) = false := by simp; omega
        rw [this]
        rfl
      · rw [if_neg hib]
        by_cases e : b = i
        · have h3 : ((b.toNat : Int) == i) = true := by simp; omega
          rw [h3, Bool.true_or]
          simp [e]
        · have h3 : ((b.toNat : Int) == i) = false := by simp; omega
          have h4 : (wayI n bs f (bs b.toNat 0)).any (fun (x : Nat) => (x : Int) == i) = false := by
            rw [List.any_eq_false]
            intro x hx
            have := wayI_le hu f _ x hx
            simp
            omega
          rw [h3, h4]
          simp [e]
    · have hb2 : isB n b = false := by unfold isB; exact decide_eq_false (by omega)
      rw [if_neg (by rw [hb2]; simp), if_neg (by omega)]
      simp
      omega

theorem free_way {n : Nat} {bs : Nat → Bk} (hu : Ups n bs) : ∀ (f : Nat) (b : Int), b < f → b < n → -1 ≤ b → (wayI n bs f b).all (fun (x : Nat) => bs x 17 == 4) = freeI n bs f b
  | 0, b, h, _, h1 => by
    unfold wayI freeI
    simp
    omega
  | f + 1, b, h, hn, h1 => by
    unfold wayI freeI
    by_cases hb : 0 ≤ b
    · have h2 := hu b.toNat (by omega)
      rw [if_pos (isB_iff.2 ⟨hb, hn⟩), if_pos (isB_iff.2 ⟨hb, hn⟩), List.all_cons, free_way hu f _ (by omega) (by omega) h2.1]
      by_cases e : bs b.toNat 17 = 4
      · rw [if_pos e]; simp [e]
      · rw [if_neg e]; simp [e]
    · have hb2 : isB n b = false := by unfold isB; exact decide_eq_false (by omega)
      rw [if_neg (by rw [hb2]; simp), if_neg (by rw [hb2]; simp)]
      simp
      omega

theorem mask_way {n : Nat} {bs : Nat → Bk} (hu : Ups n bs) : ∀ (f : Nat) (b : Int) (s : Ws), (wayI n bs f b).foldl (fun s (x : Nat) => andW s (maskOf (bs x))) s = maskI n bs f b s
  | 0, b, s => rfl
  | f + 1, b, s => by
    unfold wayI maskI
    split
    · rw [List.foldl_cons, mask_way hu f _ _]
    · rfl

section
variable {w w' : World} {n : Nat} {v : Value} {bs : Nat → Bk}

theorem RIs_any (h : SlB w v n bs) (b : Int) : Calls Try.prog 35 #[v, .int .i64 b] w fun r w' => r = .returned (.bool (isB n b)) ∧ w = w' := by
  obtain ⟨a, cap, rfl, -⟩ := h
  by_cases h0 : 0 ≤ b
  · by_cases h1 : b < n
    · go_enter Try.func35, Try.ntmps35
      go_wp2_with fail
      go_ret
      exact ⟨by simp [isB, h0, h1], rfl⟩
    · go_enter Try.func35, Try.ntmps35
      go_wp2_with fail
      go_ret
      exact ⟨by simp [isB, h0, h1], rfl⟩
  · go_enter Try.func35, Try.ntmps35
    go_wp2_with fail
    go_ret
    exact ⟨by simp [isB]; omega, rfl⟩

def WayTo (w : World) (l : List Nat) (r : Ending) (w' : World) : Prop := ∃ v, r = .returned v ∧ w'.ownsRow w.heap.size 3 1 v l.length (intsL l) ∧ Below w.heap.size w w'

set_option maxRecDepth 100000 in
set_option maxHeartbeats 1000000 in
theorem RWay_any (h : SlB w v n bs) (hu : Ups n bs) (hn : n ≤ 32) (b : Int) : Calls Try.prog 42 #[v, .int .i64 b] w (WayTo w (wayD n bs b)) := by
  have H := Lib.hid h
  have HU := Lib.hid hu
  obtain ⟨R, hR⟩ : ∃ R, wayD n bs b = R := ⟨_, rfl⟩
  rw [hR]
  have HR := Lib.hid (show [] ++ wayI n bs (b + 1).toNat b = R from hR)
  obtain ⟨a, cap, rfl, hg⟩ := h
  have HG := Lib.hid hg
  obtain ⟨i3, I3, Z3, S3, B3⟩ := info_parts Try.info3i
  have I3 := Lib.hid I3
  have Z3 := Lib.hid Z3
  have S3 := Lib.hid S3
  have B3 := Lib.hid B3
  clear hR hu hg
  go_enter Try.func42, Try.ntmps42
  go_wp2_with fail
  go_loopw [1, 5] (fun x y wr => ∃ (c : Int) (f : Nat) (L : List Nat), x = .int .i64 c ∧ c < f ∧ (c < n → (L.length : Int) + c < 40) ∧ L ++ wayI n bs f c = R ∧ wr.ownsRow w.heap.size 3 1 y L.length (intsL L) ∧ Below w.heap.size w wr) (fun x _ _ => (intOf x + 1).toNat)
  case atStart => exact ⟨b, (b + 1).toNat, [], rfl, by omega, fun h => by simp; omega, HR.out, World.ownsRow_nil _ _ _ _, Below.refl _ _⟩
  case round =>
    clear HR
    obtain ⟨c, f, L, rfl, hf, hL, hR, hO, hB⟩ := hrel
    have HO := Lib.hid hO
    have HB := Lib.hid hB
    have HS := Lib.hid (H.out.below hB)
    have HI := Lib.hid (RIs_any HS.out c)
    clear hO hB
    cases hb : isB n c with
    | true =>
      rw [hb] at HI
      obtain ⟨c0, c1⟩ := isB_iff.1 hb
      obtain ⟨c, rfl⟩ := Int.eq_ofNat_of_zero_le c0
      obtain ⟨f, rfl⟩ : ∃ f', f = f' + 1 := ⟨f - 1, by omega⟩
      unfold wayI at hR
      rw [if_pos hb, Int.toNat_natCast] at hR
      have hc : c < n := by omega
      have hl40 := hL c1
      obtain ⟨g, rfl, hx⟩ := HG.out (by omega)
      have k2 := HB.out.cell (p := ⟨g, c * 19 + 0, none⟩) (World.block_lt_of_cell? _ _ (hx c 0 hc (by omega)))
      rw [hx c 0 hc (by omega), show buKind 0 = .i64 from rfl, Nat.add_zero] at k2
      have hup := HU.out c hc
      have HRR := Lib.hid (show (L ++ [c]) ++ wayI n bs f (bs c 0) = R by rw [List.append_assoc]; exact hR)
      clear hR hb hx
      generalize bs c 0 = u at *
      have hsz : w.heap.size ≤ (wr.alloc (.cells #[.int .i64 c] 3)).heap.size := by have := HB.out.size; simp; omega
      go_wp2_with fail
      refine HI.out.mono ?_
      rintro r w' ⟨rfl, rfl⟩
      go_upto_region 4 with (at_builtin; refine wpList_append_own _ rfl _ _ 31 rfl w.heap.size 3 i3 _ 1 8 Try.underlying31 I3.out Z3.out S3.out B3.out rfl (by decide) _ _ _ rfl (HO.out.alloc _) ⟨wr.heap.size, 0, none⟩ 1 1 [.int .i64 c] rfl rfl (cells_new1 _ _ _) (by simp [Value.oneCell']) (by simp only [maxLen]; omega) (by omega) hsz ?_; intro v' w5 hown' hgrow _; rw [intsL_more] at hown'; have HO5 := Lib.hid hown'; have HB5 := Lib.hid ((HB.out.alloc HB.out.size (.cells #[.int .i64 c] 3)).grown hgrow hsz (fun j hj => (HO.out.lt j hj).1)); clear hown' hgrow)
      have k3 := (HB5.out.cell (p := ⟨g, c * 19, none⟩) (by
        have := World.block_lt_of_cell? _ _ k2
        have h1 := (HG.out (by omega))
        obtain ⟨g', hg', hx⟩ := h1
        cases hg'
        exact World.block_lt_of_cell? _ _ (hx c 0 hc (by omega)))).trans ((HB.out.cell (p := ⟨g, c * 19, none⟩) (by
        obtain ⟨g', hg', hx⟩ := HG.out (by omega)
        cases hg'
        exact World.block_lt_of_cell? _ _ (hx c 0 hc (by omega)))).symm.trans k2)
      go_wp2_with fail
      go_roundw
      case rel => exact ⟨u, f, L ++ [c], rfl, by omega, fun _ => by simp; omega, HRR.out, by rw [List.length_append]; exact HO5.out, HB5.out⟩
      case measure => simp only [intOf]; omega
    | false =>
      rw [hb] at HI
      rw [wayI_no hb, List.append_nil] at hR
      subst hR
      clear hb
      go_wp2_with fail
      refine HI.out.mono ?_
      rintro r w' ⟨rfl, rfl⟩
      go_wp2_with fail
      go_ret
      exact ⟨_, rfl, HO.out, HB.out⟩

def rInD (n : Nat) (bs : Nat → Bk) (b i : Int) : Bool := (wayD n bs b).any fun (x : Nat) => (x : Int) == i

set_option maxRecDepth 100000 in
set_option maxHeartbeats 1000000 in
theorem RInside_any (h : SlB w v n bs) (hu : Ups n bs) (hn : n ≤ 32) (b i : Int) : Calls Try.prog 37 #[v, .int .i64 b, .int .i64 i] w fun r w' => r = .returned (.bool (rInD n bs b i)) ∧ Below w.heap.size w w' := by
  have HW := Lib.hid (RWay_any h hu hn b)
  unfold rInD
  have hll := way_len40 (bs := bs) hn b
  generalize wayD n bs b = l at *
  obtain ⟨R, hR⟩ : ∃ R, l.any (fun (x : Nat) => (x : Int) == i) = R := ⟨_, rfl⟩
  rw [hR]
  have HR := Lib.hid hR
  clear h hu hR
  go_enter Try.func37, Try.ntmps37
  go_wp2_with fail
  refine HW.out.mono ?_
  rintro r w1 ⟨u, rfl, ho, hB⟩
  have HB := Lib.hid hB
  obtain ⟨ua, ucap, hu, hux⟩ := SlL.own ho
  subst hu
  have HX := Lib.hid hux
  obtain ⟨m, hm⟩ : ∃ m, l.length = m := ⟨_, rfl⟩
  have HM := Lib.hid hm
  rw [hm] at HX hll
  rw [hm]
  clear ho hB hux hm HW
  go_wp2_with fail
  go_loopw [13] (fun x wr => ∃ k : Nat, k ≤ m ∧ x = .int .i64 k ∧ (∀ y ∈ l.take k, (y : Int) ≠ i) ∧ w1 = wr) (fun x _ => m - (intOf x).toNat)
  case atStart => exact ⟨0, Nat.zero_le _, rfl, by simp, rfl⟩
  case round =>
    obtain ⟨k, hk, rfl, hno, rfl⟩ := hrel
    by_cases hlt : k < m
    · have hltI : (k : Int) < m := by omega
      obtain ⟨g, off, rfl, hx⟩ := HX.out (by omega)
      obtain ⟨y, hy⟩ : ∃ y, l[k]? = some y := ⟨l[k]'(by rw [HM.out]; exact hlt), List.getElem?_eq_getElem _⟩
      have cx := hx k y hy
      have HNO := Lib.hid hno
      have HY := Lib.hid hy
      clear hx hno hy
      by_cases e : (y : Int) = i
      · have n1 : ((y : Int) == i) = true := by simpa using e
        have hany : l.any (fun (x : Nat) => (x : Int) == i) = true := by
          rw [List.any_eq_true]
          exact ⟨y, List.mem_of_getElem? HY.out, n1⟩
        have hq := HR.out
        rw [hany] at hq
        have HQ2 := Lib.hid hq
        clear e hany hq
        go_wp2_with fail
        go_ret
        exact ⟨by rw [← HQ2.out]; rfl, HB.out⟩
      · have n1 : ((y : Int) == i) = false := by simpa using e
        have HNO2 := Lib.hid (show ∀ s ∈ l.take (k + 1), (s : Int) ≠ i by
          intro s hs
          rw [List.take_add_one, HY.out] at hs
          rcases List.mem_append.1 hs with hs | hs
          · exact HNO.out s hs
          · simp at hs; subst hs; exact e)
        clear e
        go_wp2_with fail
        go_roundw
        case rel => exact ⟨k + 1, by omega, by go_num, HNO2.out, trivial⟩
        case measure => simp [intOf]; omega
    · obtain rfl : k = m := by omega
      have hany : l.any (fun (x : Nat) => (x : Int) == i) = false := by
        rw [List.any_eq_false]
        intro s hs
        have := hno s (by rw [← HM.out, List.take_length]; exact hs)
        simpa using this
      have hq := HR.out
      rw [hany] at hq
      have HQ2 := Lib.hid hq
      clear hany hq hno
      go_wp2_with fail
      go_ret
      exact ⟨by rw [← HQ2.out]; rfl, HB.out⟩

def rFreeD (n : Nat) (bs : Nat → Bk) (b : Int) : Bool := if b ≠ -1 ∧ isB n b = false then false else (wayD n bs b).all fun (x : Nat) => bs x 17 == 4

set_option maxRecDepth 100000 in
set_option maxHeartbeats 1000000 in
theorem RFree_any (h : SlB w v n bs) (hu : Ups n bs) (hn : n ≤ 32) (b : Int) : Calls Try.prog 36 #[v, .int .i64 b] w fun r w' => r = .returned (.bool (rFreeD n bs b)) ∧ Below w.heap.size w w' := by
  have HI := Lib.hid (RIs_any h b)
  have HW := Lib.hid (RWay_any h hu hn b)
  have H := Lib.hid h
  unfold rFreeD
  by_cases hno : b ≠ -1 ∧ isB n b = false
  · rw [if_pos hno]
    rw [hno.2] at HI
    have n1 : (b == -1) = false := by simpa using hno.1
    have n2 : (b != -1) = true := by simpa using hno.1
    obtain ⟨a, cap, rfl, hg⟩ := h
    clear hu hno hg
    go_enter Try.func36, Try.ntmps36
    go_wp2_with fail
    refine HI.out.mono ?_
    rintro r w' ⟨rfl, rfl⟩
    go_wp2_with fail
    go_ret
    exact ⟨rfl, Below.refl _ _⟩
  · rw [if_neg hno]
    have hll := way_len40 (bs := bs) hn b
    have hlt := wayI_lt (n := n) (bs := bs) (b + 1).toNat b
    have HLT := Lib.hid (show ∀ x ∈ wayD n bs b, x < n from hlt)
    generalize wayD n bs b = l at *
    obtain ⟨R, hR⟩ : ∃ R, l.all (fun (x : Nat) => bs x 17 == 4) = R := ⟨_, rfl⟩
    rw [hR]
    have HR := Lib.hid hR
    obtain ⟨a, cap, rfl, hg⟩ := h
    have HG := Lib.hid hg
    have hcase : b = -1 ∨ (b ≠ -1 ∧ isB n b = true) := by
      by_cases e : b = -1
      · exact .inl e
      · exact .inr ⟨e, by cases hh : isB n b; exact absurd ⟨e, hh⟩ hno; rfl⟩
    clear hu hR hlt hno hg
    have key : ∀ (K : Prop), (∀ (_ : b = -1), K) → (∀ (_ : b ≠ -1 ∧ isB n b = true), K) → K := fun K h1 h2 => hcase.elim h1 h2
    clear key
    rcases hcase with rfl | ⟨e, hb⟩
    · go_enter Try.func36, Try.ntmps36
      go_wp2_with fail
      refine HW.out.mono ?_
      rintro r w1 ⟨u, rfl, ho, hB⟩
      have HB := Lib.hid hB
      obtain ⟨ua, ucap, hu, hux⟩ := SlL.own ho
      subst hu
      have HX := Lib.hid hux
      obtain ⟨m, hm⟩ : ∃ m, l.length = m := ⟨_, rfl⟩
      have HM := Lib.hid hm
      rw [hm] at HX hll
      rw [hm]
      clear ho hB hux hm HW
      go_wp2_with fail
      go_loopw [19] (fun x wr => ∃ k : Nat, k ≤ m ∧ x = .int .i64 k ∧ (∀ y ∈ l.take k, bs y 17 = 4) ∧ w1 = wr) (fun x _ => m - (intOf x).toNat)
      case atStart => exact ⟨0, Nat.zero_le _, rfl, by simp, rfl⟩
      case round =>
        obtain ⟨k, hk, rfl, hno, rfl⟩ := hrel
        by_cases hlt : k < m
        · have hltI : (k : Int) < m := by omega
          obtain ⟨g, off, rfl, hx⟩ := HX.out (by omega)
          obtain ⟨y, hy⟩ : ∃ y, l[k]? = some y := ⟨l[k]'(by rw [HM.out]; exact hlt), List.getElem?_eq_getElem _⟩
          have cx := hx k y hy
          have hyn := HLT.out y (List.mem_of_getElem? hy)
          obtain ⟨ga, rfl, hgx⟩ := HG.out (by omega)
          have k2 := (HB.out.cell (p := ⟨ga, y * 19 + 17, none⟩) (World.block_lt_of_cell? _ _ (hgx y 17 hyn (by omega)))).trans (hgx y 17 hyn (by omega))
          rw [show buKind 17 = .i64 from rfl] at k2
          have HNO := Lib.hid hno
          have HY := Lib.hid hy
          clear hx hno hy hgx
          by_cases e4 : bs y 17 = 4
          · rw [e4] at k2
            have HNO2 := Lib.hid (show ∀ s ∈ l.take (k + 1), bs s 17 = 4 by
              intro s hs
              rw [List.take_add_one, HY.out] at hs
              rcases List.mem_append.1 hs with hs | hs
              · exact HNO.out s hs
              · simp at hs; subst hs; exact e4)
            clear e4
            go_wp2_with fail
            go_roundw
            case rel => exact ⟨k + 1, by omega, by go_num, HNO2.out, trivial⟩
            case measure => simp [intOf]; omega
          · have n4 : (bs y 17 == 4) = false := by simpa using e4
            have n5 : (bs y 17 != 4) = true := by simpa using e4
            have hall : l.all (fun (x : Nat) => bs x 17 == 4) = false := by
              rw [List.all_eq_false]
              exact ⟨y, List.mem_of_getElem? HY.out, by rw [n4]; simp⟩
            have hq := HR.out
            rw [hall] at hq
            have HQ2 := Lib.hid hq
            clear hall hq e4
            generalize bs y 17 = st at *
            go_wp2_with fail
            go_ret
            exact ⟨by rw [← HQ2.out]; rfl, HB.out⟩
        · obtain rfl : k = m := by omega
          have hall : l.all (fun (x : Nat) => bs x 17 == 4) = true := by
            rw [List.all_eq_true]
            intro s hs
            have := hno s (by rw [← HM.out, List.take_length]; exact hs)
            simpa using this
          have hq := HR.out
          rw [hall] at hq
          have HQ2 := Lib.hid hq
          clear hall hq hno
          go_wp2_with fail
          go_ret
          exact ⟨by rw [← HQ2.out]; rfl, HB.out⟩
    · rw [hb] at HI
      have n1 : (b == -1) = false := by simpa using e
      have n2 : (b != -1) = true := by simpa using e
      clear e hb
      go_enter Try.func36, Try.ntmps36
      go_wp2_with fail
      refine HI.out.mono ?_
      rintro r w' ⟨rfl, rfl⟩
      go_wp2_with fail
      refine HW.out.mono ?_
      rintro r w1 ⟨u, rfl, ho, hB⟩
      have HB := Lib.hid hB
      obtain ⟨ua, ucap, hu, hux⟩ := SlL.own ho
      subst hu
      have HX := Lib.hid hux
      obtain ⟨m, hm⟩ : ∃ m, l.length = m := ⟨_, rfl⟩
      have HM := Lib.hid hm
      rw [hm] at HX hll
      rw [hm]
      clear ho hB hux hm HW
      go_wp2_with fail
      go_loopw [19] (fun x wr => ∃ k : Nat, k ≤ m ∧ x = .int .i64 k ∧ (∀ y ∈ l.take k, bs y 17 = 4) ∧ w1 = wr) (fun x _ => m - (intOf x).toNat)
      case atStart => exact ⟨0, Nat.zero_le _, rfl, by simp, rfl⟩
      case round =>
        obtain ⟨k, hk, rfl, hno, rfl⟩ := hrel
        by_cases hlt : k < m
        · have hltI : (k : Int) < m := by omega
          obtain ⟨g, off, rfl, hx⟩ := HX.out (by omega)
          obtain ⟨y, hy⟩ : ∃ y, l[k]? = some y := ⟨l[k]'(by rw [HM.out]; exact hlt), List.getElem?_eq_getElem _⟩
          have cx := hx k y hy
          have hyn := HLT.out y (List.mem_of_getElem? hy)
          obtain ⟨ga, rfl, hgx⟩ := HG.out (by omega)
          have k2 := (HB.out.cell (p := ⟨ga, y * 19 + 17, none⟩) (World.block_lt_of_cell? _ _ (hgx y 17 hyn (by omega)))).trans (hgx y 17 hyn (by omega))
          rw [show buKind 17 = .i64 from rfl] at k2
          have HNO := Lib.hid hno
          have HY := Lib.hid hy
          clear hx hno hy hgx
          by_cases e4 : bs y 17 = 4
          · rw [e4] at k2
            have HNO2 := Lib.hid (show ∀ s ∈ l.take (k + 1), bs s 17 = 4 by
              intro s hs
              rw [List.take_add_one, HY.out] at hs
              rcases List.mem_append.1 hs with hs | hs
              · exact HNO.out s hs
              · simp at hs; subst hs; exact e4)
            clear e4
            go_wp2_with fail
            go_roundw
            case rel => exact ⟨k + 1, by omega, by go_num, HNO2.out, trivial⟩
            case measure => simp [intOf]; omega
          · have n4 : (bs y 17 == 4) = false := by simpa using e4
            have n5 : (bs y 17 != 4) = true := by simpa using e4
            have hall : l.all (fun (x : Nat) => bs x 17 == 4) = false := by
              rw [List.all_eq_false]
              exact ⟨y, List.mem_of_getElem? HY.out, by rw [n4]; simp⟩
            have hq := HR.out
            rw [hall] at hq
            have HQ2 := Lib.hid hq
            clear hall hq e4
            generalize bs y 17 = st at *
            go_wp2_with fail
            go_ret
            exact ⟨by rw [← HQ2.out]; rfl, HB.out⟩
        · obtain rfl : k = m := by omega
          have hall : l.all (fun (x : Nat) => bs x 17 == 4) = true := by
            rw [List.all_eq_true]
            intro s hs
            have := hno s (by rw [← HM.out, List.take_length]; exact hs)
            simpa using this
          have hq := HR.out
          rw [hall] at hq
          have HQ2 := Lib.hid hq
          clear hall hq hno
          go_wp2_with fail
          go_ret
          exact ⟨by rw [← HQ2.out]; rfl, HB.out⟩
end
end Go.Proofs.Ytmbdhpibkhgkcaa
