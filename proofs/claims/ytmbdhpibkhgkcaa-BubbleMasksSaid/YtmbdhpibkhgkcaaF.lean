/- Slices that read as lists; Has and Make (the document's, package pinfoldref01). No condition. -/
import Derived.Test.YtmbdhpibkhgkcaaE
namespace Go.Proofs.Ytmbdhpibkhgkcaa
open Go.RowKit

theorem Try.info3i : (Try.prog.info? 3).map (fun i => (i.zero, i.size, i.bytes)) = some (some (.int .i64 0), 1, 8) := by kernel_rfl
def intsL (l : List Nat) : List Value := l.map fun (x : Nat) => .int .i64 (x : Int)
theorem intsL_snoc (l : List Nat) (k : Nat) (h : k < l.length) : intsL (l.take k) ++ [.int .i64 ((l[k] : Nat) : Int)] = intsL (l.take (k + 1)) := by
  unfold intsL
  rw [List.take_succ_eq_append_getElem h, List.map_append]
  rfl

theorem cells_new1 (w : World) (a : Value) (t : TypeId) : ∀ j u, ([a] : List Value)[j]? = some u → (w.alloc (.cells #[a] t)).cell? ((⟨w.heap.size, 0, none⟩ : Addr).add j) = some u := by
  intro j u h
  match j, h with
  | 0, h => simp at h; subst h; simp [Addr.add]

def slLen : Value → Nat
  | .slice _ n _ => n
  | _ => 0
theorem own_slLen {w : World} {base t sz n : Nat} {v : Value} {xs : List Value} (h : w.ownsRow base t sz v n xs) : slLen v = n := by
  rcases h.2 with ⟨rfl, rfl⟩ | ⟨g, cap, cur, rfl, _⟩ <;> rfl

/-- A slice that reads as a list. -/
def SlL (w : World) (v : Value) (l : List Nat) : Prop := ∃ a cap, v = .slice a l.length cap ∧ (0 < l.length → ∃ g off, a = some ⟨g, off, none⟩ ∧ ∀ i x, l[i]? = some x → w.cell? ⟨g, off + i, none⟩ = some (.int .i64 (x : Nat)))

theorem SlL.own {w : World} {base : Nat} {v : Value} {l : List Nat} (h : w.ownsRow base 3 1 v l.length (intsL l)) : SlL w v l := by
  rcases h.2 with ⟨rfl, h0⟩ | ⟨g, cap, cur, rfl, _⟩
  · exact ⟨none, 0, by rw [h0], fun h => by omega⟩
  · refine ⟨_, cap, rfl, fun _ => ⟨g, 0, rfl, fun i x hx => ?_⟩⟩
    have hi : i < l.length := (List.getElem?_eq_some_iff.1 hx).1
    rw [Nat.zero_add, h.cellAt i (by omega)]
    unfold intsL
    rw [List.getElem?_map, hx]
    rfl

theorem SlL.of_cells {w w' : World} {v : Value} {l : List Nat} (h : SlL w v l) (hc : ∀ p : Addr, p.block < w.heap.size → w'.cell? p = w.cell? p) : SlL w' v l := by
  obtain ⟨a, cap, rfl, h⟩ := h
  refine ⟨a, cap, rfl, fun h0 => ?_⟩
  obtain ⟨g, off, rfl, hx⟩ := h h0
  exact ⟨g, off, rfl, fun i x hi => (hc _ (World.block_lt_of_cell? _ _ (hx i x hi))).trans (hx i x hi)⟩

set_option maxRecDepth 100000 in
theorem Same_eq {w : World} {u v : Value} {l : List Nat} (hu : SlL w u l) (hv : SlL w v l) (hl : l.length ≤ 1000) : Calls Try.prog 32 #[u, v] w fun r w' => r = .returned (.bool true) ∧ ∃ k, w' = w.drewN k := by
  obtain ⟨a, cap, rfl, ha⟩ := hu
  obtain ⟨b, cap2, rfl, hb⟩ := hv
  have HA := Lib.hid ha
  have HBb := Lib.hid hb
  obtain ⟨n, hn⟩ : ∃ n, l.length = n := ⟨_, rfl⟩
  have HN := Lib.hid hn
  rw [hn] at HA HBb hl
  rw [hn]
  clear ha hb hn
  go_enter Try.func32, Try.ntmps32
  go_wp2_with fail
  go_loopw [13] (fun i wr => ∃ k : Nat, k ≤ n ∧ i = .int .i64 k ∧ ∃ m, wr = w.drewN m) (fun i _ => n - (intOf i).toNat)
  case atStart => exact ⟨0, Nat.zero_le _, rfl, 0, rfl⟩
  case round =>
    obtain ⟨k, hk, rfl, m, rfl⟩ := hrel
    by_cases hlt : k < n
    · obtain ⟨g, off, rfl, hx⟩ := HA.out (by omega)
      obtain ⟨g2, off2, rfl, hy⟩ := HBb.out (by omega)
      have hkl : k < l.length := by have := HN.out; omega
      obtain ⟨x, hx0⟩ : ∃ x, l[k]? = some x := ⟨_, List.getElem?_eq_getElem hkl⟩
      have c0 : (w.drewN m).cell? ⟨g, off + k, none⟩ = some (.int .i64 x) := hx k x hx0
      have c1 : (w.drewN m).cell? ⟨g2, off2 + k, none⟩ = some (.int .i64 x) := hy k x hx0
      obtain ⟨wo, hwo⟩ : ∃ wo : World, w.drewN m = wo := ⟨_, rfl⟩
      have HWO := Lib.hid hwo
      rw [hwo] at c0 c1
      rw [hwo]
      clear hwo hx hy hx0 hkl
      go_wp2_with fail
      go_region
      go_wp2_with fail
      go_roundw
      case rel => exact ⟨k + 1, by omega, by go_num, m + 1, by rw [← HWO.out]; rfl⟩
      case measure => simp [intOf]; omega
    · obtain rfl : k = n := by omega
      go_wp2_with fail
      go_ret
      exact ⟨rfl, m, rfl⟩

/-- A row read whole, where its guard lets it. -/
theorem wpList_load_want {P : Program} {ops : Array Oper} {rest : List Oper} {o : Oper} {a : Act} {w : World} {Q : Exit → Act → World → Prop} (ty : TypeId) (x : Operand) (ho : o.op = .load ty x)
    (g : Nat) (hx : a.eval x = .pointer (some ⟨g, 0, none⟩)) (t : TypeId) (cs : Array Value) (fr : Nat × Nat) (d : TypeDesc) (hg : w.heap[g]? = some (.cells cs t fr))
    (hu : P.underlying ty = some d) (hd : (match d with | .struct _ | .array _ _ => true | _ => false) = true) (hi : (P.info? ty).map (·.size) = some cs.size)
    (hw : Region.wanted o (yielded ops a.tmps) = true) (h : wpList P ops Q rest (a.put o.dst (.agg cs)) w) : wpList P ops Q (o :: rest) a w := by
  unfold wpList
  rw [if_pos hw]
  exact .inl (wp_load_row ty x ho g hx t cs fr d hg hu hd hi h)

def hasW (s : Ws) (n : Nat) : Bool := (s (n / 64) / 2 ^ (n % 64)) % 2 == 1

set_option maxRecDepth 100000 in
theorem Has_any (s : Ws) (h0 : ∀ o, o < 16 → 0 ≤ s o) (n : Nat) (h : n < 1024) (w : World) : Calls Try.prog 23 #[wsV s, .int .i64 n] w fun r w' => r = .returned (.bool (hasW s n)) ∧ Below w.heap.size w w' := by
  have hk : n / 64 < 16 := by omega
  have HA := Lib.hid (show WsAt (w.alloc (.cells (wsArr s) 29)) w.heap.size s from heap_alloc_new _ _)
  have HB := Lib.hid ((Below.refl w.heap.size w).alloc (Nat.le_refl _) (.cells (wsArr s) 29))
  unfold wsV
  obtain ⟨S, hS⟩ : ∃ S, S = wsArr s := ⟨_, rfl⟩
  rw [← hS] at HA HB
  rw [← hS]
  clear hS
  have hp : hasW s n = ((s (n / 64) / 2 ^ (n % 64)) % 2 == 1) := rfl
  rw [hp]
  have hm : n % 64 < 64 := by omega
  have hq : (n : Int) / 64 = ((n / 64 : Nat) : Int) := by omega
  have hr : (n : Int) % 64 = ((n % 64 : Nat) : Int) := by omega
  have hd : 0 ≤ s (n / 64) / 2 ^ (n % 64) := Int.ediv_nonneg (h0 _ hk) (Int.le_of_lt (Int.pow_pos (by decide)))
  have h1 : ¬ (1023 : Int) < n := by omega
  clear hp h0
  generalize n / 64 = k at *
  generalize n % 64 = m at *
  go_enter Try.func23, Try.ntmps23
  go_upto_region 1 with fail
  obtain ⟨W1, hW1⟩ : ∃ W1, w.alloc (.cells S 29) = W1 := ⟨_, rfl⟩
  obtain ⟨A, hA⟩ : ∃ A, w.heap.size = A := ⟨_, rfl⟩
  rw [hW1, hA] at HA
  rw [hW1] at HB
  rw [hW1, hA]
  clear hW1 hA
  have c1 := HA.out.cell hk
  go_wp2_with fail
  go_ret
  exact ⟨rfl, HB.out⟩

def mkStep (s : Ws) (n : Nat) : Ws := if hasW s n then s else setw s (n / 64) (IntKind.u64.wrap (s (n / 64) + IntKind.u64.wrap (2 ^ (n % 64))))
def mkW (l : List Nat) : Ws := l.foldl mkStep ws0
theorem u64_nn (x : Int) : 0 ≤ IntKind.u64.wrap x := by
  unfold IntKind.wrap
  simp [IntKind.signed, IntKind.bits]
  try exact Int.emod_nonneg _ (by decide)
theorem mkStep_nn {s : Ws} (h : ∀ o, o < 16 → 0 ≤ s o) (n : Nat) : ∀ o, o < 16 → 0 ≤ mkStep s n o := by
  intro o ho
  unfold mkStep
  split
  · exact h o ho
  · unfold setw
    split
    · exact u64_nn _
    · exact h o ho
theorem mkL_nn (l : List Nat) : ∀ (s : Ws), (∀ o, o < 16 → 0 ≤ s o) → ∀ o, o < 16 → 0 ≤ l.foldl mkStep s o := by
  induction l with
  | nil => exact fun s h => h
  | cons n l ih => exact fun s h => ih _ (mkStep_nn h n)
theorem mkW_nn (l : List Nat) : ∀ o, o < 16 → 0 ≤ mkW l o := mkL_nn l ws0 (fun _ _ => Int.le_refl _)
theorem mkW_snoc (l : List Nat) (n : Nat) : mkW (l ++ [n]) = mkStep (mkW l) n := by simp [mkW]

set_option maxRecDepth 100000 in
set_option maxHeartbeats 1000000 in
theorem Make01_any {v : Value} {l : List Nat} {w : World} (hv : SlL w v l) (hl : ∀ x ∈ l, x < 1024) (hlen : l.length ≤ 2000) : Calls Try.prog 9 #[v] w fun r w' => r = .returned (wsV (mkW l)) ∧ Below w.heap.size w w' := by
  have hz := zero29
  obtain ⟨a, cap, rfl, ha⟩ := hv
  have HSL := Lib.hid ha
  obtain ⟨W1, hW1⟩ : ∃ W1, (w.alloc (.cells (wsArr ws0) 29)).alloc (.cells (wsArr ws0) 29) = W1 := ⟨_, rfl⟩
  obtain ⟨A, hA⟩ : ∃ A, w.heap.size = A := ⟨_, rfl⟩
  have HR1 := Lib.hid (show WsAt W1 A ws0 by
    unfold WsAt
    rw [← hW1, ← hA, heap_alloc_old _ _ (by simp)]
    exact heap_alloc_new _ _)
  have HS1 := Lib.hid (show WsAt W1 (A + 1) (mkW []) by
    unfold WsAt
    rw [← hW1, ← hA]
    have := heap_alloc_new (w.alloc (.cells (wsArr ws0) 29)) (.cells (wsArr ws0) 29)
    rw [World.size_alloc] at this
    exact this)
  have HB1 := Lib.hid (show Below w.heap.size w W1 by
    rw [← hW1]
    exact ((Below.refl w.heap.size w).alloc (Nat.le_refl _) _).alloc (by simp) _)
  have HAA := Lib.hid (show w.heap.size ≤ A by omega)
  unfold wsV
  obtain ⟨Z, hZ⟩ : ∃ Z, Z = wsArr ws0 := ⟨_, rfl⟩
  simp only [← hZ] at hz
  rw [← hZ] at hW1
  have HZ := Lib.hid hZ
  clear hZ ha
  obtain ⟨n, hn⟩ : ∃ n, l.length = n := ⟨_, rfl⟩
  have HN := Lib.hid hn
  have HLT := Lib.hid hl
  rw [hn] at hlen HSL
  rw [hn]
  clear hn hl
  go_enter Try.func9, Try.ntmps9
  go_upto_region 2 with fail
  clear hW1 hA hz
  go_wp2_with fail
  go_loopw [8] (fun x wr => ∃ k : Nat, k ≤ n ∧ x = .int .i64 k ∧ WsAt wr A ws0 ∧ WsAt wr (A + 1) (mkW (l.take k)) ∧ Below w.heap.size w wr) (fun x _ => n - (intOf x).toNat)
  case atStart => exact ⟨0, Nat.zero_le _, rfl, HR1.out, HS1.out, HB1.out⟩
  case round =>
    clear HR1 HS1 HB1
    obtain ⟨k, hk, rfl, hR, hS, hB⟩ := hrel
    have HB := Lib.hid hB
    have HR := Lib.hid hR
    have HSS := Lib.hid hS
    by_cases hlt : k < n
    · have hltI : (k : Int) < n := by omega
      obtain ⟨g, off, rfl, hx⟩ := HSL.out (by omega)
      obtain ⟨y, hy⟩ : ∃ y, l[k]? = some y := ⟨l[k]'(by rw [HN.out]; exact hlt), List.getElem?_eq_getElem _⟩
      have hy2 : y < 1024 := HLT.out y (List.mem_of_getElem? hy)
      have cx := hx k y hy
      have cx2 := (hB.cell (p := ⟨g, off + k, none⟩) (World.block_lt_of_cell? _ _ cx)).trans cx
      have HTK := Lib.hid (show mkW (l.take (k + 1)) = mkStep (mkW (l.take k)) y by rw [List.take_add_one, hy]; exact mkW_snoc _ _)
      have hnn := mkW_nn (l.take k)
      generalize mkW (l.take k) = s at *
      have HH := Lib.hid (fun w => Has_any s hnn y hy2 w)
      have s0 := size29 s
      have y0 : (0 : Int) ≤ y := by omega
      have y1 : (y : Int) ≤ 1023 := by omega
      clear hx cx hy hR hS hB
      unfold wsV at HH
      have HSA := Lib.hid (show wr.heap[A + 1]? = some (.cells (wsArr s) 29 (0, 0)) from HSS.out)
      obtain ⟨S, hS⟩ : ∃ S, wsArr s = S := ⟨_, rfl⟩
      rw [hS] at HH s0 HSA
      clear hS
      cases hb : hasW s y with
      | true =>
        rw [hb] at HH
        have HQ := Lib.hid (show mkStep s y = s by unfold mkStep; rw [if_pos hb])
        clear hb
        go_wp2_with (refine wpList_load_want 29 (.tmp 3) rfl (A + 1) rfl 29 S (0, 0) _ HSA.out Try.underlying29 rfl s0 (by first | rfl | simp [Region.wanted, yielded]) ?_)
        refine (HH.out _).mono ?_
        rintro r w2 ⟨rfl, hb⟩
        have HB2 := Lib.hid hb
        clear hb
        go_wp2_with fail
        go_roundw
        case rel => exact ⟨k + 1, by omega, by go_num, HR.out.below HB2.out, by rw [HTK.out, HQ.out]; exact HSS.out.below HB2.out, HB.out.trans (HB2.out.mono HB.out.size)⟩
        case measure => simp [intOf]; omega
      | false =>
        rw [hb] at HH
        have hp : mkStep s y = setw s (y / 64) (IntKind.u64.wrap (s (y / 64) + IntKind.u64.wrap (2 ^ (y % 64)))) := by unfold mkStep; rw [if_neg (by rw [hb]; simp)]
        have HQ := Lib.hid hp
        clear hb hp
        have hkq : y / 64 < 16 := by omega
        have hm : y % 64 < 64 := by omega
        have hq : (y : Int) / 64 = ((y / 64 : Nat) : Int) := by omega
        have hr : (y : Int) % 64 = ((y % 64 : Nat) : Int) := by omega
        generalize y / 64 = q at *
        generalize y % 64 = m at *
        go_wp2_with (refine wpList_load_want 29 (.tmp 3) rfl (A + 1) rfl 29 S (0, 0) _ HSA.out Try.underlying29 rfl s0 (by first | rfl | simp [Region.wanted, yielded]) ?_)
        refine (HH.out _).mono ?_
        rintro r w2 ⟨rfl, hb⟩
        have HB2 := Lib.hid (HB.out.trans (hb.mono HB.out.size))
        have HS2 := Lib.hid (HSS.out.below hb)
        have HR2 := Lib.hid (HR.out.below hb)
        clear hb cx2
        have c1 := HS2.out.cell hkq
        have f1 := HS2.out.frozen q
        have hne : A ≠ A + 1 := by omega
        go_wp2_with fail
        go_region
        go_wp2_with fail
        go_roundw
        case rel =>
          refine ⟨k + 1, by omega, by go_num, ?_, ?_, ?_⟩
          · exact (heap_setCell_other w2 ⟨A + 1, q, none⟩ A _ hne).trans HR2.out
          · rw [HTK.out, HQ.out]; exact HS2.out.set q _
          · exact (HB2.out.setCell (p := ⟨A + 1, q, none⟩) (Nat.le_trans HAA.out (Nat.le_succ _)) _).drew
        case measure => simp [intOf]; omega
    · obtain rfl : k = n := by omega
      have HTK := Lib.hid (show l.take k = l by rw [← HN.out, List.take_length])
      have HA := Lib.hid (show wr.heap[A + 1]? = some (.cells (wsArr (mkW l)) 29 (0, 0)) by rw [← HTK.out]; exact hS)
      have HC2 := Lib.hid (show wr.heap[A]? = some (.cells Z 29 (0, 0)) by rw [HZ.out]; exact hR)
      have s1 := size29 (mkW l)
      have s2 := one29 (mkW l)
      have z3 : Z.size = (wsArr (mkW l)).size := by rw [HZ.out, wsArr_size, wsArr_size]
      obtain ⟨U, hU⟩ : ∃ U, wsArr (mkW l) = U := ⟨_, rfl⟩
      rw [hU] at HA s1 s2 z3
      have HU := Lib.hid hU
      clear hU hR hS hB hlt HR HSS
      go_wp2_with (first | (refine wpList_load_row rfl 29 _ rfl (A + 1) rfl 29 U (0, 0) _ HA.out Try.underlying29 rfl s1 ?_) | (refine wpList_store_row rfl 29 _ _ rfl A U rfl rfl 29 Z HC2.out s1 z3 s2 ?_))
      exact bodyPost_ret (results_c1 rfl _ _ A 29 U _ rfl (setRow_heap wr A Z U 29 (0, 0) HC2.out) Try.underlying29 rfl s1) rfl ⟨by rw [HU.out], below_setRow HB.out HAA.out _⟩
end Go.Proofs.Ytmbdhpibkhgkcaa
